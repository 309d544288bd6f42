/- Walks of the reference's functions on texts (layer 1): folding, words, cleaning, joining, comparing lists. -/
import Derived.Test.YtamdimjinbaigaaDoorRefc
import Derived.Test.YtamdimjinbaigaaDoorFln
namespace Go.Proofs.YtamdimjinbaigaaDoor
open Go Go.RowKit

theorem bs_toList (cs : List Nat) : (bs cs).toList = enc cs := by rw [ByteArray.toList_eq, bs_data]
theorem bs_empty {cs : List Nat} (h : (bs cs).toList.isEmpty = true) : cs = [] := by
  rw [bs_toList, List.isEmpty_iff] at h
  exact enc_eq_nil h
theorem bs_full {cs : List Nat} (h : (bs cs).toList.isEmpty = false) : cs ≠ [] := by
  rintro rfl
  rw [bs_toList] at h
  simp [enc_nil] at h
theorem bs_full' {cs : List Nat} (h : cs ≠ []) : (bs cs).toList.isEmpty = false := by
  rw [bs_toList]
  cases he : enc cs with
  | nil => exact absurd (enc_eq_nil he) h
  | cons => rfl
theorem rf_len (c : Nat) (h : okc c = true) : (bs (rf c)).size ≤ (enc1 c).length := by
  have h1 := foldc_enc c h
  rw [rf_eq c] at h1
  rw [bs_size]
  by_cases h0 : rf c = []
  · rw [h0, enc_nil]; simp
  · rw [if_neg h0] at h1; exact h1

set_option maxRecDepth 100000 in
set_option maxHeartbeats 1000000 in
theorem rFold (cs : List Nat) (w : World) (hok : okt cs = true) (hs : (bs cs).size ≤ 4000000000) :
    Calls Tryd.prog 17 #[.string (bs cs)] w fun e w' => e = .returned (.string (bs (fold cs))) ∧ Dr w w' := by
  obtain ⟨A, hA⟩ : ∃ A, A = fold cs := ⟨_, rfl⟩
  rw [← hA]
  have HA := Lib.hid hA; clear hA
  go_enter Tryd.func17, Tryd.ntmps17
  go_wp2
  go_loopw [3, 4] (fun o i wr => ∃ (k : Nat) (r p : List Nat), i = .int .i64 k ∧ At cs k r ∧ o = .string (bs p) ∧ Hid (A = p ++ fold r) ∧ (bs p).size ≤ k ∧ Dr w wr) (fun _ i _ => (bs cs).size - (intOf i).toNat)
  case atStart => exact ⟨0, cs, [], rfl, At.start cs, rfl, HA, by rw [bs_size, enc_nil]; simp, Dr.refl _⟩
  case round =>
    obtain ⟨k, r, p, rfl, hat, rfl, HM, hp, hd⟩ := hrel
    clear HA
    cases r with
    | nil =>
      have hk := hat.le
      rw [enc_nil, List.length_nil] at hk
      have hkz : (bs cs).size ≤ k := by omega
      have H : Hid (A = p) := Lib.hid (by rw [HM.out]; simp [fold])
      clear hk HM
      go_wp2
      go_ret
      exact ⟨by first | (rw [H.out]; done) | (rw [H.out]; rfl), hd⟩
    | cons c r =>
      obtain ⟨h1, h2⟩ := hat.lt
      have h3 := enc1_len c
      have hc := hat.okc hok
      have hc2 := (okc_small hc).2
      have hfe := foldc_enc c hc
      have hrf := rf_eq c
      have HM2 : Hid (A = (p ++ foldc c) ++ fold r) := Lib.hid (by rw [HM.out, List.append_assoc]; rfl)
      clear HM
      have hz := rf_len c hc
      have HR := Lib.hid hrf
      have HP := Lib.hid hat.piece
      have hcz : (bs [c]).size = (enc1 c).length := by rw [bs_size]; simp [enc]
      have HCZ := Lib.hid hcz
      clear hrf hc hcz
      go_wp2_with (first | (go_at_call 27; refine (decode_text cs k c r _ hok hs hat).mono ?_; rintro e w' ⟨rfl, hw⟩) | (go_at_call 29; refine (size_text cs k c r _ hok hs hat).mono ?_; rintro e w'' ⟨rfl, hw2⟩) | (go_at_call 34; refine (rfold c _ hc2).mono ?_; rintro e w3 ⟨rfl, hw3⟩))
      · have h0 := bs_empty (by assumption)
        have hrf := HR.out
        rw [if_pos h0] at hrf
        rw [hrf] at HM2 hfe
        go_roundw
        case rel =>
          refine ⟨k + (enc1 c).length, r, p ++ [c], by go_num, hat.next, ?_, HM2, ?_, ((hd.trans hw).trans hw2).trans hw3⟩
          · rw [HP.out, bs_append]
          · rw [bs_size, enc_append]; rw [bs_size] at hp; simp [enc] at hp ⊢; omega
        case measure => simp [intOf]; omega
      · have h0 := bs_full (by assumption)
        have hrf := HR.out
        rw [if_neg h0] at hrf
        rw [hrf] at HM2 hfe
        go_roundw
        case rel =>
          refine ⟨k + (enc1 c).length, r, p ++ rf c, by go_num, hat.next, ?_, HM2, ?_, ((hd.trans hw).trans hw2).trans hw3⟩
          · rw [bs_append]
          · rw [bs_size, enc_append, List.length_append]; rw [bs_size] at hp hz; omega
        case measure => simp [intOf]; omega
end Go.Proofs.YtamdimjinbaigaaDoor
