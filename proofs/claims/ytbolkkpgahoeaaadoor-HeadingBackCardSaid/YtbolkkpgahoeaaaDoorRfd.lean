/- Walks of the reference's fold and Fold (layer 1). -/
import Derived.Test.YtbolkkpgahoeaaaDoorRsz
import Derived.Test.YtbolkkpgahoeaaaDoorBse
namespace Go.Proofs.YtbolkkpgahoeaaaDoor
open Go Go.RowKit

/-- What the reference's fold gives: nothing if the character stays. -/
def rf (c : Nat) : List Nat :=
  if 65 ≤ c ∧ c ≤ 90 then [c + 32]
  else if c < 192 ∨ 255 < c ∨ c = 215 ∨ c = 247 then []
  else if c = 223 then [115, 115]
  else if c = 255 then [121]
  else foldd (if 224 ≤ c then c - 32 else c)
set_option maxRecDepth 100000 in
theorem rf_small : ∀ x : Fin 256, foldc x.val = if rf x.val = [] then [x.val] else rf x.val := by decide
set_option maxRecDepth 100000 in
theorem lower_piece : ∀ x : Fin 26, (⟨#[97, 98, 99, 100, 101, 102, 103, 104, 105, 106, 107, 108, 109, 110, 111, 112, 113, 114, 115, 116, 117, 118, 119, 120, 121, 122]⟩ : ByteArray).extract x.val (x.val + 1) = bs [x.val + 97] := by decide
theorem lower_at (c : Nat) (h : 65 ≤ c) (h2 : c ≤ 90) : (⟨#[97, 98, 99, 100, 101, 102, 103, 104, 105, 106, 107, 108, 109, 110, 111, 112, 113, 114, 115, 116, 117, 118, 119, 120, 121, 122]⟩ : ByteArray).extract (c - 65) (c - 64) = bs [c + 32] := by
  have := lower_piece ⟨c - 65, by omega⟩
  simp only at this
  rw [show c - 65 + 1 = c - 64 by omega, show c - 65 + 97 = c + 32 by omega] at this
  exact this
theorem rf_eq (c : Nat) : foldc c = if rf c = [] then [c] else rf c := by
  by_cases h : c < 256
  · exact rf_small ⟨c, h⟩
  · have e : rf c = [] := by unfold rf; rw [if_neg (by omega), if_pos (by omega)]
    rw [e, if_pos rfl, foldc_big c (by omega)]
set_option maxRecDepth 100000 in
set_option maxHeartbeats 1000000 in
theorem rfold (c : Nat) (w : World) (hc : c < 65536) :
    Calls Tryd.prog 68 #[.int .i64 c] w fun e w' => e = .returned (.string (bs (rf c))) ∧ Dr w w' := by
  go_enter Tryd.func68, Tryd.ntmps68
  go_wp2
  · go_ret
    refine ⟨?_, Dr.refl _⟩
    have e : rf c = [c + 32] := by unfold rf; rw [if_pos (by omega)]
    rw [e, ← lower_at c (by omega) (by omega)]
    rfl
  all_goals
    go_ret
    refine ⟨?_, Dr.refl _⟩
  all_goals
    simp only [beq_iff_eq, beq_eq_false_iff_ne, ne_eq] at *
    simp only [rf]
    repeat (first | rw [if_pos (by omega)] | rw [if_neg (by omega)])
  all_goals
    try simp only [foldd]
    repeat (first | rw [if_pos (by omega)] | rw [if_neg (by omega)])
  all_goals rfl
theorem rf_len (c : Nat) (h : okc c = true) : (bs (rf c)).size ≤ (enc1 c).length := by
  have h1 := foldc_enc c h
  rw [rf_eq c] at h1
  rw [bs_size]
  by_cases h0 : rf c = []
  · rw [h0, enc_nil]; simp
  · rw [if_neg h0] at h1; exact h1
set_option maxRecDepth 100000 in
set_option maxHeartbeats 1000000 in
theorem rFold (cs : List Nat) (w : World) (hok : okt cs = true) (hs : (bs cs).size ≤ 4000000000) :
    Calls Tryd.prog 55 #[.string (bs cs)] w fun e w' => e = .returned (.string (bs (fold cs))) ∧ Dr w w' := by
  obtain ⟨A, hA⟩ : ∃ A, A = fold cs := ⟨_, rfl⟩
  rw [← hA]
  have HA := Lib.hid hA; clear hA
  go_enter Tryd.func55, Tryd.ntmps55
  go_wp2
  go_loopw [3, 4] (fun o i wr => ∃ (k : Nat) (r p : List Nat), i = .int .i64 k ∧ At cs k r ∧ o = .string (bs p) ∧ Hid (A = p ++ fold r) ∧ (bs p).size ≤ k ∧ Dr w wr) (fun _ i _ => (bs cs).size - (intOf i).toNat)
  case atStart => exact ⟨0, cs, [], rfl, At.start cs, rfl, HA, by rw [bs_size, enc_nil]; simp, Dr.refl _⟩
  case round =>
    obtain ⟨k, r, p, rfl, hat, rfl, HM, hp, hd⟩ := hrel
    clear HA
    cases r with
    | nil =>
      have hk := hat.le
      rw [enc_nil, List.length_nil] at hk
      have hkz : (bs cs).size ≤ k := by omega
      have H : Hid (A = p) := Lib.hid (by rw [HM.out]; simp [fold])
      clear hk HM
      go_wp2
      go_ret
      exact ⟨by first | (rw [H.out]; done) | (rw [H.out]; rfl), hd⟩
    | cons c r =>
      obtain ⟨h1, h2⟩ := hat.lt
      have h3 := enc1_len c
      have hc := hat.okc hok
      have hc2 := (okc_small hc).2
      have hfe := foldc_enc c hc
      have hrf := rf_eq c
      have HM2 : Hid (A = (p ++ foldc c) ++ fold r) := Lib.hid (by rw [HM.out, List.append_assoc]; rfl)
      clear HM
      have hz := rf_len c hc
      have HR := Lib.hid hrf
      have HP := Lib.hid hat.piece
      have hcz : (bs [c]).size = (enc1 c).length := by rw [bs_size]; simp [enc]
      have HCZ := Lib.hid hcz
      clear hrf hc hcz
      go_wp2_with (first | (go_at_call 44; refine (decode_text cs k c r _ hok hs hat).mono ?_; rintro e w' ⟨rfl, hw⟩) | (go_at_call 48; refine (size_text cs k c r _ hok hs hat).mono ?_; rintro e w'' ⟨rfl, hw2⟩) | (go_at_call 68; refine (rfold c _ hc2).mono ?_; rintro e w3 ⟨rfl, hw3⟩))
      · have h0 := bs_empty (by assumption)
        have hrf := HR.out
        rw [if_pos h0] at hrf
        rw [hrf] at HM2 hfe
        go_roundw
        case rel =>
          refine ⟨k + (enc1 c).length, r, p ++ [c], by go_num, hat.next, ?_, HM2, ?_, ((hd.trans hw).trans hw2).trans hw3⟩
          · rw [HP.out, bs_append]
          · rw [bs_size, enc_append]; rw [bs_size] at hp; simp [enc] at hp ⊢; omega
        case measure => simp [intOf]; omega
      · have h0 := bs_full (by assumption)
        have hrf := HR.out
        rw [if_neg h0] at hrf
        rw [hrf] at HM2 hfe
        go_roundw
        case rel =>
          refine ⟨k + (enc1 c).length, r, p ++ rf c, by go_num, hat.next, ?_, HM2, ?_, ((hd.trans hw).trans hw2).trans hw3⟩
          · rw [bs_append]
          · rw [bs_size, enc_append, List.length_append]; rw [bs_size] at hp hz; omega
        case measure => simp [intOf]; omega
end Go.Proofs.YtbolkkpgahoeaaaDoor
