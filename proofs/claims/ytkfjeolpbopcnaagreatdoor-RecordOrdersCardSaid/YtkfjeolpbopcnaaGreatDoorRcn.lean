/- Walks of the reference's blank, Clean and Space (layer 1). -/
import Derived.Test.YtkfjeolpbopcnaaGreatDoorRsz
import Derived.Test.YtkfjeolpbopcnaaGreatDoorBse
namespace Go.Proofs.YtkfjeolpbopcnaaGreatDoor
open Go Go.RowKit

set_option maxRecDepth 100000 in
set_option maxHeartbeats 1000000 in
theorem rblank (c : Nat) (w : World) (hc : c < 65536) :
    Calls Tryz.prog 89 #[.int .i64 c] w fun e w' => e = .returned (.bool (blank c)) ∧ w = w' := by
  go_enter Tryz.func89, Tryz.ntmps89
  by_cases h1 : c = 32
  · subst h1
    go_wp2
    go_ret
    exact ⟨rfl, rfl⟩
  · by_cases h2 : c = 160
    · subst h2
      go_wp2
      go_ret
      exact ⟨rfl, rfl⟩
    · have e : blank c = false := by simp [blank, h1, h2]
      rw [e]
      have g1 : ((c : Int) == 32) = false := by rw [beq_eq_false_iff_ne]; omega
      have g2 : ((c : Int) == 160) = false := by rw [beq_eq_false_iff_ne]; omega
      clear e h1 h2
      go_wp2
      go_ret
      exact ⟨rfl, rfl⟩
set_option maxRecDepth 100000 in
set_option maxHeartbeats 2000000 in
theorem rClean (cs : List Nat) (w : World) (hok : okt cs = true) (hs : (bs cs).size ≤ 4000000000) :
    Calls Tryz.prog 55 #[.string (bs cs)] w fun e w' => e = .returned (.string (bs (clean cs))) ∧ Dr w w' := by
  obtain ⟨A, hA⟩ : ∃ A, A = clean cs := ⟨_, rfl⟩
  rw [← hA]
  have HA : Hid (A = cgo blank [] false cs) := Lib.hid (hA.trans (cgo_eq blank cs false).symm)
  clear hA
  go_enter Tryz.func55, Tryz.ntmps55
  go_wp2
  go_loopw [3, 4, 5] (fun o g i wr => ∃ (k : Nat) (r p : List Nat) (gap : Bool), i = .int .i64 k ∧ At cs k r ∧ o = .string (bs p) ∧ g = .bool gap ∧ Hid (A = cgo blank p gap r) ∧ (bs p).size + gap.toNat ≤ k ∧ Dr w wr) (fun _ _ i _ => (bs cs).size - (intOf i).toNat)
  case atStart => exact ⟨0, cs, [], false, rfl, At.start cs, rfl, rfl, HA, by rw [bs_size, enc_nil]; simp, Dr.refl _⟩
  case round =>
    obtain ⟨k, r, p, gap, rfl, hat, rfl, rfl, HM, hp, hd⟩ := hrel
    clear HA
    cases r with
    | nil =>
      have hk := hat.le
      rw [enc_nil, List.length_nil] at hk
      have hkz : (bs cs).size ≤ k := by omega
      have H : Hid (A = p) := Lib.hid HM.out
      clear hk HM
      go_wp2
      go_ret
      exact ⟨by first | (rw [H.out]; done) | (rw [H.out]; rfl), hd⟩
    | cons c r =>
      obtain ⟨h1, h2⟩ := hat.lt
      have h3 := enc1_len c
      have hok2 := hat.okc hok
      have hc2 := (okc_small hok2).2
      have HP := Lib.hid hat.piece
      have HCZ := Lib.hid (bs_one c)
      clear hok2
      cases hl : blank c with
      | true =>
        have HM2 : Hid (A = cgo blank p true r) := by
          refine Lib.hid (HM.out.trans ?_)
          show (if blank c = true then _ else _) = _
          rw [if_pos hl]
        clear HM
        go_wp2_with (first | (go_at_call 87; refine (decode_text cs k c r _ hok hs hat).mono ?_; rintro e w' ⟨rfl, hw⟩) | (go_at_call 88; refine (size_text cs k c r _ hok hs hat).mono ?_; rintro e w'' ⟨rfl, hw2⟩) | (go_at_call 89; refine (rblank c _ hc2).mono ?_; rintro e w3 ⟨rfl, rfl⟩))
        go_roundw
        case rel =>
          exact ⟨k + (enc1 c).length, r, p, true, by go_num, hat.next, rfl, rfl, HM2, by simp; omega, (hd.trans hw).trans hw2⟩
        case measure => simp [intOf]; omega
      | false =>
        have HM2 : Hid (A = cgo blank ((if gap = true ∧ p ≠ [] then p ++ [32] else p) ++ [c]) false r) := by
          refine Lib.hid (HM.out.trans ?_)
          show (if blank c = true then _ else _) = _
          rw [if_neg (by simp [hl])]
        clear HM
        cases he : (bs p).toList.isEmpty with
        | true =>
          have hcur := bs_empty he
          rw [if_neg (fun h => h.2 hcur)] at HM2
          clear hcur
          cases gap <;>
          · go_wp2_with (first | (go_at_call 87; refine (decode_text cs k c r _ hok hs hat).mono ?_; rintro e w' ⟨rfl, hw⟩) | (go_at_call 88; refine (size_text cs k c r _ hok hs hat).mono ?_; rintro e w'' ⟨rfl, hw2⟩) | (go_at_call 89; refine (rblank c _ hc2).mono ?_; rintro e w3 ⟨rfl, rfl⟩))
            go_roundw
            case rel =>
              refine ⟨k + (enc1 c).length, r, p ++ [c], false, by go_num, hat.next, ?_, rfl, HM2, ?_, (hd.trans hw).trans hw2⟩
              · rw [HP.out, bs_append]
              · rw [← bs_append, ByteArray.size_append, HCZ.out]; simp at hp ⊢; omega
            case measure => simp [intOf]; omega
        | false =>
          have hcur := bs_full he
          cases gap with
          | false =>
            rw [if_neg (by simp)] at HM2
            clear hcur
            go_wp2_with (first | (go_at_call 87; refine (decode_text cs k c r _ hok hs hat).mono ?_; rintro e w' ⟨rfl, hw⟩) | (go_at_call 88; refine (size_text cs k c r _ hok hs hat).mono ?_; rintro e w'' ⟨rfl, hw2⟩) | (go_at_call 89; refine (rblank c _ hc2).mono ?_; rintro e w3 ⟨rfl, rfl⟩))
            go_roundw
            case rel =>
              refine ⟨k + (enc1 c).length, r, p ++ [c], false, by go_num, hat.next, ?_, rfl, HM2, ?_, (hd.trans hw).trans hw2⟩
              · rw [HP.out, bs_append]
              · rw [← bs_append, ByteArray.size_append, HCZ.out]; simp at hp ⊢; omega
            case measure => simp [intOf]; omega
          | true =>
            rw [if_pos ⟨rfl, hcur⟩] at HM2
            clear hcur
            have H32 : Hid (bs p ++ ⟨#[32]⟩ = bs (p ++ [32])) := Lib.hid (bs_append p [32])
            have hz32 : (bs p ++ ⟨#[32]⟩ : ByteArray).size = (bs p).size + 1 := ByteArray.size_append
            have HZ := Lib.hid hz32
            simp at hp
            have hb1 : (bs p).size + 1 ≤ 4000000000 := by omega
            clear hz32
            go_wp2_with (first | (go_at_call 87; refine (decode_text cs k c r _ hok hs hat).mono ?_; rintro e w' ⟨rfl, hw⟩) | (go_at_call 88; refine (size_text cs k c r _ hok hs hat).mono ?_; rintro e w'' ⟨rfl, hw2⟩) | (go_at_call 89; refine (rblank c _ hc2).mono ?_; rintro e w3 ⟨rfl, rfl⟩))
            go_roundw
            case rel =>
              refine ⟨k + (enc1 c).length, r, p ++ [32] ++ [c], false, by go_num, hat.next, ?_, rfl, HM2, ?_, (hd.trans hw).trans hw2⟩
              · rw [HP.out, H32.out, bs_append]
              · rw [← bs_append, ByteArray.size_append, ← H32.out, HZ.out, HCZ.out]; simp; omega
            case measure => simp [intOf]; omega
end Go.Proofs.YtkfjeolpbopcnaaGreatDoor
