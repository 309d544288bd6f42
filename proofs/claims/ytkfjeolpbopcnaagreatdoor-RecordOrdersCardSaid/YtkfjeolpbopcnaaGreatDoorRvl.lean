/- The walk of the reference's Valid (layer 1), at every string. -/
import Derived.Test.YtkfjeolpbopcnaaGreatDoorRef
import Derived.Test.YtkfjeolpbopcnaaGreatDoorStrs
namespace Go.Proofs.YtkfjeolpbopcnaaGreatDoor
open Go Go.RowKit

set_option maxRecDepth 100000 in
set_option maxHeartbeats 1000000 in
theorem rValid (s : ByteArray) (w : World) (hs : s.size ≤ 9223372036854775800) :
    Calls Tryz.prog 78 #[.string s] w fun e w' => e = .returned (.bool (isText s.data.toList)) ∧ Dr w w' := by
  obtain ⟨A, hA⟩ : ∃ A, A = isText s.data.toList := ⟨_, rfl⟩
  rw [← hA]
  have HA := Lib.hid hA; clear hA
  go_enter Tryz.func78, Tryz.ntmps78
  go_wp2
  go_loopw [3, 4, 5] (fun i _ _ wr => ∃ k : Nat, i = .int .i64 k ∧ k ≤ s.size ∧ Hid (A = isText (s.data.toList.drop k)) ∧ Dr w wr) (fun i _ _ _ => s.size - (intOf i).toNat)
  case atStart => exact ⟨0, rfl, by omega, HA, Dr.refl _⟩
  case round =>
    obtain ⟨k, rfl, hk, HK, hd⟩ := hrel
    by_cases hlt : k < s.size
    · have hne : s.data.toList.drop k ≠ [] := by
        intro e
        have := congrArg List.length e
        rw [List.length_drop, len_data, List.length_nil] at this
        omega
      have hst := isText_step _ hne
      by_cases h0 : (rdec (s.data.toList.drop k)).2 = 0
      · rw [if_pos h0] at hst
        have H : Hid (A = false) := Lib.hid (HK.out.trans hst)
        have H0 := Lib.hid h0
        clear h0 hst HK HA
        go_wp2_with (go_at_call 87; refine (decode_any s k _ hs hlt).mono ?_; rw [H0.out]; rintro e w' ⟨rfl, hw⟩)
        go_ret
        exact ⟨by first | (rw [H.out]; done) | (rw [H.out]; rfl), hd.trans hw⟩
      · rw [if_neg h0] at hst
        obtain ⟨_, hlen, hl⟩ := rdec_inv _ hne h0
        have hle : k + (rdec (s.data.toList.drop k)).2 ≤ s.size := by
          have := congrArg List.length hl
          rw [List.length_append, List.length_drop, List.length_drop, len_data, ← hlen] at this
          omega
        obtain ⟨n, hn⟩ : ∃ n, n = (rdec (s.data.toList.drop k)).2 := ⟨_, rfl⟩
        rw [← hn] at hle h0 hst
        rw [List.drop_drop] at hst
        have H : Hid (A = isText (s.data.toList.drop (k + n))) := Lib.hid (HK.out.trans hst)
        have Hn := Lib.hid hn
        have hb : ((n : Int) == 0) = false := by
          rw [beq_eq_false_iff_ne]; omega
        have hpos : 1 ≤ n := by omega
        clear hst HK HA hlen hl hne hn h0
        go_wp2_with (go_at_call 87; refine (decode_any s k _ hs hlt).mono ?_; rw [← Hn.out]; rintro e w' ⟨rfl, hw⟩)
        go_roundw
        case rel => exact ⟨k + n, by go_num, hle, H, hd.trans hw⟩
        case measure => simp [intOf]; omega
    · have hz : s.data.toList.drop k = [] := List.drop_eq_nil_of_le (by rw [len_data]; omega)
      have H : Hid (A = true) := Lib.hid (by rw [HK.out, hz]; rfl)
      clear hz HK HA
      go_wp2
      go_ret
      exact ⟨by first | (rw [H.out]; done) | (rw [H.out]; rfl), hd⟩
theorem rValid_true (cs : List Nat) (w : World) (hok : okt cs = true) (hs : (bs cs).size ≤ 4000000000) :
    Calls Tryz.prog 78 #[.string (bs cs)] w fun e w' => e = .returned (.bool true) ∧ Dr w w' := by
  have := rValid (bs cs) w (by omega)
  rw [isText_bs cs hok] at this
  exact this
theorem rValid_false (s : ByteArray) (w : World) (hn : isText s.data.toList = false) (hs : s.size ≤ 4000000000) :
    Calls Tryz.prog 78 #[.string s] w fun e w' => e = .returned (.bool false) ∧ Dr w w' := by
  have := rValid s w (by omega)
  rw [hn] at this
  exact this
end Go.Proofs.YtkfjeolpbopcnaaGreatDoor
