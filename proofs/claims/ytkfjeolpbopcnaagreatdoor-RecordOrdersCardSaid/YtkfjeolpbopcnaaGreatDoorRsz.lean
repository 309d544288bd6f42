/- Walks of the reference's decode and size at a place of a text (layer 1). -/
import Derived.Test.YtkfjeolpbopcnaaGreatDoorRef
import Derived.Test.YtkfjeolpbopcnaaGreatDoorStrs
namespace Go.Proofs.YtkfjeolpbopcnaaGreatDoor
open Go Go.RowKit

theorem decode_text (cs : List Nat) (k c : Nat) (r : List Nat) (w : World) (hok : okt cs = true) (hs : (bs cs).size ≤ 4000000000) (hk : At cs k (c :: r)) :
    Calls Tryz.prog 87 #[.string (bs cs), .int .i64 k] w fun e w' => e = .returned (.tuple #[.int .i64 c, .int .i64 (enc1 c).length]) ∧ Dr w w' := by
  refine (decode_any (bs cs) k w (by omega) hk.lt.2).mono fun e w' ⟨he, hw⟩ => ?_
  rw [hk.rdec hok] at he
  exact ⟨he, hw⟩
set_option maxRecDepth 100000 in
set_option maxHeartbeats 1000000 in
theorem size_text (cs : List Nat) (k c : Nat) (r : List Nat) (w : World) (hok : okt cs = true) (hs : (bs cs).size ≤ 4000000000) (hk : At cs k (c :: r)) :
    Calls Tryz.prog 88 #[.string (bs cs), .int .i64 k] w fun e w' => e = .returned (.int .i64 (enc1 c).length) ∧ Dr w w' := by
  have h1 := enc1_len c
  go_enter Tryz.func88, Tryz.ntmps88
  go_wp2_with (go_at_call 87; refine (decode_text cs k c r _ hok hs hk).mono ?_; rintro e w' ⟨rfl, hw⟩)
  go_ret
  exact ⟨ret1i (by omega), hw⟩
end Go.Proofs.YtkfjeolpbopcnaaGreatDoor
