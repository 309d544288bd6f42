/- Walks of package text's blank, Clean and Space. -/
import Derived.Test.YtkfjeolpbopcnaaGreatDoorPfl
namespace Go.Proofs.YtkfjeolpbopcnaaGreatDoor
open Go Go.RowKit

set_option maxRecDepth 100000 in
set_option maxHeartbeats 1000000 in
theorem pblank (c : Nat) (w : World) :
    Calls Tryz.prog 86 #[.int .i32 c] w fun e w' => e = .returned (.bool (blank c)) ∧ w = w' := by
  go_enter Tryz.func86, Tryz.ntmps86
  go_wp2
  all_goals
    go_ret
    refine ⟨retb ?_, rfl⟩
    rw [Bool.eq_iff_iff]
    simp [blank]
    omega
theorem pred_blank (w : World) : PredAtRunes Tryz.prog 86 #[] blank w := fun W x _ _ => by
  unfold FnGives
  refine (pblank x W).mono ?_
  rintro e w' ⟨rfl, rfl⟩
  exact ⟨rfl, 0, rfl⟩
set_option maxRecDepth 100000 in
set_option maxHeartbeats 1000000 in
theorem pClean (cs : List Nat) (w : World) (hok : okt cs = true) (hs : (bs cs).size ≤ 4000000000) :
    Calls Tryz.prog 53 #[.string (bs cs)] w fun e w' => e = .returned (.string (bs (clean cs))) ∧ Below w.heap.size w w' := by
  obtain ⟨hz, hn⟩ := fields_sum blank cs
  go_enter Tryz.func53, Tryz.ntmps53
  go_wp2_with (go_at_call 85; refine (fields_text 86 blank cs _ (enters_of Tryz.func86 (by kernel_rfl) rfl) (pred_blank _) hok hs).mono ?_)
  rintro e w1 ⟨v, rfl, hv, hb⟩
  go_wp2_with (go_at_call 63; refine (join_text (fields blank cs) v _ hv (by omega) (by omega)).mono ?_)
  rintro e w2 ⟨rfl, hb2⟩
  go_wp2
  go_ret
  exact ⟨rfl, hb.trans (hb2.mono hb.size)⟩
end Go.Proofs.YtkfjeolpbopcnaaGreatDoor
