/- Walks of package text's blank, Clean and Space. -/
import Derived.Test.YtbolkkpgahoeaaaDoorPfl
namespace Go.Proofs.YtbolkkpgahoeaaaDoor
open Go Go.RowKit

set_option maxRecDepth 100000 in
set_option maxHeartbeats 1000000 in
theorem pblank (c : Nat) (w : World) :
    Calls Tryd.prog 47 #[.int .i32 c] w fun e w' => e = .returned (.bool (blank c)) ∧ w = w' := by
  go_enter Tryd.func47, Tryd.ntmps47
  go_wp2
  all_goals
    go_ret
    refine ⟨retb ?_, rfl⟩
    rw [Bool.eq_iff_iff]
    simp [blank]
    omega
theorem pred_blank (w : World) : PredAtRunes Tryd.prog 47 #[] blank w := fun W x _ _ => by
  unfold FnGives
  refine (pblank x W).mono ?_
  rintro e w' ⟨rfl, rfl⟩
  exact ⟨rfl, 0, rfl⟩
set_option maxRecDepth 100000 in
set_option maxHeartbeats 1000000 in
theorem pClean (cs : List Nat) (w : World) (hok : okt cs = true) (hs : (bs cs).size ≤ 4000000000) :
    Calls Tryd.prog 31 #[.string (bs cs)] w fun e w' => e = .returned (.string (bs (clean cs))) ∧ Below w.heap.size w w' := by
  obtain ⟨hz, hn⟩ := fields_sum blank cs
  go_enter Tryd.func31, Tryd.ntmps31
  go_wp2_with (go_at_call 46; refine (fields_text 47 blank cs _ (enters_of Tryd.func47 (by kernel_rfl) rfl) (pred_blank _) hok hs).mono ?_)
  rintro e w1 ⟨v, rfl, hv, hb⟩
  go_wp2_with (go_at_call 35; refine (join_text (fields blank cs) v _ hv (by omega) (by omega)).mono ?_)
  rintro e w2 ⟨rfl, hb2⟩
  go_wp2
  go_ret
  exact ⟨rfl, hb.trans (hb2.mono hb.size)⟩
end Go.Proofs.YtbolkkpgahoeaaaDoor
