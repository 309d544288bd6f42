/- The walk of package text's Words. -/
import Derived.Test.YtbolkkpgahoeaaaDoorPfd
import Derived.Test.YtbolkkpgahoeaaaDoorPfl
namespace Go.Proofs.YtbolkkpgahoeaaaDoor
open Go Go.RowKit

set_option maxRecDepth 100000 in
set_option maxHeartbeats 1000000 in
theorem pletter (c : Nat) (w : World) :
    Calls Tryd.prog 51 #[.int .i32 c] w fun e w' => e = .returned (.bool (noletter c)) ∧ w = w' := by
  go_enter Tryd.func51, Tryd.ntmps51
  go_wp2
  all_goals
    go_ret
    refine ⟨retb ?_, rfl⟩
    rw [Bool.eq_iff_iff]
    simp [noletter, letter]
    omega
theorem pred_letter (w : World) : PredAtRunes Tryd.prog 51 #[] noletter w := fun W x _ _ => by
  unfold FnGives
  refine (pletter x W).mono ?_
  rintro e w' ⟨rfl, rfl⟩
  exact ⟨rfl, 0, rfl⟩
set_option maxRecDepth 100000 in
set_option maxHeartbeats 1000000 in
theorem pWords (cs : List Nat) (w : World) (hE : Env w) (hok : okt cs = true) (hs : (bs cs).size ≤ 4000000000) :
    Calls Tryd.prog 34 #[.string (bs cs)] w (RetStrs w ((words cs).map bs)) := by
  have hfl := fold_len cs hok
  have hfk := fold_okt cs hok
  go_enter Tryd.func34, Tryd.ntmps34
  go_wp2_with (go_at_call 50; refine (pFold cs _ hE hok hs).mono ?_; rintro e w1 ⟨rfl, hb1⟩)
  go_wp2_with (go_at_call 46; refine (fields_text 51 noletter (fold cs) _ (enters_of Tryd.func51 (by kernel_rfl) rfl) (pred_letter _) hfk (by omega)).mono ?_)
  rintro e w2 ⟨v, rfl, hv, hb2⟩
  go_wp2
  go_ret
  exact ⟨_, rfl, hv, hb1.trans (hb2.mono hb1.size)⟩
end Go.Proofs.YtbolkkpgahoeaaaDoor
