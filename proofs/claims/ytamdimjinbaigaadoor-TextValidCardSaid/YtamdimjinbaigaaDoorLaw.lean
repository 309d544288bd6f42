/- Walks of the six statements about layer 1 (text): each returns true, and what was there before stays. -/
import Derived.Test.YtamdimjinbaigaaDoorAlv
import Derived.Test.YtamdimjinbaigaaDoorRefg
namespace Go.Proofs.YtamdimjinbaigaaDoor
open Go Go.RowKit

set_option maxRecDepth 100000 in
set_option maxHeartbeats 1000000 in
theorem law_TextValid (s : ByteArray) (w : World) (hE : Env w) (hs : s.size ≤ 9223372036854775807) :
    Calls Tryd.prog 3 #[.string s] w fun e w' => e = .returned (.bool true) ∧ Below w.heap.size w w' := by
  by_cases hl : 1000 < s.size
  · go_enter Tryd.func3, Tryd.ntmps3
    go_wp2_with (go_at_call 9; refine (alive_any _ hE).mono ?_; rintro e w1 ⟨rfl, b1⟩)
    go_ret
    exact ⟨rfl, b1⟩
  · have hl2 : s.size ≤ 1000 := by omega
    go_enter Tryd.func3, Tryd.ntmps3
    go_wp2_with fail
    refine (alive_any _ hE).mono ?_
    rintro e w1 ⟨rfl, b1⟩
    go_wp2_with fail
    refine (pValid s _ (hE.below b1) (by omega)).mono ?_
    rintro e w2 ⟨rfl, b2⟩
    go_wp2_with fail
    refine (rValid s _ (by omega)).mono ?_
    rintro e w3 ⟨rfl, b3⟩
    go_wp2
    go_ret
    exact ⟨rfl, (b1.bt b2).bt (b3.below _)⟩
end Go.Proofs.YtamdimjinbaigaaDoor
