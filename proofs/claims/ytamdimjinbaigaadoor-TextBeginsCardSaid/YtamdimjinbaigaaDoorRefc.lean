/- Walks of the reference's functions on texts (layer 1): folding, words, cleaning, joining, comparing lists. -/
import Derived.Test.YtamdimjinbaigaaDoorRefb
namespace Go.Proofs.YtamdimjinbaigaaDoor
open Go Go.RowKit

/-- What the reference's fold gives: nothing if the character stays. -/
def rf (c : Nat) : List Nat :=
  if 65 ≤ c ∧ c ≤ 90 then [c + 32]
  else if c < 192 ∨ 255 < c ∨ c = 215 ∨ c = 247 then []
  else if c = 223 then [115, 115]
  else if c = 255 then [121]
  else foldd (if 224 ≤ c then c - 32 else c)
set_option maxRecDepth 100000 in
theorem rf_small : ∀ x : Fin 256, foldc x.val = if rf x.val = [] then [x.val] else rf x.val := by decide
set_option maxRecDepth 100000 in
theorem lower_piece : ∀ x : Fin 26, (⟨#[97, 98, 99, 100, 101, 102, 103, 104, 105, 106, 107, 108, 109, 110, 111, 112, 113, 114, 115, 116, 117, 118, 119, 120, 121, 122]⟩ : ByteArray).extract x.val (x.val + 1) = bs [x.val + 97] := by decide
theorem lower_at (c : Nat) (h : 65 ≤ c) (h2 : c ≤ 90) : (⟨#[97, 98, 99, 100, 101, 102, 103, 104, 105, 106, 107, 108, 109, 110, 111, 112, 113, 114, 115, 116, 117, 118, 119, 120, 121, 122]⟩ : ByteArray).extract (c - 65) (c - 64) = bs [c + 32] := by
  have := lower_piece ⟨c - 65, by omega⟩
  simp only at this
  rw [show c - 65 + 1 = c - 64 by omega, show c - 65 + 97 = c + 32 by omega] at this
  exact this
theorem rf_eq (c : Nat) : foldc c = if rf c = [] then [c] else rf c := by
  by_cases h : c < 256
  · exact rf_small ⟨c, h⟩
  · have e : rf c = [] := by unfold rf; rw [if_neg (by omega), if_pos (by omega)]
    rw [e, if_pos rfl, foldc_big c (by omega)]

set_option maxRecDepth 100000 in
set_option maxHeartbeats 1000000 in
theorem rfold (c : Nat) (w : World) (hc : c < 65536) :
    Calls Tryd.prog 34 #[.int .i64 c] w fun e w' => e = .returned (.string (bs (rf c))) ∧ Dr w w' := by
  go_enter Tryd.func34, Tryd.ntmps34
  go_wp2
  · go_ret
    refine ⟨?_, Dr.refl _⟩
    have e : rf c = [c + 32] := by unfold rf; rw [if_pos (by omega)]
    rw [e, ← lower_at c (by omega) (by omega)]
    rfl
  all_goals
    go_ret
    refine ⟨?_, Dr.refl _⟩
  all_goals
    simp only [beq_iff_eq, beq_eq_false_iff_ne, ne_eq] at *
    simp only [rf]
    repeat (first | rw [if_pos (by omega)] | rw [if_neg (by omega)])
  all_goals
    try simp only [foldd]
    repeat (first | rw [if_pos (by omega)] | rw [if_neg (by omega)])
  all_goals rfl
end Go.Proofs.YtamdimjinbaigaaDoor
