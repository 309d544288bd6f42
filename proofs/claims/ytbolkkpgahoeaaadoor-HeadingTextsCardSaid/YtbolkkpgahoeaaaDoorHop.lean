/- A parameter of layer 12, opened: a name. -/
import Derived.Test.YtbolkkpgahoeaaaDoorStro
namespace Go.Proofs.YtbolkkpgahoeaaaDoor
open Go Go.RowKit Go.WideShapes Go.ChangeShapes

theorem list3 {α : Type} {l : List α} (h : l.length = 3) : ∃ a b c, l = [a, b, c] := by
  match l, h with
  | [a, b, c], _ => exact ⟨a, b, c, rfl⟩
set_option maxRecDepth 100000 in
theorem name_open {H : Type} {enc : TypeId × Value → H} {r : Reach} {b0 : Nat} {w : World} {base : Nat} {spare : Nat → Bool} {held : Bool} {v : Value} {d : DataW H} {ps : List MemPlace} (hv : Value.okWide Tryd.prog w r b0 34 v)
    (h : DataW.Trod enc Tryd.prog w base spare held 34 v d ps) : ∃ a b c : ByteArray, v = .agg #[.string a, .string b, .string c] ∧ a.size ≤ maxLen ∧ b.size ≤ maxLen ∧ c.size ≤ maxLen := by
  obtain ⟨cs, rfl, -⟩ := okWide_struct Tryd.underlying34 hv
  obtain ⟨fuel, hf⟩ := h
  obtain ⟨xs, k, -, -, hl, hxl, hf⟩ := DataW.trod_struct Tryd.underlying34 hf
  obtain ⟨l⟩ := cs
  obtain ⟨c0, c1, c2, rfl⟩ := list3 (l := l) ((show l.length = _ from hl).trans (show Tryd.prog.cellsOf 34 = 3 by kernel_rfl))
  obtain ⟨y0, y1, y2, rfl⟩ := list3 (hxl.trans rfl)
  have hs : Tryd.prog.cellsOf 9 = 1 := by kernel_rfl
  have g0 : DataW.trod enc Tryd.prog w base spare held k 9 (List.take (Tryd.prog.cellsOf 9) [c0, c1, c2]) = some y0 := hf 0 _ rfl
  have g1 : DataW.trod enc Tryd.prog w base spare held k 9 (List.take (Tryd.prog.cellsOf 9) [c1, c2]) = some y1 := hf 1 _ rfl
  have g2 : DataW.trod enc Tryd.prog w base spare held k 9 (List.take (Tryd.prog.cellsOf 9) [c2]) = some y2 := hf 2 _ rfl
  rw [hs] at g0 g1 g2
  obtain ⟨s0, e0, -, z0⟩ := DataW.trod_string Tryd.underlying9 g0
  obtain ⟨s1, e1, -, z1⟩ := DataW.trod_string Tryd.underlying9 g1
  obtain ⟨s2, e2, -, z2⟩ := DataW.trod_string Tryd.underlying9 g2
  simp only [List.take_succ_cons, List.take_zero, List.cons.injEq, and_true] at e0 e1 e2
  subst e0; subst e1; subst e2
  exact ⟨s0, s1, s2, rfl, z0, z1, z2⟩
end Go.Proofs.YtbolkkpgahoeaaaDoor
