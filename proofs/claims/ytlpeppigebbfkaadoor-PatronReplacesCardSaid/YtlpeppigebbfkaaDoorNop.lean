/- Parameters of layer 28, opened: a slice of patrons, a patron, a case. -/
import Derived.Test.YtlpeppigebbfkaaDoorNrw
import Derived.Test.YtlpeppigebbfkaaDoorStro
import Derived.Deep.Slices
namespace Go.Proofs.YtlpeppigebbfkaaDoor
open Go Go.RowKit Go.WideShapes Go.ChangeShapes

theorem list6 {α : Type} {l : List α} (h : l.length = 6) : ∃ a b c d e f, l = [a, b, c, d, e, f] := by
  match l, h with
  | [a, b, c, d, e, f], _ => exact ⟨a, b, c, d, e, f, rfl⟩
theorem in64_of {n : Int} (h : (Lit.int .i64 n).wf = true) : in64 n := by
  simp only [Lit.wf, Bool.and_eq_true, decide_eq_true_eq] at h
  exact ⟨h.1, h.2⟩
theorem trod_pat {H : Type} {enc : TypeId × Value → H} {w : World} {base : Nat} {spare : Nat → Bool} {held : Bool} {fuel : Nat} {cs : List Value} {x : DataW H × List MemPlace}
    (h : DataW.trod enc Tryd.prog w base spare held fuel 28 cs = some x) : ∃ p : Pat, cs = p.enc ∧ p.fits := by
  obtain ⟨xs, k, -, -, hl, hxl, hf⟩ := DataW.trod_struct Tryd.underlying28 h
  obtain ⟨c0, c1, c2, c3, c4, c5, rfl⟩ := list6 (hl.trans (show Tryd.prog.cellsOf 28 = 6 by kernel_rfl))
  obtain ⟨y0, y1, y2, y3, y4, y5, rfl⟩ := list6 (hxl.trans rfl)
  have hi : Tryd.prog.cellsOf 3 = 1 := by kernel_rfl
  have hb : Tryd.prog.cellsOf 4 = 1 := by kernel_rfl
  have hs : Tryd.prog.cellsOf 9 = 1 := by kernel_rfl
  have g0 : DataW.trod enc Tryd.prog w base spare held k 3 (List.take (Tryd.prog.cellsOf 3) [c0, c1, c2, c3, c4, c5]) = some y0 := hf 0 _ rfl
  have g1 : DataW.trod enc Tryd.prog w base spare held k 3 (List.take (Tryd.prog.cellsOf 3) [c1, c2, c3, c4, c5]) = some y1 := hf 1 _ rfl
  have g2 : DataW.trod enc Tryd.prog w base spare held k 3 (List.take (Tryd.prog.cellsOf 3) [c2, c3, c4, c5]) = some y2 := hf 2 _ rfl
  have g3 : DataW.trod enc Tryd.prog w base spare held k 3 (List.take (Tryd.prog.cellsOf 3) [c3, c4, c5]) = some y3 := hf 3 _ rfl
  have g4 : DataW.trod enc Tryd.prog w base spare held k 4 (List.take (Tryd.prog.cellsOf 4) [c4, c5]) = some y4 := hf 4 _ rfl
  have g5 : DataW.trod enc Tryd.prog w base spare held k 9 (List.take (Tryd.prog.cellsOf 9) [c5]) = some y5 := hf 5 _ rfl
  rw [hi] at g0 g1 g2 g3
  rw [hb] at g4
  rw [hs] at g5
  obtain ⟨n0, e0, -, z0⟩ := DataW.trod_int Tryd.underlying3 g0
  obtain ⟨n1, e1, -, z1⟩ := DataW.trod_int Tryd.underlying3 g1
  obtain ⟨n2, e2, -, z2⟩ := DataW.trod_int Tryd.underlying3 g2
  obtain ⟨n3, e3, -, z3⟩ := DataW.trod_int Tryd.underlying3 g3
  obtain ⟨n4, e4, -⟩ := DataW.trod_bool Tryd.underlying4 g4
  obtain ⟨n5, e5, -, z5⟩ := DataW.trod_string Tryd.underlying9 g5
  simp only [List.take_succ_cons, List.take_zero, List.cons.injEq, and_true] at e0 e1 e2 e3 e4 e5
  subst e0; subst e1; subst e2; subst e3; subst e4; subst e5
  exact ⟨⟨n0, n1, n2, n3, n4, n5⟩, rfl, in64_of z0, in64_of z1, in64_of z2, in64_of z3, by unfold maxLen at z5; omega⟩
theorem pats_open {H : Type} {enc : TypeId × Value → H} {W : World} {a : Option Addr} {len cap : Nat} {d : DataW H} {ps : List MemPlace}
    (h : DataW.Trod enc Tryd.prog W 0 (fun _ => true) true 22 (.slice a len cap) d ps) : ∃ l, Pats W (.slice a len cap) l ∧ l.length ≤ maxLen ∧ ∀ p ∈ l, p.fits := by
  obtain ⟨fuel, hf⟩ := h
  have h6 : Tryd.prog.cellsOf 28 = 6 := by kernel_rfl
  rcases Deep.open_slice Tryd.underlying22 hf with ⟨h0, -⟩ | ⟨ad, len', cap', m, n, D, Pl, h0, -, hl, hm, hmm, -, each⟩
  · simp only [Value.cells, List.cons.injEq, and_true, Value.slice.injEq] at h0
    obtain ⟨rfl, rfl, rfl⟩ := h0
    exact ⟨[], ⟨none, 0, rfl, Nat.le_refl _, .inl rfl⟩, by simp, by simp⟩
  · simp only [Value.cells, List.cons.injEq, and_true, Value.slice.injEq] at h0
    obtain ⟨rfl, rfl, rfl⟩ := h0
    rw [if_pos rfl] at hmm
    subst hmm
    rw [h6] at each
    have hp : ∀ i, i < len → ∃ p : Pat, p.fits ∧ ∀ j u, p.enc[j]? = some u → W.cell? (ad.add (i * 6 + j)) = some u := by
      intro i hi
      obtain ⟨cs', h1, h2⟩ := each i (by omega)
      obtain ⟨p, rfl, hfit⟩ := trod_pat h2
      refine ⟨p, hfit, fun j u hj => ?_⟩
      obtain ⟨-, -, hcell⟩ := World.cells?_some h1
      have hj6 : j < 6 := (List.getElem?_eq_some_iff.1 hj).1
      have := hcell j hj6
      rw [Deep.add_add] at this
      rw [this, hj]
    obtain ⟨f, hf⟩ := Deep.choose_lt hp
    refine ⟨(List.range len).map f, ⟨some ad, m, by rw [List.length_map, List.length_range], by rw [List.length_map, List.length_range]; exact hl, ?_⟩, by rw [List.length_map, List.length_range]; omega, ?_⟩
    · by_cases h0 : len = 0
      · subst h0; exact .inl rfl
      · right
        have c0 := cell_plain ((hf 0 (by omega)).2 0 _ rfl)
        have ha : ad.add (0 * 6 + 0) = ad := by simp [Addr.add]
        rw [ha] at c0
        obtain ⟨b, o, sp⟩ := ad
        obtain ⟨rfl, hb⟩ := c0
        refine ⟨b, o, rfl, hb, fun j p hj i u hi => ?_⟩
        have hjl : j < len := by have := (List.getElem?_eq_some_iff.1 hj).1; rwa [List.length_map, List.length_range] at this
        rw [List.getElem?_map, List.getElem?_range hjl] at hj
        cases hj
        have := (hf j hjl).2 i u hi
        rw [Addr.add_lit] at this
        rw [Nat.add_assoc]
        exact this
    · intro p hp
      obtain ⟨i, hi, rfl⟩ := List.mem_map.1 hp
      exact (hf i (List.mem_range.1 hi)).1
set_option maxRecDepth 100000 in
theorem pat_open {H : Type} {enc : TypeId × Value → H} {r : Reach} {b0 : Nat} {w : World} {base : Nat} {spare : Nat → Bool} {held : Bool} {v : Value} {d : DataW H} {ps : List MemPlace} (hv : Value.okWide Tryd.prog w r b0 28 v)
    (h : DataW.Trod enc Tryd.prog w base spare held 28 v d ps) : ∃ p : Pat, v = .agg #[.int .i64 p.id, .int .i64 p.kind, .int .i64 p.branch, .int .i64 p.till, .bool p.stop, .string p.name] ∧ p.fits := by
  obtain ⟨cs, rfl, -⟩ := okWide_struct Tryd.underlying28 hv
  obtain ⟨fuel, hf⟩ := h
  obtain ⟨p, hp, hfit⟩ := trod_pat hf
  refine ⟨p, ?_, hfit⟩
  obtain ⟨l⟩ := cs
  have : l = p.enc := hp
  subst this
  rfl
theorem list9 {α : Type} {l : List α} (h : l.length = 9) : ∃ a b c d e f g i j, l = [a, b, c, d, e, f, g, i, j] := by
  match l, h with
  | [a, b, c, d, e, f, g, i, j], _ => exact ⟨a, b, c, d, e, f, g, i, j, rfl⟩
theorem list4 {α : Type} {l : List α} (h : l.length = 4) : ∃ a b c d, l = [a, b, c, d] := by
  match l, h with
  | [a, b, c, d], _ => exact ⟨a, b, c, d, rfl⟩
set_option maxRecDepth 100000 in
theorem case_open {H : Type} {enc : TypeId × Value → H} {r : Reach} {b0 : Nat} {w : World} {base : Nat} {spare : Nat → Bool} {held : Bool} {v : Value} {d : DataW H} {ps : List MemPlace} (hv : Value.okWide Tryd.prog w r b0 34 v)
    (h : DataW.Trod enc Tryd.prog w base spare held 34 v d ps) : ∃ (p : Pat) (day owed late : Int), v = .agg #[.int .i64 p.id, .int .i64 p.kind, .int .i64 p.branch, .int .i64 p.till, .bool p.stop, .string p.name, .int .i64 day, .int .i64 owed, .int .i64 late] ∧ p.fits ∧ in64 day ∧ in64 owed ∧ in64 late := by
  obtain ⟨cs, rfl, -⟩ := okWide_struct Tryd.underlying34 hv
  obtain ⟨fuel, hf⟩ := h
  obtain ⟨xs, k, -, -, hl, hxl, hf⟩ := DataW.trod_struct Tryd.underlying34 hf
  obtain ⟨l⟩ := cs
  obtain ⟨c0, c1, c2, c3, c4, c5, c6, c7, c8, rfl⟩ := list9 (l := l) ((show l.length = _ from hl).trans (show Tryd.prog.cellsOf 34 = 9 by kernel_rfl))
  obtain ⟨y0, y1, y2, y3, rfl⟩ := list4 (hxl.trans rfl)
  have hi : Tryd.prog.cellsOf 3 = 1 := by kernel_rfl
  have hb : Tryd.prog.cellsOf 28 = 6 := by kernel_rfl
  have g0 : DataW.trod enc Tryd.prog w base spare held k 28 (List.take (Tryd.prog.cellsOf 28) [c0, c1, c2, c3, c4, c5, c6, c7, c8]) = some y0 := hf 0 _ rfl
  have g1 : DataW.trod enc Tryd.prog w base spare held k 3 (List.take (Tryd.prog.cellsOf 3) [c6, c7, c8]) = some y1 := hf 1 _ rfl
  have g2 : DataW.trod enc Tryd.prog w base spare held k 3 (List.take (Tryd.prog.cellsOf 3) [c7, c8]) = some y2 := hf 2 _ rfl
  have g3 : DataW.trod enc Tryd.prog w base spare held k 3 (List.take (Tryd.prog.cellsOf 3) [c8]) = some y3 := hf 3 _ rfl
  rw [hi] at g1 g2 g3
  rw [hb] at g0
  obtain ⟨p, e0, z0⟩ := trod_pat g0
  obtain ⟨n1, e1, -, z1⟩ := DataW.trod_int Tryd.underlying3 g1
  obtain ⟨n2, e2, -, z2⟩ := DataW.trod_int Tryd.underlying3 g2
  obtain ⟨n3, e3, -, z3⟩ := DataW.trod_int Tryd.underlying3 g3
  refine ⟨p, n1, n2, n3, ?_, z0, in64_of z1, in64_of z2, in64_of z3⟩
  simp only [Pat.enc, List.take_succ_cons, List.take_zero, List.cons.injEq, and_true] at e0 e1 e2 e3
  obtain ⟨rfl, rfl, rfl, rfl, rfl, rfl⟩ := e0
  subst e1; subst e2; subst e3
  rfl
end Go.Proofs.YtlpeppigebbfkaaDoor
