/- Parameters of layer 16, opened: rules, a field, two records with rules. -/
import Derived.Test.YtcdlgmncalmihaaDoorMop
import Derived.Test.YtcdlgmncalmihaaDoorGsl
namespace Go.Proofs.YtcdlgmncalmihaaDoor
open Go Go.RowKit Go.WideShapes Go.ChangeShapes

abbrev Keeps0 (w : World) (v : Value) (l : List (ByteArray × Int)) : Prop := Rows keepE 2 w v l
theorem li11 {α : Type} {l : List α} (h : l.length = 11) : ∃ a b c d e f g i j k m, l = [a, b, c, d, e, f, g, i, j, k, m] := by
  match l, h with
  | [a, b, c, d, e, f, g, i, j, k, m], _ => exact ⟨a, b, c, d, e, f, g, i, j, k, m, rfl⟩
theorem li3 {α : Type} {l : List α} (h : l.length = 3) : ∃ a b c, l = [a, b, c] := by
  match l, h with
  | [a, b, c], _ => exact ⟨a, b, c, rfl⟩
section
variable {H : Type} {enc : TypeId × Value → H} {w : World} {base : Nat} {spare : Nat → Bool} {held : Bool} {fuel : Nat} {cs : List Value} {x : DataW H × List MemPlace}
theorem trod_keep (h : DataW.trod enc Tryd.prog w base spare held fuel 26 cs = some x) : ∃ s : ByteArray × Int, cs = keepE s := by
  obtain ⟨xs, k, -, -, hl, hxl, hf⟩ := DataW.trod_struct Tryd.underlying26 h
  obtain ⟨c0, c1, rfl⟩ := li2 (hl.trans (show Tryd.prog.cellsOf 26 = 2 by kernel_rfl))
  obtain ⟨y0, y1, rfl⟩ := li2 (hxl.trans rfl)
  have hi : Tryd.prog.cellsOf 3 = 1 := by kernel_rfl
  have hs : Tryd.prog.cellsOf 9 = 1 := by kernel_rfl
  have g0 : DataW.trod enc Tryd.prog w base spare held k 9 (List.take (Tryd.prog.cellsOf 9) [c0, c1]) = some y0 := hf 0 _ rfl
  have g1 : DataW.trod enc Tryd.prog w base spare held k 3 (List.take (Tryd.prog.cellsOf 3) [c1]) = some y1 := hf 1 _ rfl
  rw [hs] at g0
  rw [hi] at g1
  obtain ⟨n0, e0, -, -⟩ := DataW.trod_string Tryd.underlying9 g0
  obtain ⟨n1, e1, -, -⟩ := DataW.trod_int Tryd.underlying3 g1
  simp only [List.take_succ_cons, List.take_zero, List.cons.injEq, and_true] at e0 e1
  subst e0; subst e1
  exact ⟨(n0, n1), rfl⟩
theorem trod_keeps (h : DataW.trod enc Tryd.prog w base spare held fuel 22 cs = some x) : ∃ a n c l, cs = [.slice a n c] ∧ Keeps0 w (.slice a n c) l := by
  have h2 : Tryd.prog.cellsOf 26 = 2 := by kernel_rfl
  rcases Deep.open_slice Tryd.underlying22 h with ⟨rfl, -⟩ | ⟨ad, len, cap, m, n, D, Pl, rfl, -, hl, -, hmm, -, each⟩
  · exact ⟨none, 0, 0, [], rfl, Rows.nil keepE 2 w⟩
  · rw [h2] at each
    obtain ⟨l, hr, -⟩ := rows_open (E := keepE) (k := 2) (fun _ => True) (fun _ => by rw [keepE_len]; decide) (W := w) (ad := ad) hl (fun i hi => by
      obtain ⟨cs', h1, h2⟩ := each i (by rw [hmm]; split <;> omega)
      obtain ⟨s, rfl⟩ := trod_keep h2
      refine ⟨s, trivial, fun j u hj => ?_⟩
      obtain ⟨-, -, hcell⟩ := World.cells?_some h1
      have hj2 : j < 2 := (List.getElem?_eq_some_iff.1 hj).1
      have := hcell j hj2
      rw [Deep.add_add] at this
      rw [this, hj])
    exact ⟨some ad, len, cap, l, rfl, hr⟩
theorem trod_pair (h : DataW.trod enc Tryd.prog w base spare held fuel 33 cs = some x) : ∃ (r s : Rec) (a a' b : Option Addr) (n c n' c' m d : Nat) (l : List (ByteArray × Int)), cs = [.int .i64 r.id, .int .i64 r.ver, .int .i64 r.kind, .string r.lang, .slice a n c, .int .i64 s.id, .int .i64 s.ver, .int .i64 s.kind, .string s.lang, .slice a' n' c', .slice b m d] ∧ Flds w (.slice a n c) r.fields ∧ (∀ f ∈ r.fields, ∀ s ∈ f.subs, s.1 < 256) ∧ Flds w (.slice a' n' c') s.fields ∧ (∀ f ∈ s.fields, ∀ s ∈ f.subs, s.1 < 256) ∧ Keeps0 w (.slice b m d) l := by
  obtain ⟨xs, k, -, -, hl, hxl, hf⟩ := DataW.trod_struct Tryd.underlying33 h
  obtain ⟨c0, c1, c2, c3, c4, c5, c6, c7, c8, c9, c10, rfl⟩ := li11 (hl.trans (show Tryd.prog.cellsOf 33 = 11 by kernel_rfl))
  obtain ⟨y0, y1, y2, rfl⟩ := li3 (hxl.trans rfl)
  have hr : Tryd.prog.cellsOf 31 = 5 := by kernel_rfl
  have hb : Tryd.prog.cellsOf 22 = 1 := by kernel_rfl
  have g0 : DataW.trod enc Tryd.prog w base spare held k 31 (List.take (Tryd.prog.cellsOf 31) [c0, c1, c2, c3, c4, c5, c6, c7, c8, c9, c10]) = some y0 := hf 0 _ rfl
  have g1 : DataW.trod enc Tryd.prog w base spare held k 31 (List.take (Tryd.prog.cellsOf 31) [c5, c6, c7, c8, c9, c10]) = some y1 := hf 1 _ rfl
  have g2 : DataW.trod enc Tryd.prog w base spare held k 22 (List.take (Tryd.prog.cellsOf 22) [c10]) = some y2 := hf 2 _ rfl
  rw [hr] at g0 g1
  rw [hb] at g2
  obtain ⟨r, a, n, c, e0, f0, q0⟩ := trod_rec g0
  obtain ⟨s, a', n', c', e1, f1, q1⟩ := trod_rec g1
  obtain ⟨b, m, d, l, e2, f2⟩ := trod_keeps g2
  simp only [List.take_succ_cons, List.take_zero, List.cons.injEq, and_true] at e0 e1 e2
  obtain ⟨rfl, rfl, rfl, rfl, rfl⟩ := e0
  obtain ⟨rfl, rfl, rfl, rfl, rfl⟩ := e1
  subst e2
  exact ⟨r, s, a, a', b, n, c, n', c', m, d, l, rfl, f0, q0, f1, q1, f2⟩
end
set_option maxRecDepth 100000 in
theorem pair_open {H : Type} {enc : TypeId × Value → H} {r : Reach} {b0 : Nat} {w : World} {base : Nat} {spare : Nat → Bool} {held : Bool} {v : Value} {d : DataW H} {ps : List MemPlace} (hv : Value.okWide Tryd.prog w r b0 33 v)
    (h : DataW.Trod enc Tryd.prog w base spare held 33 v d ps) : ∃ (x y : Rcd) (vk : Value) (l : List (ByteArray × Int)), v = .agg #[.int .i64 x.r.id, .int .i64 x.r.ver, .int .i64 x.r.kind, .string x.r.lang, .slice x.sa x.r.fields.length x.sc, .int .i64 y.r.id, .int .i64 y.r.ver, .int .i64 y.r.kind, .string y.r.lang, .slice y.sa y.r.fields.length y.sc, vk] ∧ RcdAt w x ∧ RcdAt w y ∧ Keeps0 w vk l ∧ (∀ f ∈ x.r.fields, ∀ s ∈ f.subs, s.1 < 256) ∧ (∀ f ∈ y.r.fields, ∀ s ∈ f.subs, s.1 < 256) := by
  obtain ⟨cs, rfl, -⟩ := okWide_struct Tryd.underlying33 hv
  obtain ⟨fuel, hf⟩ := h
  obtain ⟨r, s, a, a', b, n, c, n', c', m, d, l, hp, f0, q0, f1, q1, f2⟩ := trod_pair hf
  obtain ⟨hn, -⟩ := f0.len
  obtain ⟨hn', -⟩ := f1.len
  subst hn
  subst hn'
  refine ⟨⟨r, a, c⟩, ⟨s, a', c'⟩, .slice b m d, l, ?_, f0, f1, f2, q0, q1⟩
  obtain ⟨ll⟩ := cs
  have : ll = _ := hp
  subst this
  rfl
set_option maxRecDepth 100000 in
theorem keeps_open {H : Type} {enc : TypeId × Value → H} {w : World} {base : Nat} {spare : Nat → Bool} {held : Bool} {v : Value} {d : DataW H} {ps : List MemPlace} (hs : ∃ a n c, v = .slice a n c)
    (h : DataW.Trod enc Tryd.prog w base spare held 22 v d ps) : ∃ l, Keeps0 w v l := by
  obtain ⟨a, n, c, rfl⟩ := hs
  obtain ⟨fuel, hf⟩ := h
  obtain ⟨a', n', c', l, hp, f⟩ := trod_keeps hf
  have : [Value.slice a n c] = [Value.slice a' n' c'] := hp
  cases this
  exact ⟨l, f⟩
set_option maxRecDepth 100000 in
theorem fld_open {H : Type} {enc : TypeId × Value → H} {r : Reach} {b0 : Nat} {w : World} {base : Nat} {spare : Nat → Bool} {held : Bool} {v : Value} {d : DataW H} {ps : List MemPlace} (hv : Value.okWide Tryd.prog w r b0 46 v)
    (h : DataW.Trod enc Tryd.prog w base spare held 46 v d ps) : ∃ f : Fld, v = fldV f ∧ FldAt w f ∧ ∀ s ∈ f.subs, s.1 < 256 := by
  obtain ⟨cs, rfl, -⟩ := okWide_struct Tryd.underlying46 hv
  obtain ⟨fuel, hf⟩ := h
  obtain ⟨f, hp, hfa, hq⟩ := trod_fld hf
  refine ⟨f, ?_, hfa, hq⟩
  obtain ⟨ll⟩ := cs
  have : ll = _ := hp
  subst this
  rfl
end Go.Proofs.YtcdlgmncalmihaaDoor
