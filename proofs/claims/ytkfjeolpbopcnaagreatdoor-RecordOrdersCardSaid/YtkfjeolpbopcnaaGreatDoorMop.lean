/- Parameters of layer 18, opened: a record, a slice of records. -/
import Derived.Test.YtkfjeolpbopcnaaGreatDoorMwr
import Derived.Test.YtkfjeolpbopcnaaGreatDoorStro
import Derived.Deep.Slices
namespace Go.Proofs.YtkfjeolpbopcnaaGreatDoor
open Go Go.RowKit Go.WideShapes Go.ChangeShapes

theorem li2 {α : Type} {l : List α} (h : l.length = 2) : ∃ a b, l = [a, b] := by
  match l, h with
  | [a, b], _ => exact ⟨a, b, rfl⟩
theorem li4 {α : Type} {l : List α} (h : l.length = 4) : ∃ a b c d, l = [a, b, c, d] := by
  match l, h with
  | [a, b, c, d], _ => exact ⟨a, b, c, d, rfl⟩
theorem li5 {α : Type} {l : List α} (h : l.length = 5) : ∃ a b c d e, l = [a, b, c, d, e] := by
  match l, h with
  | [a, b, c, d, e], _ => exact ⟨a, b, c, d, e, rfl⟩
theorem rows_open {α : Type} {E : α → List Value} {k : Nat} (Q : α → Prop) (hne : ∀ p, 0 < (E p).length) {W : World} {ad : Addr} {len cap : Nat} (hl : len ≤ cap)
    (hp : ∀ i, i < len → ∃ p : α, Q p ∧ ∀ j u, (E p)[j]? = some u → W.cell? (ad.add (i * k + j)) = some u) : ∃ l, Rows E k W (.slice (some ad) len cap) l ∧ ∀ p ∈ l, Q p := by
  cases len with
  | zero => exact ⟨[], ⟨some ad, cap, rfl, Nat.zero_le _, .inl rfl⟩, by simp⟩
  | succ n =>
    obtain ⟨p0, -, h0⟩ := hp 0 (Nat.succ_pos _)
    haveI : Nonempty α := ⟨p0⟩
    obtain ⟨f, hf⟩ : ∃ f : Nat → α, ∀ i, i < n + 1 → Q (f i) ∧ ∀ j u, (E (f i))[j]? = some u → W.cell? (ad.add (i * k + j)) = some u :=
      ⟨fun i => if h : i < n + 1 then Classical.choose (hp i h) else p0, fun i hi => by simp only [hi, dif_pos]; exact Classical.choose_spec (hp i hi)⟩
    refine ⟨(List.range (n + 1)).map f, ⟨some ad, cap, by rw [List.length_map, List.length_range], by rw [List.length_map, List.length_range]; exact hl, ?_⟩, ?_⟩
    · right
      have c0 := cell_plain ((hf 0 (Nat.succ_pos _)).2 0 _ (List.getElem?_eq_getElem (hne _)))
      have ha : ad.add (0 * k + 0) = ad := by simp [Addr.add]
      rw [ha] at c0
      obtain ⟨b, o, sp⟩ := ad
      obtain ⟨rfl, hb⟩ := c0
      refine ⟨b, o, rfl, hb, fun j p hj i u hi => ?_⟩
      have hjl : j < n + 1 := by have := (List.getElem?_eq_some_iff.1 hj).1; rwa [List.length_map, List.length_range] at this
      rw [List.getElem?_map, List.getElem?_range hjl] at hj
      cases hj
      have := (hf j hjl).2 i u hi
      rw [Addr.add_lit] at this
      rw [Nat.add_assoc]
      exact this
    · intro p hp
      obtain ⟨i, hi, rfl⟩ := List.mem_map.1 hp
      exact (hf i (List.mem_range.1 hi)).1
section
variable {H : Type} {enc : TypeId × Value → H} {w : World} {base : Nat} {spare : Nat → Bool} {held : Bool} {fuel : Nat} {cs : List Value} {x : DataW H × List MemPlace}
theorem trod_sub (h : DataW.trod enc Tryz.prog w base spare held fuel 54 cs = some x) : ∃ s : Nat × ByteArray, cs = subE s ∧ s.1 < 256 := by
  obtain ⟨xs, k, -, -, hl, hxl, hf⟩ := DataW.trod_struct Tryz.underlying54 h
  obtain ⟨c0, c1, rfl⟩ := li2 (hl.trans (show Tryz.prog.cellsOf 54 = 2 by kernel_rfl))
  obtain ⟨y0, y1, rfl⟩ := li2 (hxl.trans rfl)
  have hi : Tryz.prog.cellsOf 5 = 1 := by kernel_rfl
  have hs : Tryz.prog.cellsOf 9 = 1 := by kernel_rfl
  have g0 : DataW.trod enc Tryz.prog w base spare held k 5 (List.take (Tryz.prog.cellsOf 5) [c0, c1]) = some y0 := hf 0 _ rfl
  have g1 : DataW.trod enc Tryz.prog w base spare held k 9 (List.take (Tryz.prog.cellsOf 9) [c1]) = some y1 := hf 1 _ rfl
  rw [hi] at g0
  rw [hs] at g1
  obtain ⟨n0, e0, -, z0⟩ := DataW.trod_int Tryz.underlying5 g0
  obtain ⟨n1, e1, -, -⟩ := DataW.trod_string Tryz.underlying9 g1
  simp only [List.take_succ_cons, List.take_zero, List.cons.injEq, and_true] at e0 e1
  subst e0; subst e1
  have hn : 0 ≤ n0 ∧ n0 < 256 := by
    simp only [Lit.wf, Bool.and_eq_true, decide_eq_true_eq] at z0
    have h1 : IntKind.u8.min = 0 := by decide
    have h2 : IntKind.u8.max = 255 := by decide
    omega
  refine ⟨(n0.toNat, n1), ?_, by dsimp only; omega⟩
  unfold subE
  rw [show ((n0.toNat : Nat) : Int) = n0 from Int.toNat_of_nonneg hn.1]
theorem trod_subs (h : DataW.trod enc Tryz.prog w base spare held fuel 33 cs = some x) : ∃ a n c subs, cs = [.slice a n c] ∧ Rows subE 2 w (.slice a n c) subs ∧ ∀ s ∈ subs, s.1 < 256 := by
  have h2 : Tryz.prog.cellsOf 54 = 2 := by kernel_rfl
  rcases Deep.open_slice Tryz.underlying33 h with ⟨rfl, -⟩ | ⟨ad, len, cap, m, n, D, Pl, rfl, -, hl, -, hmm, -, each⟩
  · exact ⟨none, 0, 0, [], rfl, Rows.nil subE 2 w, by simp⟩
  · rw [h2] at each
    obtain ⟨l, hr, hq⟩ := rows_open (E := subE) (k := 2) (fun s => s.1 < 256) (fun _ => by rw [subE_len]; decide) (W := w) (ad := ad) hl (fun i hi => by
      obtain ⟨cs', h1, h2⟩ := each i (by rw [hmm]; split <;> omega)
      obtain ⟨s, rfl, hs⟩ := trod_sub h2
      refine ⟨s, hs, fun j u hj => ?_⟩
      obtain ⟨-, -, hcell⟩ := World.cells?_some h1
      have hj2 : j < 2 := (List.getElem?_eq_some_iff.1 hj).1
      have := hcell j hj2
      rw [Deep.add_add] at this
      rw [this, hj])
    exact ⟨some ad, len, cap, l, rfl, hr, hq⟩
theorem trod_fld (h : DataW.trod enc Tryz.prog w base spare held fuel 35 cs = some x) : ∃ f : Fld, cs = fldE f ∧ FldAt w f ∧ ∀ s ∈ f.subs, s.1 < 256 := by
  obtain ⟨xs, k, -, -, hl, hxl, hf⟩ := DataW.trod_struct Tryz.underlying35 h
  obtain ⟨c0, c1, c2, c3, rfl⟩ := li4 (hl.trans (show Tryz.prog.cellsOf 35 = 4 by kernel_rfl))
  obtain ⟨y0, y1, y2, y3, rfl⟩ := li4 (hxl.trans rfl)
  have hi : Tryz.prog.cellsOf 3 = 1 := by kernel_rfl
  have hs : Tryz.prog.cellsOf 9 = 1 := by kernel_rfl
  have hb : Tryz.prog.cellsOf 33 = 1 := by kernel_rfl
  have g0 : DataW.trod enc Tryz.prog w base spare held k 9 (List.take (Tryz.prog.cellsOf 9) [c0, c1, c2, c3]) = some y0 := hf 0 _ rfl
  have g1 : DataW.trod enc Tryz.prog w base spare held k 9 (List.take (Tryz.prog.cellsOf 9) [c1, c2, c3]) = some y1 := hf 1 _ rfl
  have g2 : DataW.trod enc Tryz.prog w base spare held k 33 (List.take (Tryz.prog.cellsOf 33) [c2, c3]) = some y2 := hf 2 _ rfl
  have g3 : DataW.trod enc Tryz.prog w base spare held k 3 (List.take (Tryz.prog.cellsOf 3) [c3]) = some y3 := hf 3 _ rfl
  rw [hi] at g3
  rw [hs] at g0 g1
  rw [hb] at g2
  obtain ⟨n0, e0, -, -⟩ := DataW.trod_string Tryz.underlying9 g0
  obtain ⟨n1, e1, -, -⟩ := DataW.trod_string Tryz.underlying9 g1
  obtain ⟨a, n, c, subs, e2, hr, hq⟩ := trod_subs g2
  obtain ⟨n3, e3, -, -⟩ := DataW.trod_int Tryz.underlying3 g3
  simp only [List.take_succ_cons, List.take_zero, List.cons.injEq, and_true] at e0 e1 e2 e3
  subst e0; subst e1; subst e2; subst e3
  obtain ⟨a', c', he, hc, hx⟩ := hr
  cases he
  refine ⟨⟨n0.data.toList, n1.data.toList, subs, n3, a, c⟩, ?_, ⟨a, c, rfl, hc, hx⟩, hq⟩
  unfold fldE
  rw [← lb_of, ← lb_of]
theorem trod_flds (h : DataW.trod enc Tryz.prog w base spare held fuel 22 cs = some x) : ∃ a n c l, cs = [.slice a n c] ∧ Flds w (.slice a n c) l ∧ ∀ f ∈ l, ∀ s ∈ f.subs, s.1 < 256 := by
  have h4 : Tryz.prog.cellsOf 35 = 4 := by kernel_rfl
  rcases Deep.open_slice Tryz.underlying22 h with ⟨rfl, -⟩ | ⟨ad, len, cap, m, n, D, Pl, rfl, -, hl, -, hmm, -, each⟩
  · exact ⟨none, 0, 0, [], rfl, Flds.nil w, by simp⟩
  · rw [h4] at each
    obtain ⟨l, hr, hq⟩ := rows_open (E := fldE) (k := 4) (fun f => FldAt w f ∧ ∀ s ∈ f.subs, s.1 < 256) (fun _ => by rw [fldE_len]; decide) (W := w) (ad := ad) hl (fun i hi => by
      obtain ⟨cs', h1, h2⟩ := each i (by rw [hmm]; split <;> omega)
      obtain ⟨f, rfl, hfa⟩ := trod_fld h2
      refine ⟨f, hfa, fun j u hj => ?_⟩
      obtain ⟨-, -, hcell⟩ := World.cells?_some h1
      have hj4 : j < 4 := (List.getElem?_eq_some_iff.1 hj).1
      have := hcell j hj4
      rw [Deep.add_add] at this
      rw [this, hj])
    exact ⟨some ad, len, cap, l, rfl, ⟨hr, fun f hf => (hq f hf).1⟩, fun f hf => (hq f hf).2⟩
theorem trod_rec (h : DataW.trod enc Tryz.prog w base spare held fuel 24 cs = some x) : ∃ (r : Rec) (a : Option Addr) (n c : Nat), cs = [.int .i64 r.id, .int .i64 r.ver, .int .i64 r.kind, .string r.lang, .slice a n c] ∧ Flds w (.slice a n c) r.fields ∧ ∀ f ∈ r.fields, ∀ s ∈ f.subs, s.1 < 256 := by
  obtain ⟨xs, k, -, -, hl, hxl, hf⟩ := DataW.trod_struct Tryz.underlying24 h
  obtain ⟨c0, c1, c2, c3, c4, rfl⟩ := li5 (hl.trans (show Tryz.prog.cellsOf 24 = 5 by kernel_rfl))
  obtain ⟨y0, y1, y2, y3, y4, rfl⟩ := li5 (hxl.trans rfl)
  have hi : Tryz.prog.cellsOf 3 = 1 := by kernel_rfl
  have hs : Tryz.prog.cellsOf 9 = 1 := by kernel_rfl
  have hb : Tryz.prog.cellsOf 22 = 1 := by kernel_rfl
  have g0 : DataW.trod enc Tryz.prog w base spare held k 3 (List.take (Tryz.prog.cellsOf 3) [c0, c1, c2, c3, c4]) = some y0 := hf 0 _ rfl
  have g1 : DataW.trod enc Tryz.prog w base spare held k 3 (List.take (Tryz.prog.cellsOf 3) [c1, c2, c3, c4]) = some y1 := hf 1 _ rfl
  have g2 : DataW.trod enc Tryz.prog w base spare held k 3 (List.take (Tryz.prog.cellsOf 3) [c2, c3, c4]) = some y2 := hf 2 _ rfl
  have g3 : DataW.trod enc Tryz.prog w base spare held k 9 (List.take (Tryz.prog.cellsOf 9) [c3, c4]) = some y3 := hf 3 _ rfl
  have g4 : DataW.trod enc Tryz.prog w base spare held k 22 (List.take (Tryz.prog.cellsOf 22) [c4]) = some y4 := hf 4 _ rfl
  rw [hi] at g0 g1 g2
  rw [hs] at g3
  rw [hb] at g4
  obtain ⟨n0, e0, -, -⟩ := DataW.trod_int Tryz.underlying3 g0
  obtain ⟨n1, e1, -, -⟩ := DataW.trod_int Tryz.underlying3 g1
  obtain ⟨n2, e2, -, -⟩ := DataW.trod_int Tryz.underlying3 g2
  obtain ⟨n3, e3, -, -⟩ := DataW.trod_string Tryz.underlying9 g3
  obtain ⟨a, n, c, l, e4, hr, hq⟩ := trod_flds g4
  simp only [List.take_succ_cons, List.take_zero, List.cons.injEq, and_true] at e0 e1 e2 e3 e4
  subst e0; subst e1; subst e2; subst e3; subst e4
  exact ⟨⟨n0, n1, n2, n3, l⟩, a, n, c, rfl, hr, hq⟩
end
set_option maxRecDepth 100000 in
theorem rec_open {H : Type} {enc : TypeId × Value → H} {r : Reach} {b0 : Nat} {w : World} {base : Nat} {spare : Nat → Bool} {held : Bool} {v : Value} {d : DataW H} {ps : List MemPlace} (hv : Value.okWide Tryz.prog w r b0 24 v)
    (h : DataW.Trod enc Tryz.prog w base spare held 24 v d ps) : ∃ (p : Rec) (a : Option Addr) (n c : Nat), v = .agg #[.int .i64 p.id, .int .i64 p.ver, .int .i64 p.kind, .string p.lang, .slice a n c] ∧ Flds w (.slice a n c) p.fields ∧ ∀ f ∈ p.fields, ∀ s ∈ f.subs, s.1 < 256 := by
  obtain ⟨cs, rfl, -⟩ := okWide_struct Tryz.underlying24 hv
  obtain ⟨fuel, hf⟩ := h
  obtain ⟨p, a, n, c, hp, hfl, hcd⟩ := trod_rec hf
  refine ⟨p, a, n, c, ?_, hfl, hcd⟩
  obtain ⟨l⟩ := cs
  have : l = _ := hp
  subst this
  rfl
end Go.Proofs.YtkfjeolpbopcnaaGreatDoor
