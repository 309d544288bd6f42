/- Slices of records: what the memory holds, a parameter opened, own rows and append (layer 18). -/
import Derived.Test.YtimecccphbgdeaaDoorMop
import Derived.Test.YtimecccphbgdeaaDoorGow
namespace Go.Proofs.YtimecccphbgdeaaDoor
open Go Go.RowKit Go.WideShapes Go.ChangeShapes

/-- A record with its slice of fields as it stands. -/
structure Rcd where
  r : Rec
  sa : Option Addr
  sc : Nat
def recE (x : Rcd) : List Value := [.int .i64 x.r.id, .int .i64 x.r.ver, .int .i64 x.r.kind, .string x.r.lang, .slice x.sa x.r.fields.length x.sc]
theorem recE_len (x : Rcd) : (recE x).length = 5 := rfl
theorem recE_one : ∀ x, ∀ u ∈ recE x, u.oneCell' = true := by
  intro s u hu
  simp only [recE, List.mem_cons, List.not_mem_nil, or_false] at hu
  rcases hu with rfl | rfl | rfl | rfl | rfl <;> rfl
def RcdAt (w : World) (x : Rcd) : Prop := Flds w (.slice x.sa x.r.fields.length x.sc) x.r.fields
/-- The value is a slice whose cells hold these records. -/
def Recs (w : World) (v : Value) (l : List Rcd) : Prop := Rows recE 5 w v l ∧ ∀ x ∈ l, RcdAt w x
theorem Recs.below {w w' : World} {v : Value} {l : List Rcd} (h : Recs w v l) {B : Nat} (hb : Below B w w') (hB : w.heap.size ≤ B) : Recs w' v l := ⟨h.1.below hb hB, fun f hf => Flds.below (h.2 f hf) hb hB⟩
theorem Recs.nil (w : World) : Recs w (.slice none 0 0) [] := ⟨Rows.nil recE 5 w, by simp⟩
theorem Recs.len {w : World} {a : Option Addr} {n c : Nat} {l : List Rcd} (h : Recs w (.slice a n c) l) : n = l.length ∧ n ≤ c := by
  obtain ⟨⟨a', c', he, hc, -⟩, -⟩ := h
  cases he
  exact ⟨rfl, hc⟩
/-- The five cells of a record in a row. -/
structure Cell5 (w : World) (b o : Nat) (x : Rcd) : Prop where
  c0 : w.cell? ⟨b, o, none⟩ = some (.int .i64 x.r.id)
  c1 : w.cell? ⟨b, o + 1, none⟩ = some (.int .i64 x.r.ver)
  c2 : w.cell? ⟨b, o + 2, none⟩ = some (.int .i64 x.r.kind)
  c3 : w.cell? ⟨b, o + 3, none⟩ = some (.string x.r.lang)
  c4 : w.cell? ⟨b, o + 4, none⟩ = some (.slice x.sa x.r.fields.length x.sc)
theorem cell5_of {w : World} {b o : Nat} {x : Rcd} (h : ∀ i u, (recE x)[i]? = some u → w.cell? ⟨b, o + i, none⟩ = some u) : Cell5 w b o x := ⟨h 0 _ rfl, h 1 _ rfl, h 2 _ rfl, h 3 _ rfl, h 4 _ rfl⟩
theorem Cell5.below {w w' : World} {b o : Nat} {x : Rcd} (h : Cell5 w b o x) {B : Nat} (hb : Below B w w') (hB : b < B) : Cell5 w' b o x :=
  ⟨(hb.cell (p := ⟨b, o, none⟩) hB).trans h.c0, (hb.cell (p := ⟨b, o + 1, none⟩) hB).trans h.c1, (hb.cell (p := ⟨b, o + 2, none⟩) hB).trans h.c2, (hb.cell (p := ⟨b, o + 3, none⟩) hB).trans h.c3, (hb.cell (p := ⟨b, o + 4, none⟩) hB).trans h.c4⟩
theorem recs_cells {w : World} {a : Option Addr} {n c : Nat} {l : List Rcd} (h : Recs w (.slice a n c) l) : n = 0 ∨ ∃ b o, a = some ⟨b, o, none⟩ ∧ b < w.heap.size ∧ ∀ j x, l[j]? = some x → Cell5 w b (o + j * 5) x := by
  obtain ⟨⟨a', c', he, -, hx⟩, -⟩ := h
  cases he
  rcases hx with h0 | ⟨b, o, rfl, hb, hcl⟩
  · left; rw [h0]; rfl
  · exact .inr ⟨b, o, rfl, hb, fun j f hf => cell5_of (hcl j f hf)⟩

theorem infoRec : (Tryd.prog.info? 24).map (fun i => (i.zero, i.size, i.bytes)) = some (some (.agg #[.int .i64 0, .int .i64 0, .int .i64 0, .string ⟨#[]⟩, .slice none 0 0]), 5, 64) := by kernel_rfl
/-- A row of records of one's own. -/
abbrev OwnR (w : World) (B : Nat) (v : Value) (l : List Rcd) : Prop := OwnE recE 24 w B v l
theorem OwnR.recs {w : World} {B : Nat} {v : Value} {l : List Rcd} (h : OwnR w B v l) (hf : ∀ x ∈ l, RcdAt w x) : Recs w v l := ⟨OwnE.rows recE_len h, hf⟩
theorem fld_not_rec (ll : List Rcd) (o : Nat) (p : Fld) (h : ∀ i u, (fldE p)[i]? = some u → (flatE recE ll)[o + i]? = some u) : False := by
  obtain ⟨f, hf⟩ := flat_cell recE_len (by decide) (h 0 _ rfl)
  obtain ⟨g, hg⟩ := flat_cell recE_len (by decide) (h 1 _ rfl)
  have hm : (o + 0) % 5 < 5 := Nat.mod_lt _ (by decide)
  rcases (by omega : (o + 0) % 5 = 0 ∨ (o + 0) % 5 = 1 ∨ (o + 0) % 5 = 2 ∨ ((o + 0) % 5 = 3 ∧ (o + 1) % 5 = 4) ∨ (o + 0) % 5 = 4) with e | e | e | ⟨-, e⟩ | e
  · rw [e] at hf; cases hf
  · rw [e] at hf; cases hf
  · rw [e] at hf; cases hf
  · rw [e] at hg; cases hg
  · rw [e] at hf; cases hf
theorem sub_not_rec (ll : List Rcd) (o : Nat) (p : Nat × ByteArray) (h : ∀ i u, (subE p)[i]? = some u → (flatE recE ll)[o + i]? = some u) : False := by
  obtain ⟨f, hf⟩ := flat_cell recE_len (by decide) (h 0 _ rfl)
  have hm : (o + 0) % 5 < 5 := Nat.mod_lt _ (by decide)
  rcases (by omega : (o + 0) % 5 = 0 ∨ (o + 0) % 5 = 1 ∨ (o + 0) % 5 = 2 ∨ (o + 0) % 5 = 3 ∨ (o + 0) % 5 = 4) with e | e | e | e | e <;> (rw [e] at hf; cases hf)
theorem RcdAt.grown {w w' : World} {x : Rcd} (h : RcdAt w x) {B : Nat} {v : Value} {l : List Rcd} (hown : OwnR w B v l) (hg : w.grownBy w' v.ownBlock) : RcdAt w' x :=
  ⟨h.1.grown hown hg fld_not_rec, fun f hf => Rows.grown (h.2 f hf) hown hg sub_not_rec⟩
theorem append_recs {ops : Array Oper} {rest : List Oper} {o : Oper} {a : Act} {w : World} {Q : Exit → Act → World → Prop} (hgd : o.guard = none) (s x : Operand)
    (ho : o.op = .call { callee := .builtin .append, args := #[s, x], argTypes := #[33, 33] })
    (B : Nat) (v : Value) (out : List Rcd) (hs : a.eval s = v) (hown : OwnR w B v out) (hat : ∀ y ∈ out, RcdAt w y)
    (ad : Addr) (m c : Nat) (news : List Rcd) (hx : a.eval x = .slice (some ad) m c) (hm : m = news.length) (hm0 : 0 < m) (hnews : ∀ j u, (flatE recE news)[j]? = some u → w.cell? (ad.add j) = some u) (hnat : ∀ y ∈ news, RcdAt w y)
    (hlen : out.length + m ≤ 1000000) (hB : B ≤ w.heap.size)
    (h : ∀ v' w', OwnR w' B v' (out ++ news) → (∀ y ∈ out ++ news, RcdAt w' y) → Below B w w' → wpList Tryd.prog ops Q rest (a.put o.dst v') w') : wpList Tryd.prog ops Q (o :: rest) a w := by
  obtain ⟨i0, hi, hz0, hz1, hz2⟩ := info_parts infoRec
  refine wpList_plain hgd fun K hK => ?_
  refine wp_append_E recE_len (by decide) recE_one s x 33 ho B 24 i0 (.agg #[.int .i64 0, .int .i64 0, .int .i64 0, .string ⟨#[]⟩, .slice none 0 0]) ⟨⟨0, 0, 0, ⟨#[]⟩, []⟩, none, 0⟩ 64 Tryd.underlying33 hi hz0 hz1 hz2 rfl v out hs hown ad m c news hx hm hm0 hnews (by unfold maxLen; omega) (by omega) hB ?_
  intro v' w' h1 h2
  refine hK _ _ (h v' w' h1 (fun y hy => ?_) ((Below.refl B w).grown h2 hB (fun k hk => (OwnE.lt hown k hk).1)))
  rcases List.mem_append.1 hy with hy | hy
  · exact (hat y hy).grown hown h2
  · exact (hnat y hy).grown hown h2
theorem cells_rec {w : World} {b : Nat} {x : Rcd} (h : Cell5 w b 0 x) : ∀ j u, (flatE recE [x])[j]? = some u → w.cell? ((⟨b, 0, none⟩ : Addr).add j) = some u := by
  intro j u hj
  rw [Addr.add_lit]
  have hj5 : j < 5 := by have := (List.getElem?_eq_some_iff.1 hj).1; simpa [flatE, recE] using this
  rcases (by omega : j = 0 ∨ j = 1 ∨ j = 2 ∨ j = 3 ∨ j = 4) with rfl | rfl | rfl | rfl | rfl
  · cases hj; exact h.c0
  · cases hj; exact h.c1
  · cases hj; exact h.c2
  · cases hj; exact h.c3
  · cases hj; exact h.c4

theorem recs_open {H : Type} {enc : TypeId × Value → H} {W : World} {a : Option Addr} {len cap : Nat} {d : DataW H} {ps : List MemPlace}
    (h : DataW.Trod enc Tryd.prog W 0 (fun _ => true) true 33 (.slice a len cap) d ps) : ∃ l, Recs W (.slice a len cap) l ∧ ∀ x ∈ l, ∀ f ∈ x.r.fields, ∀ s ∈ f.subs, s.1 < 256 := by
  obtain ⟨fuel, hf⟩ := h
  have h5 : Tryd.prog.cellsOf 24 = 5 := by kernel_rfl
  rcases Deep.open_slice Tryd.underlying33 hf with ⟨h0, -⟩ | ⟨ad, len', cap', m, n, D, Pl, h0, -, hl, -, hmm, -, each⟩
  · simp only [Value.cells, List.cons.injEq, and_true, Value.slice.injEq] at h0
    obtain ⟨rfl, rfl, rfl⟩ := h0
    exact ⟨[], Recs.nil W, by simp⟩
  · simp only [Value.cells, List.cons.injEq, and_true, Value.slice.injEq] at h0
    obtain ⟨rfl, rfl, rfl⟩ := h0
    rw [h5] at each
    obtain ⟨l, hr, hq⟩ := rows_open (E := recE) (k := 5) (fun x => RcdAt W x ∧ ∀ f ∈ x.r.fields, ∀ s ∈ f.subs, s.1 < 256) (fun _ => by rw [recE_len]; decide) (W := W) (ad := ad) hl (fun i hi => by
      obtain ⟨cs', h1, h2⟩ := each i (by rw [hmm]; split <;> omega)
      obtain ⟨r, a', n', c', rfl, hfa, hcd⟩ := trod_rec h2
      obtain ⟨e, -⟩ := hfa.len
      subst e
      refine ⟨⟨r, a', c'⟩, ⟨hfa, hcd⟩, fun j u hj => ?_⟩
      obtain ⟨-, -, hcell⟩ := World.cells?_some h1
      have hj5 : j < 5 := (List.getElem?_eq_some_iff.1 hj).1
      have := hcell j hj5
      rw [Deep.add_add] at this
      rw [this, ← hj]
      rfl)
    exact ⟨l, ⟨hr, fun x hx => (hq x hx).1⟩, fun x hx => (hq x hx).2⟩
end Go.Proofs.YtimecccphbgdeaaDoor
