/- Records with their slices in memory; stores of several cells; append to rows of one's own (layer 08). -/
import Derived.Test.YtkfjeolpbopcnaaGreatDoorGow
import Derived.Test.YtkfjeolpbopcnaaGreatDoorGsm
import Derived.OwnWalk
namespace Go.Proofs.YtkfjeolpbopcnaaGreatDoor
open Go Go.RowKit

theorem new2_cell (w : World) (O : Obj) (cs : Array Value) (T : TypeId) (j : Nat) : ((w.alloc O).alloc (.cells cs T)).cell? ⟨w.heap.size + 1, j, none⟩ = cs[j]? := by
  have := Lib.cell_of_heap (heap_alloc_new (w.alloc O) (.cells cs T)) j
  rwa [World.size_alloc] at this
theorem new1_cell (w : World) (cs : Array Value) (T : TypeId) (j : Nat) : (w.alloc (.cells cs T)).cell? ⟨w.heap.size, j, none⟩ = cs[j]? := Lib.cell_of_heap (heap_alloc_new w (.cells cs T)) j
theorem cell_away {w : World} {b b' i j : Nat} {v : Value} (h : b ≠ b' ∨ i ≠ j) : (w.setCell ⟨b, i, none⟩ v).cell? ⟨b', j, none⟩ = w.cell? ⟨b', j, none⟩ :=
  World.cell?_setCell_other _ _ _ _ (by intro e; cases e; rcases h with h | h <;> exact h rfl)
theorem cell_here {w : World} {b i : Nat} {v : Value} (h : (w.cell? ⟨b, i, none⟩).isSome = true) : (w.setCell ⟨b, i, none⟩ v).cell? ⟨b, i, none⟩ = some v := by
  cases hc : w.cell? ⟨b, i, none⟩ with
  | none => rw [hc] at h; cases h
  | some u => exact World.cell?_setCell_same _ _ _ hc
theorem set_block (w : World) (p : Addr) (v : Value) (k : Nat) (h : p.block ≠ k) : (w.setCell p v).heap[k]? = w.heap[k]? := by
  simp [World.setCell, Array.getElem?_modify, h]
theorem set_size (w : World) (p : Addr) (v : Value) : (w.setCell p v).heap.size = w.heap.size := by simp [World.setCell]
/-- Stores of several cells of one block, one after the other. -/
def putL (w : World) (g : Nat) : Nat → List Value → World
  | _, [] => w
  | i, v :: l => putL (w.setCell ⟨g, i, none⟩ v) g (i + 1) l
theorem putL_size : ∀ (l : List Value) (w : World) (g i : Nat), (putL w g i l).heap.size = w.heap.size
  | [], _, _, _ => rfl
  | v :: l, w, g, i => by rw [putL, putL_size l, set_size]
theorem putL_other {b : Nat} : ∀ (l : List Value) (w : World) (g i : Nat), b ≠ g → (putL w g i l).heap[b]? = w.heap[b]?
  | [], _, _, _, _ => rfl
  | v :: l, _, g, i, h => by rw [putL, putL_other l _ _ _ h, set_block _ _ _ _ (Ne.symm h)]
theorem putL_below {B : Nat} {a : World} : ∀ (l : List Value) (w : World) (g i : Nat), Below B a w → B ≤ g → Below B a (putL w g i l)
  | [], _, _, _, h, _ => h
  | v :: l, _, g, i, h, hg => putL_below l _ g _ (h.setCell (p := ⟨g, i, none⟩) hg v) hg
theorem putL_block : ∀ (l : List Value) (w : World) (g i : Nat) (cs : Array Value) (T : TypeId), w.heap[g]? = some (.cells cs T (0, 0)) → i + l.length = cs.size → (putL w g i l).heap[g]? = some (.cells (cs.toList.take i ++ l).toArray T (0, 0))
  | [], w, g, i, cs, T, h, hs => by
    rw [putL, List.append_nil, List.take_of_length_le (by simp only [List.length_nil] at hs; rw [Array.length_toList]; omega)]
    exact h
  | v :: l, w, g, i, cs, T, h, hs => by
    simp only [List.length_cons] at hs
    have h1 := heap_setCell_same w g i cs T v h
    rw [putL, putL_block l _ g (i + 1) _ T h1 (by rw [Array.size_setIfInBounds]; omega)]
    congr 3
    rw [Array.toList_setIfInBounds, List.take_add_one, List.take_set_of_le (Nat.le_refl _)]
    rw [List.append_assoc]
    congr 1
    rw [List.getElem?_set_self (by rw [Array.length_toList]; omega)]
    rfl
theorem putL_all (l : List Value) (w : World) (g : Nat) (cs : Array Value) (T : TypeId) (h : w.heap[g]? = some (.cells cs T (0, 0))) (hs : l.length = cs.size) : (putL w g 0 l).heap[g]? = some (.cells l.toArray T (0, 0)) := by
  have := putL_block l w g 0 cs T h (by omega)
  simpa using this

/-- A record with its slice of fields as it stands. -/
structure Rcd where
  r : Rec
  sa : Option Addr
  sc : Nat
def recE (x : Rcd) : List Value := [.int .i64 x.r.id, .int .i64 x.r.ver, .int .i64 x.r.kind, .string x.r.lang, .slice x.sa x.r.fields.length x.sc]
def RcdAt (w : World) (x : Rcd) : Prop := Flds w (.slice x.sa x.r.fields.length x.sc) x.r.fields
theorem RcdAt.below {w w' : World} {x : Rcd} (h : RcdAt w x) {B : Nat} (hb : Below B w w') (hB : w.heap.size ≤ B) : RcdAt w' x := Flds.below h hb hB
def rec0 : Rec := ⟨0, 0, 0, ⟨#[]⟩, []⟩
def rcd0 : Rcd := ⟨rec0, none, 0⟩
theorem rcdAt_zero (w : World) : RcdAt w rcd0 := Flds.nil w
theorem infoFld : (Tryz.prog.info? 35).map (fun i => (i.zero, i.size, i.bytes)) = some (some (.agg #[.string ⟨#[]⟩, .string ⟨#[]⟩, .slice none 0 0, .int .i64 0]), 4, 64) := by kernel_rfl
/-- Rows of one's own. -/
abbrev OwnF (w : World) (B : Nat) (v : Value) (l : List Fld) : Prop := OwnE fldE 35 w B v l
theorem OwnF.flds {w : World} {B : Nat} {v : Value} {l : List Fld} (h : OwnF w B v l) (hf : ∀ f ∈ l, FldAt w f) : Flds w v l := ⟨OwnE.rows fldE_len h, hf⟩
theorem append_fldsE {ops : Array Oper} {rest : List Oper} {o : Oper} {a : Act} {w : World} {Q : Exit → Act → World → Prop} (hgd : o.guard = none) (s x : Operand)
    (ho : o.op = .call { callee := .builtin .append, args := #[s, x], argTypes := #[22, 22] })
    (B : Nat) (v : Value) (out : List Fld) (hs : a.eval s = v) (hown : OwnF w B v out)
    (ad : Addr) (m c : Nat) (news : List Fld) (hx : a.eval x = .slice (some ad) m c) (hm : m = news.length) (hm0 : 0 < m ∨ v ≠ .slice none 0 0) (hnews : ∀ j u, (flatE fldE news)[j]? = some u → w.cell? (ad.add j) = some u)
    (hlen : out.length + m ≤ 1000000) (hB : B ≤ w.heap.size)
    (h : ∀ v' w', OwnF w' B v' (out ++ news) → w.grownBy w' v.ownBlock → Below B w w' → wpList Tryz.prog ops Q rest (a.put o.dst v') w') : wpList Tryz.prog ops Q (o :: rest) a w := by
  obtain ⟨i0, hi, hz0, hz1, hz2⟩ := info_parts infoFld
  refine wpList_plain hgd fun K hK => ?_
  refine wp_append_E fldE_len (by decide) fldE_one s x 22 ho B 35 i0 (.agg #[.string ⟨#[]⟩, .string ⟨#[]⟩, .slice none 0 0, .int .i64 0]) ⟨[], [], [], 0, none, 0⟩ 64 Tryz.underlying22 hi hz0 hz1 hz2 rfl v out hs hown ad m c news hx hm hm0 hnews (by unfold maxLen; omega) (by omega) hB ?_
  intro v' w' h1 h2
  exact hK _ _ (h v' w' h1 h2 ((Below.refl B w).grown h2 hB (fun k hk => (OwnE.lt hown k hk).1)))
/-- An own row of another type lies elsewhere. -/
theorem OwnE.apart {α : Type} {E : α → List Value} {T : TypeId} {w : World} {B : Nat} {v : Value} {l : List α} (h : OwnE E T w B v l) {g : Nat} {cs : Array Value} {T' : TypeId} {fz : Nat × Nat} (hg : w.heap[g]? = some (.cells cs T' fz)) (hT : T ≠ T') : some g ≠ v.ownBlock := by
  rcases h with ⟨rfl, -⟩ | ⟨g', cap, sp, rfl, h2, h3, -⟩
  · simp [Value.ownBlock]
  · intro e
    simp [Value.ownBlock] at e
    subst e
    rw [hg] at h3
    cases h3
    exact hT rfl
theorem block_grown {w w' : World} {row : Option Nat} (h : w.grownBy w' row) {g : Nat} {O : Obj} (hg : w.heap[g]? = some O) (hr : some g ≠ row) : w'.heap[g]? = some O :=
  (h.block g (Array.getElem?_eq_some_iff.1 hg).1 hr).trans hg
/-- An own row stays when another block is written. -/
theorem OwnE.set {α : Type} {E : α → List Value} {T : TypeId} {w : World} {B : Nat} {v : Value} {l : List α} (h : OwnE E T w B v l) {g : Nat} {cs : Array Value} {T' : TypeId} {fz : Nat × Nat} (hg : w.heap[g]? = some (.cells cs T' fz)) (hT : T ≠ T') (i : Nat) (u : Value) : OwnE E T (w.setCell ⟨g, i, none⟩ u) B v l := by
  have ha := h.apart hg hT
  rcases h with h | ⟨g', cap, sp, rfl, h2, h3, h4⟩
  · exact .inl h
  · refine .inr ⟨g', cap, sp, rfl, h2, ?_, h4⟩
    rw [set_block _ _ _ _ (by intro e; exact ha (by simp [Value.ownBlock]; exact e))]
    exact h3
theorem OwnE.other {α β : Type} {E : α → List Value} {T : TypeId} {w w' : World} {B : Nat} {v : Value} {l : List α} (h : OwnE E T w B v l) {E' : β → List Value} {T' : TypeId} {B' : Nat} {v' : Value} {l' : List β} (h' : OwnE E' T' w B' v' l') (hT : T ≠ T') (hg : w.grownBy w' v'.ownBlock) : OwnE E T w' B v l := by
  rcases h with h | ⟨g, cap, sp, rfl, h2, h3, h4⟩
  · exact .inl h
  · exact .inr ⟨g, cap, sp, rfl, h2, block_grown hg h3 (h'.apart h3 (Ne.symm hT)), h4⟩
theorem cells_fld {w : World} {b : Nat} {f : Fld} (h : Four w b 0 f) : ∀ j u, (flatE fldE [f])[j]? = some u → w.cell? ((⟨b, 0, none⟩ : Addr).add j) = some u := by
  intro j u hj
  rw [Addr.add_lit]
  have hj4 : j < 4 := by have := (List.getElem?_eq_some_iff.1 hj).1; simpa [flatE, fldE] using this
  rcases (by omega : j = 0 ∨ j = 1 ∨ j = 2 ∨ j = 3) with rfl | rfl | rfl | rfl
  · cases hj; exact h.c0
  · cases hj; exact h.c1
  · cases hj; exact h.c2
  · cases hj; exact h.c3
/-- The slice is one of records' fields, of integers .. as it stands. -/
theorem Rows.shape {α : Type} {E : α → List Value} {k : Nat} {w : World} {v : Value} {l : List α} (h : Rows E k w v l) : ∃ a c, v = .slice a l.length c ∧ l.length ≤ c := by
  obtain ⟨a, c, rfl, hc, -⟩ := h
  exact ⟨_, _, rfl, hc⟩
end Go.Proofs.YtkfjeolpbopcnaaGreatDoor
