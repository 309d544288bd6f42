/- Results that are a record in a cell; the plain Up; the walk of the program's Up (layer 18). -/
import Derived.Test.YtimecccphbgdeaaDoorMra
namespace Go.Proofs.YtimecccphbgdeaaDoor
open Go Go.RowKit

theorem cell_away {w : World} {b b' i j : Nat} {v : Value} (h : b ≠ b' ∨ i ≠ j) : (w.setCell ⟨b, i, none⟩ v).cell? ⟨b', j, none⟩ = w.cell? ⟨b', j, none⟩ :=
  World.cell?_setCell_other _ _ _ _ (by intro e; cases e; rcases h with h | h <;> exact h rfl)
theorem cell_here {w : World} {b i : Nat} {v : Value} (h : (w.cell? ⟨b, i, none⟩).isSome = true) : (w.setCell ⟨b, i, none⟩ v).cell? ⟨b, i, none⟩ = some v := by
  cases hc : w.cell? ⟨b, i, none⟩ with
  | none => rw [hc] at h; cases h
  | some u => exact World.cell?_setCell_same _ _ _ hc
/-- The five cells of a record. -/
structure Five (w : World) (g : Nat) (id ver kind : Int) (lang : ByteArray) (s : Value) : Prop where
  c0 : w.cell? ⟨g, 0, none⟩ = some (.int .i64 id)
  c1 : w.cell? ⟨g, 1, none⟩ = some (.int .i64 ver)
  c2 : w.cell? ⟨g, 2, none⟩ = some (.int .i64 kind)
  c3 : w.cell? ⟨g, 3, none⟩ = some (.string lang)
  c4 : w.cell? ⟨g, 4, none⟩ = some s
/-- Five stores. -/
def put5 (w : World) (g : Nat) (id ver kind : Int) (lang : ByteArray) (s : Value) : World :=
  ((((w.setCell ⟨g, 0, none⟩ (.int .i64 id)).setCell ⟨g, 1, none⟩ (.int .i64 ver)).setCell ⟨g, 2, none⟩ (.int .i64 kind)).setCell ⟨g, 3, none⟩ (.string lang)).setCell ⟨g, 4, none⟩ s
theorem put5_away {w : World} {g b j : Nat} {id ver kind : Int} {lang : ByteArray} {s : Value} (h : g ≠ b) : (put5 w g id ver kind lang s).cell? ⟨b, j, none⟩ = w.cell? ⟨b, j, none⟩ := by
  unfold put5
  rw [cell_away (.inl h), cell_away (.inl h), cell_away (.inl h), cell_away (.inl h), cell_away (.inl h)]
theorem put5_size {w : World} {g : Nat} {id ver kind : Int} {lang : ByteArray} {s : Value} : (put5 w g id ver kind lang s).heap.size = w.heap.size := by
  unfold put5
  simp [World.setCell]
theorem five_put {w : World} {g : Nat} {id ver kind : Int} {lang : ByteArray} {s : Value} (h : ∀ j, j < 5 → (w.cell? ⟨g, j, none⟩).isSome = true) : Five (put5 w g id ver kind lang s) g id ver kind lang s := by
  unfold put5
  refine ⟨?_, ?_, ?_, ?_, ?_⟩
  · rw [cell_away (by omega), cell_away (by omega), cell_away (by omega), cell_away (by omega)]
    exact cell_here (h 0 (by omega))
  · rw [cell_away (by omega), cell_away (by omega), cell_away (by omega)]
    exact cell_here (by rw [cell_away (by omega)]; exact h 1 (by omega))
  · rw [cell_away (by omega), cell_away (by omega)]
    exact cell_here (by rw [cell_away (by omega), cell_away (by omega)]; exact h 2 (by omega))
  · rw [cell_away (by omega)]
    exact cell_here (by rw [cell_away (by omega), cell_away (by omega), cell_away (by omega)]; exact h 3 (by omega))
  · exact cell_here (by rw [cell_away (by omega), cell_away (by omega), cell_away (by omega), cell_away (by omega)]; exact h 4 (by omega))
theorem below_put5 {B : Nat} {a w : World} {g : Nat} {id ver kind : Int} {lang : ByteArray} {s : Value} (h : Below B a w) (hb : B ≤ g) : Below B a (put5 w g id ver kind lang s) := by
  unfold put5
  exact ((((h.setCell (p := ⟨g, _, none⟩) hb _).setCell (p := ⟨g, _, none⟩) hb _).setCell (p := ⟨g, _, none⟩) hb _).setCell (p := ⟨g, _, none⟩) hb _).setCell (p := ⟨g, _, none⟩) hb _
theorem results_rec {fn : Func} {t u : Tmp} (h : fn.results = #[.cell t 24, .tmp u]) (tmps : Array Value) (w : World) (g : Nat) (id ver kind : Int) (lang : ByteArray) (s : Value) (ht : tmps.getD t undef = .pointer (some ⟨g, 0, none⟩)) (h5 : Five w g id ver kind lang s) :
    (results fn tmps).run Tryd.prog w = .ok (.tuple #[.agg #[.int .i64 id, .int .i64 ver, .int .i64 kind, .string lang, s], tmps.getD u undef]) w := by
  obtain ⟨q0, q1, q2, q3, q4⟩ := h5
  unfold results
  rw [h]
  simp only [List.mapM_toArray, List.mapM_cons, List.mapM_nil]
  rw [ht]
  go_simp

/-- The record that a refusal returns. -/
def rec0 : Rec := ⟨0, 0, 0, ⟨#[]⟩, []⟩
/-- Up, plain. -/
def upP (r : Rec) : Rec × Int :=
  if rightM r = false then (rec0, 12) else if r.ver = 3 then (rec0, 20)
  else if 64 < (upL r.ver r.fields).length then (rec0, 13) else (⟨r.id, r.ver + 1, r.kind, r.lang, upL r.ver r.fields⟩, 0)
/-- A call returns a record and an error's number. -/
def RetRec (w : World) (p : Rec × Int) (e : Ending) (w' : World) : Prop := ∃ v, e = .returned (.tuple #[v, .int .i64 p.2]) ∧ RecV w' v p.1 ∧ Below w.heap.size w w'
theorem recV_zero (w : World) : RecV w (.agg #[.int .i64 0, .int .i64 0, .int .i64 0, .string ⟨#[]⟩, .slice none 0 0]) rec0 := ⟨none, 0, 0, rfl, Flds.nil w⟩
/-- The world with a record's block and an empty one for the result. -/
abbrev resW (w : World) (id ver kind : Int) (lang : ByteArray) (a : Option Addr) (n c : Nat) : World := (recW w id ver kind lang a n c).alloc (.cells #[.int .i64 0, .int .i64 0, .int .i64 0, .string ⟨#[]⟩, .slice none 0 0] 24)
theorem resW_size (w : World) (id ver kind : Int) (lang : ByteArray) (a : Option Addr) (n c : Nat) : (resW w id ver kind lang a n c).heap.size = w.heap.size + 2 := by rw [World.size_alloc, World.size_alloc]
structure ResAt (w : World) (b : Nat) (id ver kind : Int) (lang : ByteArray) (s : Value) : Prop where
  par : w.heap[b]? = some (.cells #[.int .i64 id, .int .i64 ver, .int .i64 kind, .string lang, s] 24 (0, 0))
  res : w.heap[b + 1]? = some (.cells #[.int .i64 0, .int .i64 0, .int .i64 0, .string ⟨#[]⟩, .slice none 0 0] 24 (0, 0))
theorem resAt_of {w W : World} {id ver kind : Int} {lang : ByteArray} {a : Option Addr} {n c : Nat} (h : Below (resW w id ver kind lang a n c).heap.size (resW w id ver kind lang a n c) W) : ResAt W w.heap.size id ver kind lang (.slice a n c) := by
  have s1 : (recW w id ver kind lang a n c).heap.size = w.heap.size + 1 := World.size_alloc _ _
  have s2 : (resW w id ver kind lang a n c).heap.size = w.heap.size + 2 := by rw [World.size_alloc, s1]
  refine ⟨?_, ?_⟩
  · rw [h.block _ (by omega), Lib.alloc_old _ _ _ (by omega)]
    exact heap_alloc_new w _
  · rw [h.block _ (by omega), ← s1]
    exact heap_alloc_new _ _
theorem ResAt.below {w W : World} {b : Nat} {id ver kind : Int} {lang : ByteArray} {s : Value} (h : ResAt w b id ver kind lang s) {B : Nat} (hb : Below B w W) (hB : b + 1 < B) : ResAt W b id ver kind lang s :=
  ⟨(hb.block _ (by omega)).trans h.par, (hb.block _ hB).trans h.res⟩
theorem ResAt.some {w : World} {b : Nat} {id ver kind : Int} {lang : ByteArray} {s : Value} (h : ResAt w b id ver kind lang s) : ∀ j, j < 5 → (w.cell? ⟨b + 1, j, none⟩).isSome = true := by
  intro j hj
  rw [Lib.cell_of_heap h.res]
  rcases (by omega : j = 0 ∨ j = 1 ∨ j = 2 ∨ j = 3 ∨ j = 4) with rfl | rfl | rfl | rfl | rfl <;> rfl
theorem ResAt.five {w : World} {b : Nat} {id ver kind : Int} {lang : ByteArray} {s : Value} (h : ResAt w b id ver kind lang s) : Five w b id ver kind lang s := by
  refine ⟨?_, ?_, ?_, ?_, ?_⟩ <;> (rw [Lib.cell_of_heap h.par]; rfl)
theorem raise_len (ver : Int) (f : Fld) : (raise ver f).length ≤ 2 := by
  unfold raise
  split
  · simp
  · split <;> simp
theorem upL_at {w : World} {ver : Int} {l : List Fld} (h : ∀ f ∈ l, FldAt w f) : ∀ g ∈ upL ver l, FldAt w g := by
  intro g hg
  obtain ⟨f, hf, hgf⟩ := List.mem_flatMap.1 hg
  have := h f hf
  unfold raise at hgf
  split at hgf
  · cases List.mem_singleton.1 hgf; exact this
  · split at hgf
    · rcases List.mem_cons.1 hgf with rfl | hgf
      · exact this
      · cases List.mem_singleton.1 hgf; exact this
    · cases List.mem_singleton.1 hgf; exact this
theorem upL_step {l : List Fld} {k : Nat} {f : Fld} (ver : Int) (h : l[k]? = some f) : upL ver (l.drop k) = raise ver f ++ upL ver (l.drop (k + 1)) := by
  rw [drop_step h]; rfl
theorem OwnF.val {w : World} {B : Nat} {v : Value} {l : List Fld} (h : OwnF w B v l) : ∃ a c, v = .slice a l.length c := by
  rcases h.2 with ⟨hv, h0⟩ | ⟨g, cap, cur, hv, _⟩
  · exact ⟨none, 0, by rw [hv, h0]⟩
  · exact ⟨_, cap, hv⟩
theorem flds_own {w w' : World} {B : Nat} {v : Value} {l : List Fld} (h : OwnF w B v l) (hs : w.heap.size ≤ w'.heap.size) (hc : ∀ g i, B ≤ g → w'.cell? ⟨g, i, none⟩ = w.cell? ⟨g, i, none⟩) {w0 : World} (h0 : ∀ f ∈ l, FldAt w0 f) (hb : Below w0.heap.size w0 w') : Flds w' v l :=
  h.flds hs hc (fun f hf => (h0 f hf).below hb (Nat.le_refl _))
end Go.Proofs.YtimecccphbgdeaaDoor
