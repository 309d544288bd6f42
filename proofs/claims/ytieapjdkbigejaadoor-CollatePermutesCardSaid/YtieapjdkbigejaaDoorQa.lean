/- Sorting (layer 2): what the memory holds while texts are sorted, and the plain facts about lists in order. -/
import Derived.Test.YtieapjdkbigejaaDoorKcp
import Derived.Lib.FrozenHead2
namespace Go.Proofs.YtieapjdkbigejaaDoor
open Go Go.RowKit

/-! ### lists in order -/
def kle (m : Nat) (x y : List Nat) : Prop := kcmp m x y ≤ 0
theorem kle_of_not (m : Nat) {x y : List Nat} (h : ¬ kcmp m y x < 0) : kle m x y := by
  have := kcmp_neg m x y
  unfold kle
  omega
theorem kle_of_lt (m : Nat) {x y : List Nat} (h : kcmp m x y < 0) : kle m x y := by unfold kle; omega
theorem kle_trans (m : Nat) {x y z : List Nat} (h : kle m x y) (k : kle m y z) : kle m x z := (kcmp_trans m x y z h k).1
theorem kle_refl (m : Nat) (x : List Nat) : kle m x x := by
  have := kcmp_neg m x x
  unfold kle
  omega
theorem kle_total (m : Nat) (x y : List Nat) : kle m x y ∨ kle m y x := by
  have := kcmp_neg m x y
  unfold kle
  omega
def SortedK (m : Nat) (l : List (List Nat)) : Prop := l.Pairwise (kle m)
/-- Lists in order that hold the same texts are the same. -/
theorem sorted_unique (m : Nat) : ∀ (a b : List (List Nat)), (∀ x ∈ a, okt x = true) → a.Perm b → SortedK m a → SortedK m b → a = b
  | [], b, _, hp, _, _ => (List.perm_nil.1 hp.symm).symm
  | x :: a, b, ho, hp, ha, hb => by
    cases b with
    | nil => exact absurd hp.length_eq (by simp)
    | cons y b =>
      have hx : x ∈ y :: b := hp.subset (by simp)
      have hy : y ∈ x :: a := hp.symm.subset (by simp)
      have hxy : x = y := by
        rcases List.mem_cons.1 hx with e | h1
        · exact e
        · rcases List.mem_cons.1 hy with e | h2
          · exact e.symm
          · have l1 := (List.pairwise_cons.1 hb).1 x h1
            have l2 := (List.pairwise_cons.1 ha).1 y h2
            have h3 := kcmp_neg m x y
            unfold kle at l1 l2
            exact (kcmp_eq m x y (ho x (by simp)) (ho y hy)).1 (by omega)
      subst hxy
      rw [sorted_unique m a b (fun z hz => ho z (by simp [hz])) ((List.perm_cons x).1 hp) (List.pairwise_cons.1 ha).2 (List.pairwise_cons.1 hb).2]

/-! ### the memory -/
/-- While a list is sorted: the older blocks are as they were, the captured language stands, the row holds l. -/
structure SInv (w0 : World) (blk cl : Nat) (lang : ByteArray) (w : World) (l : List (List Nat)) : Prop where
  below : Below w0.heap.size w0 w
  cl0 : w.cell? ⟨cl, 0, none⟩ = some (.string lang)
  cll : cl < w.heap.size
  clb : cl ≠ blk
  bl : blk < w.heap.size
  b0 : w0.heap.size ≤ blk
  hold : ∀ j x, l[j]? = some x → w.cell? ⟨blk, j, none⟩ = some (.string (bs x)) ∧ w.frozen? ⟨blk, j, none⟩ = false
  good : ∀ x ∈ l, okt x = true ∧ (bs x).size ≤ 300
section
variable {w0 w w' : World} {blk cl : Nat} {lang : ByteArray} {l : List (List Nat)}
theorem SInv.step (h : SInv w0 blk cl lang w l) (b : Below w.heap.size w w') : SInv w0 blk cl lang w' l :=
  ⟨h.below.trans (b.mono h.below.size), (b.cell (p := ⟨cl, 0, none⟩) h.cll).trans h.cl0, Nat.lt_of_lt_of_le h.cll b.size, h.clb, Nat.lt_of_lt_of_le h.bl b.size, h.b0,
    fun j x hx => ⟨(b.cell (p := ⟨blk, j, none⟩) h.bl).trans (h.hold j x hx).1, (b.frozen (p := ⟨blk, j, none⟩) h.bl).trans (h.hold j x hx).2⟩, h.good⟩
theorem SInv.drew (h : SInv w0 blk cl lang w l) : SInv w0 blk cl lang w.drew l := h.step (Below.refl _ _).drew
theorem SInv.eq (h : SInv w0 blk cl lang w l) {k : List (List Nat)} (e : l = k) : SInv w0 blk cl lang w k := e ▸ h
theorem SInv.at (h : SInv w0 blk cl lang w l) {A C : List (List Nat)} {x : List Nat} (e : l = A ++ x :: C) {i : Nat} (hi : i = A.length) :
    w.cell? ⟨blk, i, none⟩ = some (.string (bs x)) ∧ w.frozen? ⟨blk, i, none⟩ = false := h.hold i x (by rw [e, hi]; simp)
theorem cell_other {w : World} {b b' i j : Nat} {v : Value} (h : b ≠ b' ∨ i ≠ j) : (w.setCell ⟨b, i, none⟩ v).cell? ⟨b', j, none⟩ = w.cell? ⟨b', j, none⟩ :=
  World.cell?_setCell_other _ _ _ _ (by intro e; cases e; rcases h with h | h <;> exact h rfl)
theorem SInv.swap {A B C : List (List Nat)} {x y : List Nat} (h : SInv w0 blk cl lang w (A ++ x :: (B ++ y :: C))) {i j : Nat} (hi : i = A.length) (hj : j = A.length + 1 + B.length) :
    SInv w0 blk cl lang ((w.setCell ⟨blk, i, none⟩ (.string (bs y))).setCell ⟨blk, j, none⟩ (.string (bs x))) (A ++ y :: (B ++ x :: C)) := by
  have ci := (h.at rfl hi).1
  have cj := (h.at (A := A ++ x :: B) (x := y) (C := C) (by simp) (i := j) (by simp; omega)).1
  refine ⟨(h.below.setCell (p := ⟨blk, i, none⟩) h.b0 _).setCell (p := ⟨blk, j, none⟩) h.b0 _, ?_, ?_, h.clb, ?_, h.b0, ?_, ?_⟩
  · rw [cell_other (.inl h.clb.symm), cell_other (.inl h.clb.symm)]
    exact h.cl0
  · rw [World.size_setCell, World.size_setCell]; exact h.cll
  · rw [World.size_setCell, World.size_setCell]; exact h.bl
  · intro k z hz
    rw [World.frozen?_setCell, World.frozen?_setCell]
    have e : A ++ y :: (B ++ x :: C) = ((A ++ x :: (B ++ y :: C)).set i y).set j x := by
      subst hi hj
      rw [List.set_append_right _ _ (Nat.le_refl _), Nat.sub_self, List.set_cons_zero, List.set_append_right _ _ (by omega), show A.length + 1 + B.length - A.length = B.length + 1 by omega, List.set_cons_succ, List.set_append_right _ _ (Nat.le_refl _), Nat.sub_self, List.set_cons_zero]
    have hl : (A ++ y :: (B ++ x :: C)).length = (A ++ x :: (B ++ y :: C)).length := by simp
    have hk : k < (A ++ x :: (B ++ y :: C)).length := by rw [← hl]; exact (List.getElem?_eq_some_iff.1 hz).1
    have hlen : (A ++ x :: (B ++ y :: C)).length = A.length + 1 + B.length + 1 + C.length := by simp; omega
    have fk := (h.hold k _ (List.getElem?_eq_getElem hk)).2
    refine ⟨?_, fk⟩
    rw [e] at hz
    by_cases hkj : k = j
    · subst hkj
      rw [List.getElem?_set_self (by rw [List.length_set]; exact hk)] at hz
      cases hz
      exact World.cell?_setCell_same _ _ _ ((cell_other (.inr (by omega))).trans cj)
    · rw [List.getElem?_set_ne (fun e => hkj e.symm)] at hz
      rw [cell_other (.inr (fun e => hkj e.symm))]
      by_cases hki : k = i
      · subst hki
        rw [List.getElem?_set_self hk] at hz
        cases hz
        exact World.cell?_setCell_same _ _ _ ci
      · rw [List.getElem?_set_ne (fun e => hki e.symm)] at hz
        rw [cell_other (.inr (fun e => hki e.symm))]
        exact (h.hold k z hz).1
  · intro z hz
    refine h.good z ?_
    simp only [List.mem_append, List.mem_cons] at hz ⊢
    rcases hz with e | e | e | e | e
    · exact .inl e
    · exact .inr (.inr (.inr (.inl e)))
    · exact .inr (.inr (.inl e))
    · exact .inr (.inl e)
    · exact .inr (.inr (.inr (.inr e)))
theorem SInv.swap' {A B C : List (List Nat)} {x y : List Nat} (h : SInv w0 blk cl lang w (A ++ x :: (B ++ y :: C))) {i j : Nat} (hi : i = A.length) (hj : j = A.length + 1 + B.length) :
    SInv w0 blk cl lang ((w.setCell ⟨blk, j, none⟩ (.string (bs x))).setCell ⟨blk, i, none⟩ (.string (bs y))) (A ++ y :: (B ++ x :: C)) := by
  have ci := (h.at rfl hi).1
  have cj := (h.at (A := A ++ x :: B) (x := y) (C := C) (by simp) (i := j) (by simp; omega)).1
  refine ⟨(h.below.setCell (p := ⟨blk, j, none⟩) h.b0 _).setCell (p := ⟨blk, i, none⟩) h.b0 _, ?_, ?_, h.clb, ?_, h.b0, ?_, ?_⟩
  · rw [cell_other (.inl h.clb.symm), cell_other (.inl h.clb.symm)]
    exact h.cl0
  · rw [World.size_setCell, World.size_setCell]; exact h.cll
  · rw [World.size_setCell, World.size_setCell]; exact h.bl
  · intro k z hz
    rw [World.frozen?_setCell, World.frozen?_setCell]
    have e : A ++ y :: (B ++ x :: C) = ((A ++ x :: (B ++ y :: C)).set i y).set j x := by
      subst hi hj
      rw [List.set_append_right _ _ (Nat.le_refl _), Nat.sub_self, List.set_cons_zero, List.set_append_right _ _ (by omega), show A.length + 1 + B.length - A.length = B.length + 1 by omega, List.set_cons_succ, List.set_append_right _ _ (Nat.le_refl _), Nat.sub_self, List.set_cons_zero]
    have hl : (A ++ y :: (B ++ x :: C)).length = (A ++ x :: (B ++ y :: C)).length := by simp
    have hk : k < (A ++ x :: (B ++ y :: C)).length := by rw [← hl]; exact (List.getElem?_eq_some_iff.1 hz).1
    have hlen : (A ++ x :: (B ++ y :: C)).length = A.length + 1 + B.length + 1 + C.length := by simp; omega
    have fk := (h.hold k _ (List.getElem?_eq_getElem hk)).2
    refine ⟨?_, fk⟩
    rw [e] at hz
    by_cases hkj : k = j
    · subst hkj
      rw [List.getElem?_set_self (by rw [List.length_set]; exact hk)] at hz
      cases hz
      rw [cell_other (.inr (by omega))]
      exact World.cell?_setCell_same _ _ _ cj
    · rw [List.getElem?_set_ne (fun e => hkj e.symm)] at hz
      by_cases hki : k = i
      · subst hki
        rw [List.getElem?_set_self hk] at hz
        cases hz
        exact World.cell?_setCell_same _ _ _ ((cell_other (.inr (fun e => hkj e.symm))).trans ci)
      · rw [List.getElem?_set_ne (fun e => hki e.symm)] at hz
        rw [cell_other (.inr (fun e => hki e.symm)), cell_other (.inr (fun e => hkj e.symm))]
        exact (h.hold k z hz).1
  · intro z hz
    refine h.good z ?_
    simp only [List.mem_append, List.mem_cons] at hz ⊢
    rcases hz with e | e | e | e | e
    · exact .inl e
    · exact .inr (.inr (.inr (.inl e)))
    · exact .inr (.inr (.inl e))
    · exact .inr (.inl e)
    · exact .inr (.inr (.inr (.inr e)))
end
end Go.Proofs.YtieapjdkbigejaaDoor
