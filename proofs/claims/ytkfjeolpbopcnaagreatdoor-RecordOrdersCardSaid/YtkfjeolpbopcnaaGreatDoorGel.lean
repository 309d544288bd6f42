/- Slices of elements of several cells, whatever the element: what the memory holds (for layers 18, 16, 08). -/
import Derived.Test.YtkfjeolpbopcnaaGreatDoorStrs
namespace Go.Proofs.YtkfjeolpbopcnaaGreatDoor
open Go Go.RowKit

/-- The value is a slice whose cells hold these elements, each laid as E says in k cells. -/
def Rows {α : Type} (E : α → List Value) (k : Nat) (w : World) (v : Value) (l : List α) : Prop :=
  ∃ (a : Option Addr) (c : Nat), v = .slice a l.length c ∧ l.length ≤ c ∧
    (l = [] ∨ ∃ b o, a = some ⟨b, o, none⟩ ∧ b < w.heap.size ∧ ∀ j p, l[j]? = some p → ∀ i u, (E p)[i]? = some u → w.cell? ⟨b, o + j * k + i, none⟩ = some u)
theorem Rows.nil {α : Type} (E : α → List Value) (k : Nat) (w : World) : Rows E k w (.slice none 0 0) [] := ⟨none, 0, rfl, Nat.le_refl _, .inl rfl⟩
theorem Rows.below {α : Type} {E : α → List Value} {k : Nat} {w w' : World} {v : Value} {l : List α} (h : Rows E k w v l) {B : Nat} (hb : Below B w w') (hB : w.heap.size ≤ B) : Rows E k w' v l := by
  obtain ⟨a, c, rfl, hc, h⟩ := h
  refine ⟨a, c, rfl, hc, ?_⟩
  rcases h with h | ⟨b, o, ha, hlt, hx⟩
  · exact .inl h
  · exact .inr ⟨b, o, ha, Nat.lt_of_lt_of_le hlt hb.size, fun j p hj i u hi => (hb.cell (p := ⟨b, o + j * k + i, none⟩) (by show b < B; omega)).trans (hx j p hj i u hi)⟩
theorem Rows.take {α : Type} {E : α → List Value} {k : Nat} {w : World} {a : Option Addr} {n c : Nat} {l : List α} (h : Rows E k w (.slice a n c) l) {m : Nat} (hm : m ≤ n) : Rows E k w (.slice a m c) (l.take m) := by
  obtain ⟨a', c', he, hc, hx⟩ := h
  cases he
  have hl : (l.take m).length = m := by rw [List.length_take]; omega
  refine ⟨a, c, by rw [hl], by omega, ?_⟩
  rcases hx with h0 | ⟨b, o, ha, hb, hcl⟩
  · exact .inl (by rw [h0]; simp)
  · exact .inr ⟨b, o, ha, hb, fun j p hj => hcl j p (by
      have : j < m := by have := (List.getElem?_eq_some_iff.1 hj).1; omega
      rwa [List.getElem?_take_of_lt this] at hj)⟩
/-- All cells of a list of elements. -/
def flatE {α : Type} (E : α → List Value) (l : List α) : List Value := l.flatMap E
theorem flatE_nil {α : Type} (E : α → List Value) : flatE E [] = [] := rfl
theorem flatE_cons {α : Type} (E : α → List Value) (p : α) (l : List α) : flatE E (p :: l) = E p ++ flatE E l := rfl
theorem flatE_append {α : Type} (E : α → List Value) (a b : List α) : flatE E (a ++ b) = flatE E a ++ flatE E b := by simp [flatE]
theorem flatE_len {α : Type} {E : α → List Value} {k : Nat} (hk : ∀ p, (E p).length = k) (l : List α) : (flatE E l).length = l.length * k := by
  induction l with
  | nil => simp [flatE]
  | cons p l ih => rw [flatE_cons, List.length_append, hk, ih, List.length_cons, Nat.add_mul]; omega
theorem flatE_at {α : Type} {E : α → List Value} {k : Nat} (hk : ∀ p, (E p).length = k) : ∀ (l : List α) (j : Nat) (p : α), l[j]? = some p → ∀ i, i < k → (flatE E l)[j * k + i]? = (E p)[i]?
  | [], j, p, h => by simp at h
  | q :: l, 0, p, h => by
    intro i hi
    simp at h
    subst h
    rw [flatE_cons, Nat.zero_mul, Nat.zero_add, List.getElem?_append_left (by rw [hk]; exact hi)]
  | q :: l, j + 1, p, h => by
    intro i hi
    simp at h
    rw [flatE_cons, List.getElem?_append_right (by rw [hk, Nat.add_mul]; omega), hk]
    have e : (j + 1) * k + i - k = j * k + i := by rw [Nat.add_mul, Nat.one_mul]; omega
    rw [e]
    exact flatE_at hk l j p h i hi
theorem flatE_one {α : Type} {E : α → List Value} (h1 : ∀ p, ∀ u ∈ E p, u.oneCell' = true) (l : List α) : ∀ u ∈ flatE E l, u.oneCell' = true := by
  intro u hu
  obtain ⟨p, -, hp⟩ := List.mem_flatMap.1 hu
  exact h1 p u hp
/-- A row of one's own holds its elements. -/
theorem Rows.of_own {α : Type} {E : α → List Value} {k : Nat} (hk : ∀ p, (E p).length = k) {w : World} {v : Value} {base n : Nat} {T : TypeId} {l : List α} (h : w.ownsRow base T k v n (flatE E l)) (hn : n = l.length) : Rows E k w v l := by
  subst hn
  rcases h.2 with ⟨rfl, h0⟩ | ⟨g, cap, cur, rfl, hg, hh, hc, _⟩
  · have : l = [] := List.eq_nil_of_length_eq_zero h0
    subst this
    exact Rows.nil E k w
  · refine ⟨_, cap, rfl, hc, .inr ⟨g, 0, rfl, (h.lt g rfl).2, fun j p hj i u hi => ?_⟩⟩
    have hi6 : i < k := by have := (List.getElem?_eq_some_iff.1 hi).1; rwa [hk] at this
    have := h.cells (g := g) rfl (j * k + i) u (by rw [flatE_at hk l j p hj i hi6]; exact hi)
    rw [Addr.add_lit, Nat.zero_add] at this
    rw [Nat.zero_add]
    exact this
/-- The cells of a slice of elements, one after the other. -/
theorem Rows.cells {α : Type} {E : α → List Value} {k : Nat} (hk : ∀ p, (E p).length = k) (hk0 : 0 < k) {w : World} {ad : Addr} {n c : Nat} {l : List α} (h : Rows E k w (.slice (some ad) n c) l) : ∀ t u, (flatE E l)[t]? = some u → w.cell? (ad.add t) = some u := by
  obtain ⟨a', c', he, -, hx⟩ := h
  cases he
  intro t u ht
  rcases hx with h0 | ⟨b, o, ha, -, hcl⟩
  · rw [h0] at ht; simp [flatE] at ht
  · cases ha
    have htl : t < l.length * k := by have := (List.getElem?_eq_some_iff.1 ht).1; rwa [flatE_len hk] at this
    have hj : t / k < l.length := Nat.div_lt_of_lt_mul (by rw [Nat.mul_comm]; exact htl)
    have hi : t % k < k := Nat.mod_lt _ hk0
    have e : t / k * k + t % k = t := by rw [Nat.mul_comm]; exact Nat.div_add_mod t k
    have h1 := flatE_at hk l (t / k) l[t / k] (List.getElem?_eq_getElem hj) (t % k) hi
    rw [e, ht] at h1
    have := hcl (t / k) l[t / k] (List.getElem?_eq_getElem hj) (t % k) u h1.symm
    rw [Addr.add_lit]
    rw [Nat.add_assoc, e] at this
    exact this
end Go.Proofs.YtkfjeolpbopcnaaGreatDoor
