/- Plain Lean: the sizes of parts and norms (layer 12). No program in sight. -/
import Derived.Test.YtbolkkpgahoeaaaDoorHpn
import Derived.Test.YtbolkkpgahoeaaaDoorHps
namespace Go.Proofs.YtbolkkpgahoeaaaDoor
open Go

theorem spl_sizes {α : Type} [BEq α] [LawfulBEq α] {sep : List α} (hs : sep ≠ []) : ∀ (n : Nat) (cur r : List α), r.length ≤ n → (spl sep cur r).length ≤ r.length + 1 ∧ ∀ p ∈ spl sep cur r, p.length ≤ cur.length + r.length
  | 0, cur, r, hn => by
    obtain rfl : r = [] := List.eq_nil_of_length_eq_zero (by omega)
    rw [spl_nil]; simp
  | n + 1, cur, [], _ => by rw [spl_nil]; simp
  | n + 1, cur, x :: t, hn => by
    have h1 : 0 < sep.length := List.length_pos_iff.2 hs
    simp only [List.length_cons] at hn
    rw [spl_cons hs]
    split
    · have hl : ((x :: t).drop sep.length).length ≤ t.length := by rw [List.length_drop, List.length_cons]; omega
      obtain ⟨h2, h3⟩ := spl_sizes hs n [] ((x :: t).drop sep.length) (by omega)
      refine ⟨by simp only [List.length_cons]; omega, fun p hp => ?_⟩
      rcases List.mem_cons.1 hp with rfl | hp
      · omega
      · have := h3 p hp
        simp only [List.length_nil, List.length_cons] at this ⊢
        omega
    · obtain ⟨h2, h3⟩ := spl_sizes hs n (cur ++ [x]) t (by omega)
      refine ⟨by simp only [List.length_cons]; omega, fun p hp => ?_⟩
      have := h3 p hp
      simp only [List.length_append, List.length_cons, List.length_nil] at this ⊢
      omega
theorem split_sizes {α : Type} [BEq α] [LawfulBEq α] {sep : List α} (hs : sep ≠ []) (s : List α) : (split sep s).length ≤ s.length + 1 ∧ ∀ p ∈ split sep s, p.length ≤ s.length := by
  have := spl_sizes hs s.length [] s (Nat.le_refl _)
  unfold split
  simpa using this
theorem split_text_size {sep : List Nat} (hs : sep ≠ []) (ha : ascii sep) (cs : List Nat) (hok : okt cs = true) : (split sep cs).length ≤ (bs cs).size + 1 ∧ ∀ p ∈ split sep cs, (bs p).size ≤ (bs cs).size := by
  have h1 := split_enc hs ha cs hok
  have h2 := split_sizes (sep := enc sep) (fun e => hs (enc_eq_nil e)) (enc cs)
  rw [h1, List.length_map] at h2
  refine ⟨by rw [bs_size]; exact h2.1, fun p hp => ?_⟩
  rw [bs_size, bs_size]
  exact h2.2 (enc p) (List.mem_map_of_mem hp)
theorem parts_size (cs : List Nat) (hok : okt cs = true) : (parts cs).length ≤ (bs cs).size + 1 ∧ ∀ p ∈ parts cs, (bs p).size ≤ (bs cs).size := by
  obtain ⟨h1, h2⟩ := split_text_size mark_ne mark_ascii cs hok
  refine ⟨?_, fun p hp => ?_⟩
  · unfold parts
    have := List.length_filter_le (fun p : List Nat => !p.isEmpty) ((split mark cs).map clean)
    rw [List.length_map] at this
    omega
  · obtain ⟨hp, -⟩ := List.mem_filter.1 hp
    obtain ⟨q, hq, rfl⟩ := List.mem_map.1 hp
    exact Nat.le_trans (fields_sum blank q).1 (h2 q hq)
theorem wordsOf_size (p : List Nat) (hok : okt p = true) : (bs (wordsOf p)).size ≤ (bs p).size := Nat.le_trans (fields_sum noletter (fold p)).1 (fold_len p hok)
theorem normParts_size (cs : List Nat) (hok : okt cs = true) : (normParts (parts cs)).length ≤ (bs cs).size + 1 ∧ ∀ p ∈ normParts (parts cs), (bs p).size ≤ (bs cs).size := by
  obtain ⟨h1, h2⟩ := parts_size cs hok
  refine ⟨?_, fun p hp => ?_⟩
  · unfold normParts
    have := List.length_filter_le (fun p : List Nat => !p.isEmpty) ((parts cs).map wordsOf)
    rw [List.length_map] at this
    omega
  · obtain ⟨-, q, hq, rfl⟩ := normParts_mem p hp
    exact Nat.le_trans (wordsOf_size q (parts_okt cs hok q hq)) (h2 q hq)
theorem inter_size (css : List (List Nat)) (m : Nat) (h : ∀ p ∈ css, (bs p).size ≤ m) : (bs (mark.intercalate css)).size ≤ css.length * (m + 2) := by
  have := interB_size (bs mark) (by decide) m (css.map bs) (fun x hx => by
    obtain ⟨p, hp, rfl⟩ := List.mem_map.1 hx
    exact h p hp)
  rwa [interB_bs, List.length_map] at this
/-- Sizes with two for each separator. -/
def wsum (l : List (List Nat)) : Nat := (l.map fun x => (bs x).size + 2).sum
theorem inter_wsum : ∀ l : List (List Nat), l ≠ [] → (bs (mark.intercalate l)).size + 2 = wsum l
  | [], h => absurd rfl h
  | [x], _ => by rw [inter_one]; simp [wsum]
  | x :: y :: r, _ => by
    have h1 := inter_wsum (y :: r) (by simp)
    have h2 : (bs mark).size = 2 := by decide
    rw [inter_cons _ _ (by simp), ← bs_append, ← bs_append, ByteArray.size_append, ByteArray.size_append, h2]
    unfold wsum at h1 ⊢
    rw [List.map_cons, List.sum_cons, ← h1]
    omega
theorem wsum_filter {f : List Nat → List Nat} {q : List Nat → Bool} : ∀ l : List (List Nat), (∀ x ∈ l, (bs (f x)).size ≤ (bs x).size) → wsum ((l.map f).filter q) ≤ wsum l
  | [], _ => Nat.le_refl _
  | x :: r, h => by
    have h1 := wsum_filter (f := f) (q := q) r fun y hy => h y (List.mem_cons_of_mem _ hy)
    have h2 := h x List.mem_cons_self
    rw [List.map_cons, List.filter_cons]
    unfold wsum at h1 ⊢
    split
    · rw [List.map_cons, List.sum_cons, List.map_cons, List.sum_cons]; omega
    · rw [List.map_cons, List.sum_cons]; omega
/-- The norm is not longer than the text. -/
theorem norm_size (cs : List Nat) (hok : okt cs = true) : (bs (norm cs)).size ≤ (bs cs).size := by
  have h1 := inter_wsum (split mark cs) (spl_ne mark_ne [] cs)
  rw [inter_split mark_ne] at h1
  have h2 : wsum (parts cs) ≤ wsum (split mark cs) := wsum_filter _ fun x _ => (fields_sum blank x).1
  have h3 : wsum (normParts (parts cs)) ≤ wsum (parts cs) := wsum_filter _ fun x hx => wordsOf_size x (parts_okt cs hok x hx)
  unfold norm
  by_cases h0 : normParts (parts cs) = []
  · rw [h0, inter_nil]; simp [bs, enc, ByteArray.size]
  · have h4 := inter_wsum _ h0
    omega
end Go.Proofs.YtbolkkpgahoeaaaDoor
