/- Plain Lean: the parts and the norm of a heading (layer 12). No program in sight. -/
import Derived.Test.YtbolkkpgahoeaaaDoorHpl
namespace Go.Proofs.YtbolkkpgahoeaaaDoor
open Go

/-- "--" -/
def mark : List Nat := [45, 45]
theorem mark_ne : mark ≠ [] := by simp [mark]
theorem mark_ascii : ascii mark := by intro c hc; simp [mark] at hc; omega
/-- Parts of a heading. -/
def parts (cs : List Nat) : List (List Nat) := ((split mark cs).map clean).filter fun p => !p.isEmpty
/-- The words of a part, joined. -/
def wordsOf (p : List Nat) : List Nat := glue (words p)
def normParts (ps : List (List Nat)) : List (List Nat) := (ps.map wordsOf).filter fun w => !w.isEmpty
def norm (cs : List Nat) : List Nat := mark.intercalate (normParts (parts cs))
/-- The broader headings of so many parts. -/
def upFrom (l : List (List Nat)) : Nat → List (List Nat)
  | 0 => []
  | k + 1 => mark.intercalate (l.take (k + 1)) :: upFrom l k
def above (cs : List Nat) : List (List Nat) := upFrom (parts cs) ((parts cs).length - 1)
theorem upFrom_len (l : List (List Nat)) : ∀ k, (upFrom l k).length = k
  | 0 => rfl
  | k + 1 => by rw [upFrom, List.length_cons, upFrom_len l k]
theorem parts_okt (cs : List Nat) (h : okt cs = true) : ∀ p ∈ parts cs, okt p = true := by
  intro p hp
  obtain ⟨hp, -⟩ := List.mem_filter.1 hp
  obtain ⟨q, hq, rfl⟩ := List.mem_map.1 hp
  exact clean_okt q (split_okt mark_ne cs h q hq)
theorem parts_ne (cs : List Nat) : ∀ p ∈ parts cs, p ≠ [] := by
  intro p hp
  obtain ⟨-, hp⟩ := List.mem_filter.1 hp
  intro e
  rw [e] at hp
  cases hp
theorem words_letter (p : List Nat) : ∀ w ∈ words p, w ≠ [] ∧ ∀ c ∈ w, noletter c = false := fields_mem noletter (fold p)
theorem wordsOf_mem (p : List Nat) : ∀ c ∈ wordsOf p, c = 32 ∨ noletter c = false := by
  intro c hc
  rcases glue_mem _ c hc with h | ⟨w, hw, h⟩
  · exact .inl h
  · exact .inr ((words_letter p w hw).2 c h)
theorem wordsOf_mark (p : List Nat) : ∀ c ∈ wordsOf p, c ≠ 45 := by
  intro c hc e
  rcases wordsOf_mem p c hc with h | h
  · omega
  · rw [e] at h; revert h; decide
theorem wordsOf_okt (p : List Nat) (h : okt p = true) : okt (wordsOf p) = true := glue_okt _ (words_okt p h)
theorem wordsOf_self (p : List Nat) : wordsOf (wordsOf p) = wordsOf p := by unfold wordsOf; rw [words_glue]
theorem wordsOf_clean (p : List Nat) : clean (wordsOf p) = wordsOf p := by
  unfold clean wordsOf
  rw [fields_glue blank (by decide), flatMap_words]
  intro w hw
  refine ⟨(words_letter p w hw).1, fun c hc => ?_⟩
  have h := (words_letter p w hw).2 c hc
  cases hb : blank c with
  | false => rfl
  | true => rw [noletter_blank c hb] at h; cases h
/-- Pieces in which the separator stands nowhere, and that do not end with its first character, are the pieces again. -/
theorem split_inter : ∀ (l : List (List Nat)), l ≠ [] → (∀ x ∈ l, (∀ p q, x = p ++ q → q ≠ [] → mark.isPrefixOf q = false) ∧ ∀ p, x ≠ p ++ [45]) → split mark (mark.intercalate l) = l
  | [], h, _ => absurd rfl h
  | [x], _, h => by
    rw [inter_one]
    unfold split
    rw [spl_whole mark_ne x [] (h x List.mem_cons_self).1]
    rfl
  | x :: y :: r, _, h => by
    rw [inter_cons _ _ (by simp)]
    unfold split
    rw [spl_first mark_ne x _ [] ?_]
    · have := split_inter (y :: r) (by simp) (fun z hz => h z (List.mem_cons_of_mem _ hz))
      unfold split at this
      rw [this]
      rfl
    · intro p q hpq hq
      obtain ⟨h1, h2⟩ := h x List.mem_cons_self
      have h3 := h1 p q hpq hq
      match q, hq with
      | [c], _ =>
        have hc : c ≠ 45 := fun e => h2 p (by rw [hpq, e])
        have : (45 == c) = false := by simpa using fun e : 45 = c => hc e.symm
        simp [mark, List.isPrefixOf, this]
      | c :: d :: q, _ =>
        simp only [mark, List.isPrefixOf, List.cons_append] at h3 ⊢
        exact h3
theorem mark_none {x : List Nat} (h : ∀ c ∈ x, c ≠ 45) : (∀ p q, x = p ++ q → q ≠ [] → mark.isPrefixOf q = false) ∧ ∀ p, x ≠ p ++ [45] := by
  constructor
  · intro p q hpq hq
    obtain ⟨c, t, rfl⟩ := List.exists_cons_of_ne_nil hq
    have hc := h c (by rw [hpq]; simp)
    have : (45 == c) = false := by simpa using fun e : 45 = c => hc e.symm
    simp [mark, List.isPrefixOf, this]
  · intro p e
    exact h 45 (by rw [e]; simp) rfl
theorem parts_inter (l : List (List Nat)) (h : ∀ x ∈ l, ((∀ p q, x = p ++ q → q ≠ [] → mark.isPrefixOf q = false) ∧ ∀ p, x ≠ p ++ [45]) ∧ clean x = x ∧ x ≠ []) : parts (mark.intercalate l) = l := by
  by_cases h0 : l = []
  · subst h0; rw [inter_nil]; decide
  · unfold parts
    rw [split_inter l h0 (fun x hx => (h x hx).1)]
    have h1 : l.map clean = l := by
      conv => rhs; rw [← List.map_id l]
      exact List.map_congr_left fun x hx => (h x hx).2.1
    rw [h1, List.filter_eq_self]
    intro x hx
    have := (h x hx).2.2
    cases x with
    | nil => exact absurd rfl this
    | cons a b => rfl
theorem normParts_mem {ps : List (List Nat)} : ∀ w ∈ normParts ps, w ≠ [] ∧ ∃ p ∈ ps, w = wordsOf p := by
  intro w hw
  obtain ⟨h1, h2⟩ := List.mem_filter.1 hw
  obtain ⟨p, hp, rfl⟩ := List.mem_map.1 h1
  exact ⟨fun e => (by rw [e] at h2; cases h2), p, hp, rfl⟩
theorem parts_norm (cs : List Nat) : parts (norm cs) = normParts (parts cs) := by
  refine parts_inter _ fun w hw => ?_
  obtain ⟨h1, p, -, hw2⟩ := normParts_mem w hw
  rw [hw2] at h1 ⊢
  exact ⟨mark_none (wordsOf_mark p), wordsOf_clean p, h1⟩
/-- The norm of a norm is itself. -/
theorem norm_norm (cs : List Nat) : norm (norm cs) = norm cs := by
  have h0 : norm (norm cs) = mark.intercalate (normParts (parts (norm cs))) := rfl
  rw [h0, parts_norm]
  show mark.intercalate _ = mark.intercalate _
  congr 1
  have h1 : (normParts (parts cs)).map wordsOf = normParts (parts cs) := by
    conv => rhs; rw [← List.map_id (normParts (parts cs))]
    refine List.map_congr_left fun w hw => ?_
    obtain ⟨-, p, -, rfl⟩ := normParts_mem w hw
    exact wordsOf_self p
  unfold normParts at h1 ⊢
  rw [h1, List.filter_eq_self]
  intro w hw
  have := (normParts_mem w hw).1
  cases w with
  | nil => exact absurd rfl this
  | cons a b => rfl
theorem inter_okt {sep : List Nat} (hs : okt sep = true) : ∀ l : List (List Nat), (∀ x ∈ l, okt x = true) → okt (sep.intercalate l) = true
  | [], _ => by rw [inter_nil]; rfl
  | [x], h => by rw [inter_one]; exact h x List.mem_cons_self
  | x :: y :: r, h => by
    rw [inter_cons sep x (r := y :: r) (by simp), okt_append, okt_append, hs, h x List.mem_cons_self, inter_okt hs (y :: r) fun z hz => h z (List.mem_cons_of_mem _ hz)]
    rfl
theorem norm_okt (cs : List Nat) (h : okt cs = true) : okt (norm cs) = true := by
  refine inter_okt (by decide) _ fun w hw => ?_
  obtain ⟨-, p, hp, rfl⟩ := normParts_mem w hw
  exact wordsOf_okt p (parts_okt cs h p hp)
end Go.Proofs.YtbolkkpgahoeaaaDoor
