/- Plain Lean: a patron that was added is found, and without it the list is as it was (layer 28). No program in sight. -/
import Derived.Test.YtlpeppigebbfkaaDoorNra
import Derived.Test.YtlpeppigebbfkaaDoorNse
import Derived.Test.YtlpeppigebbfkaaDoorNgt
namespace Go.Proofs.YtlpeppigebbfkaaDoor
open Go
/-- Without the first patron with an ID, or refused. -/
def removeL (l : List Pat) (x : Int) : List Pat × Int := match l.findIdx? (fun p => p.id == x) with | none => ([], 9) | some i => (l.eraseIdx i, 0)
theorem erase_insP (p : Pat) : ∀ l : List Pat, (∀ q ∈ l, q.id ≠ p.id) → ∃ i, (insP p l).findIdx? (fun q => q.id == p.id) = some i ∧ (insP p l).eraseIdx i = l
  | [], _ => ⟨0, by simp [insP], by simp [insP]⟩
  | q :: r, h => by
    have hq := h q List.mem_cons_self
    unfold insP
    by_cases hl : p.id < q.id
    · rw [if_pos hl]
      exact ⟨0, by simp [List.findIdx?_cons], by simp⟩
    · rw [if_neg hl]
      obtain ⟨i, h1, h2⟩ := erase_insP p r fun q hq => h q (List.mem_cons_of_mem _ hq)
      refine ⟨i + 1, ?_, by rw [List.eraseIdx_cons_succ, h2]⟩
      rw [List.findIdx?_cons, h1, if_neg (by simpa using hq)]
      rfl
theorem remove_insP {p : Pat} {l : List Pat} (h : ∀ q ∈ l, q.id ≠ p.id) : removeL (insP p l) p.id = (l, 0) := by
  obtain ⟨i, h1, h2⟩ := erase_insP p l h
  unfold removeL
  rw [h1]
  simp only [h2]
theorem get_insP {p : Pat} : ∀ {l : List Pat}, (∀ q ∈ l, q.id ≠ p.id) → getPat (insP p l) p.id = (p, true)
  | [], _ => by simp [insP, getPat]
  | q :: r, h => by
    have hq := h q List.mem_cons_self
    have hr := get_insP (p := p) (l := r) fun q hq => h q (List.mem_cons_of_mem _ hq)
    unfold insP
    by_cases hl : p.id < q.id
    · rw [if_pos hl]
      simp [getPat]
    · rw [if_neg hl]
      unfold getPat at hr ⊢
      rw [List.find?_cons_of_neg (by simpa using hq)]
      exact hr
theorem mem_insP (p : Pat) : ∀ l : List Pat, p ∈ insP p l
  | [] => by simp [insP]
  | q :: r => by
    unfold insP
    by_cases hl : p.id < q.id
    · rw [if_pos hl]; exact List.mem_cons_self
    · rw [if_neg hl]; exact List.mem_cons_of_mem _ (mem_insP p r)
theorem at64_notin {l : List Pat} {x : Int} (h : at64 l x = -1) : ∀ q ∈ l, q.id ≠ x := by
  rcases at64_range l x with ⟨-, h1⟩ | ⟨i, q, h1, -⟩
  · exact h1
  · rw [h] at h1; omega
theorem add_ok {F : ByteArray → Bool} {l : List Pat} {p : Pat} (h : (addL F l p).2 = 0) : at64 l p.id = -1 ∧ (addL F l p).1 = insP p l ∧ right F (insP p l) = 0 := by
  rcases at64_range l p.id with ⟨h1, -⟩ | ⟨i, q, h1, -⟩
  · have hr : addL F l p = if right F (insP p l) = 0 then (insP p l, 0) else ([], right F (insP p l)) := by unfold addL; rw [at64_none h1]; rfl
    rw [hr] at h ⊢
    by_cases h0 : right F (insP p l) = 0
    · rw [if_pos h0]; exact ⟨h1, rfl, h0⟩
    · rw [if_neg h0] at h; exact absurd h h0
  · have hr : addL F l p = ([], 7) := by unfold addL; rw [(at64_some h1).1]; rfl
    rw [hr] at h; cases h
theorem add_bad {F : ByteArray → Bool} {l : List Pat} {p : Pat} (h : (addL F l p).2 ≠ 0) : (addL F l p).1 = [] := by
  rcases at64_range l p.id with ⟨h1, -⟩ | ⟨i, q, h1, -⟩
  · have hr : addL F l p = if right F (insP p l) = 0 then (insP p l, 0) else ([], right F (insP p l)) := by unfold addL; rw [at64_none h1]; rfl
    rw [hr] at h ⊢
    by_cases h0 : right F (insP p l) = 0
    · rw [if_pos h0] at h; exact absurd rfl h
    · rw [if_neg h0]
  · have hr : addL F l p = ([], 7) := by unfold addL; rw [(at64_some h1).1]; rfl
    rw [hr]
theorem preOf_self (x : ByteArray) : preOf x x = true := by
  unfold preOf Lib.hasPrefix
  rw [List.isPrefixOf_iff_prefix]
  exact List.prefix_refl _
theorem begW_mem {x : ByteArray} {xs : List ByteArray} (h : x ∈ xs) : begW x xs = true := by
  unfold begW; rw [List.any_eq_true]; exact ⟨x, h, preOf_self x⟩
theorem hit_self (G : ByteArray → List ByteArray) (p : Pat) : hit G (G p.name) p = !(G p.name).isEmpty := by
  unfold hit
  have : ((G p.name).any fun word => !begW word (G p.name)) = false := by
    rw [List.any_eq_false]
    intro x hx
    simp [begW_mem hx]
  rw [this]; simp
/-- A patron's own words find it, if there are any. -/
theorem found_self (G : ByteArray → List ByteArray) (p : Pat) (m : List Pat) (h : p ∈ m) : (searchL G (G p.name) m).any (fun x => decide (x = p.id)) = !(G p.name).isEmpty := by
  cases hG : G p.name with
  | nil => unfold searchL; simp [hit]
  | cons x xs =>
    have hh := hit_self G p
    rw [hG] at hh
    have : p.id ∈ searchL G (x :: xs) m := by
      unfold searchL
      exact List.mem_map.2 ⟨p, List.mem_filter.2 ⟨h, by rw [hh]; rfl⟩, rfl⟩
    rw [List.any_eq_true.2 ⟨p.id, this, by simp⟩]
    rfl
theorem search_len (G : ByteArray → List ByteArray) (W : List ByteArray) (m : List Pat) : (searchL G W m).length ≤ m.length := by
  unfold searchL; rw [List.length_map]; exact List.length_filter_le _ _
theorem right_len {F : ByteArray → Bool} {l : List Pat} (h : right F l = 0) : l.length ≤ 32 := by
  unfold right at h
  split at h
  · cases h
  · omega
theorem rightFrom_names {F : ByteArray → Bool} : ∀ {l : List Pat} {x : Int}, rightFrom F x l = 0 → ∀ p ∈ l, F p.name = true ∧ p.name.size ≤ 200
  | [], _, _, p, hp => by cases hp
  | q :: r, x, h, p, hp => by
    unfold rightFrom at h
    split at h
    · cases h
    split at h
    · cases h
    split at h
    · rename_i h1; exact absurd h h1
    rename_i h1
    have h2 : chk F q = 0 := Decidable.not_not.1 h1
    rcases List.mem_cons.1 hp with rfl | hp
    · unfold chk at h2
      split at h2
      · cases h2
      split at h2
      · cases h2
      split at h2
      · cases h2
      split at h2
      · cases h2
      rename_i h3 h4
      exact ⟨by simpa using h3, by omega⟩
    · exact rightFrom_names h p hp
theorem right_names {F : ByteArray → Bool} {l : List Pat} (h : right F l = 0) : ∀ p ∈ l, F p.name = true ∧ p.name.size ≤ 200 := by
  unfold right at h
  split at h
  · cases h
  · exact rightFrom_names h
end Go.Proofs.YtlpeppigebbfkaaDoor
