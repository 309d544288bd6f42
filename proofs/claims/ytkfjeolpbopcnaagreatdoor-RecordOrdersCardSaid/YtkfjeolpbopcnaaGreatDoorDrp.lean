/- Plain laws: Insert and Remove undo each other, Sorted is stable and settled, and both stay valid (layer 08). -/
import Derived.Test.YtkfjeolpbopcnaaGreatDoorEg
import Derived.Test.YtkfjeolpbopcnaaGreatDoorDrs
namespace Go.Proofs.YtkfjeolpbopcnaaGreatDoor
open Go Go.RowKit

theorem fldsErr_zero : ∀ {l : List Fld}, (∀ f ∈ l, fldErr f = 0) → fldsErr l = 0
  | [], _ => rfl
  | f :: r, h => by
    unfold fldsErr
    rw [if_neg (by simp [h f (List.mem_cons_self ..)])]
    exact fldsErr_zero (fun g hg => h g (List.mem_cons_of_mem _ hg))
/-- Other fields, each right and not too many: still valid. -/
theorem good_with {r : Rec} {l : List Fld} (h : Good r) (hl : l.length ≤ 64) (hf : ∀ f ∈ l, fldErr f = 0 ∧ f.small) : recErr (withL r l) = 0 ∧ (withL r l).small := by
  refine ⟨?_, ?_, fun f hm => (hf f hm).2⟩
  · have he := h.err
    obtain ⟨h1, h2, h3, h4, -, -⟩ := recErr_ok he
    unfold recErr withL
    simp only
    rw [if_neg (by omega), if_neg (by omega), if_neg (by omega), if_neg (by simp [h4]), if_neg (by omega)]
    exact fldsErr_zero (fun f hm => (hf f hm).1)
  · show l.length ≤ _
    omega
theorem ins_ok {r : Rec} {i : Int} {f : Fld} (h : (insR r i f).2 = 0) : 0 ≤ i ∧ i ≤ r.fields.length ∧ fldErr f = 0 ∧ r.fields.length < 64 ∧ insR r i f = (withL r (r.fields.take i.toNat ++ f :: r.fields.drop i.toNat), 0) := by
  unfold insR at h ⊢
  split at h
  · cases h
  rename_i h1
  split at h
  · rename_i h2; exact absurd h h2
  rename_i h2
  split at h
  · cases h
  rename_i h3
  rw [if_neg h1, if_neg h2, if_neg h3]
  exact ⟨by omega, by omega, by omega, by omega, rfl⟩
theorem rem_ins {r : Rec} {k : Nat} {f : Fld} (hk : k ≤ r.fields.length) : remR (withL r (r.fields.take k ++ f :: r.fields.drop k)) (k : Int) = (r, 0) := by
  unfold remR withL
  simp only [List.length_append, List.length_cons, List.length_take, List.length_drop]
  rw [if_neg (by omega)]
  have h1 : (r.fields.take k ++ f :: r.fields.drop k).eraseIdx (k : Int).toNat = r.fields := by
    rw [Int.toNat_natCast, List.eraseIdx_append_of_length_le (by simp [List.length_take]; omega)]
    have : k - (r.fields.take k).length = 0 := by simp [List.length_take]; omega
    rw [this, List.eraseIdx_cons_zero, List.take_append_drop]
  rw [h1]
theorem ins_at {r : Rec} {k : Nat} {f : Fld} (hk : k ≤ r.fields.length) : (withL r (r.fields.take k ++ f :: r.fields.drop k)).fields[k]? = some f := by
  show (r.fields.take k ++ f :: r.fields.drop k)[k]? = some f
  rw [List.getElem?_append_right (by simp [List.length_take]; omega)]
  have : k - (r.fields.take k).length = 0 := by simp [List.length_take]; omega
  rw [this]
  rfl
theorem ins_good {r : Rec} {k : Nat} {f : Fld} (h : Good r) (hn : r.fields.length < 64) (hf : fldErr f = 0) (hs : f.small) : recErr (withL r (r.fields.take k ++ f :: r.fields.drop k)) = 0 ∧ (withL r (r.fields.take k ++ f :: r.fields.drop k)).small := by
  refine good_with h (by simp only [List.length_append, List.length_cons, List.length_take, List.length_drop]; omega) (fun g hg => ?_)
  rcases List.mem_append.1 hg with hg | hg
  · exact ⟨h.ferr g (List.mem_of_mem_take hg), h.small.2 g (List.mem_of_mem_take hg)⟩
  · rcases List.mem_cons.1 hg with rfl | hg
    · exact ⟨hf, hs⟩
    · exact ⟨h.ferr g (List.mem_of_mem_drop hg), h.small.2 g (List.mem_of_mem_drop hg)⟩
theorem rem_ok {r : Rec} {k : Nat} (hk : k < r.fields.length) : remR r (k : Int) = (withL r (r.fields.eraseIdx k), 0) := by
  unfold remR
  rw [if_neg (by omega), Int.toNat_natCast]
theorem rem_good {r : Rec} {k : Nat} (h : Good r) : recErr (withL r (r.fields.eraseIdx k)) = 0 ∧ (withL r (r.fields.eraseIdx k)).small := by
  refine good_with h (by have := List.length_eraseIdx_le r.fields k; have := h.len; omega) (fun g hg => ?_)
  exact ⟨h.ferr g (List.mem_of_mem_eraseIdx hg), h.small.2 g (List.mem_of_mem_eraseIdx hg)⟩
theorem ins_rem {r : Rec} {k : Nat} {f : Fld} (h : Good r) (hf : r.fields[k]? = some f) : insR (withL r (r.fields.eraseIdx k)) (k : Int) f = (r, 0) := by
  obtain ⟨hk, hfe⟩ := List.getElem?_eq_some_iff.1 hf
  have hlen : (r.fields.eraseIdx k).length = r.fields.length - 1 := List.length_eraseIdx_of_lt hk
  have hle := h.len
  unfold insR withL
  simp only [hlen]
  rw [if_neg (by omega), if_neg (by simp [h.ferr f (List.mem_of_getElem? hf)]), if_neg (by omega), Int.toNat_natCast]
  have h1 : (r.fields.eraseIdx k).take k ++ f :: (r.fields.eraseIdx k).drop k = r.fields := by
    rw [List.eraseIdx_eq_take_drop_succ]
    have ht : (r.fields.take k).length = k := by simp [List.length_take]; omega
    rw [List.take_append_of_le_length (by omega), List.drop_append_of_le_length (by omega), List.take_of_length_le (by omega), List.drop_of_length_le (by omega), List.nil_append]
    have hd : r.fields.drop k = f :: r.fields.drop (k + 1) := drop_step hf
    rw [← hd, List.take_append_drop]
  rw [h1]
/-- Sorted: valid, as long, in order, each tag's fields as they were; and settled. -/
theorem sort_stab (l : List Fld) : (sortR l).Stab l := by
  have := (sortR_good l [] List.Pairwise.nil).2
  simpa [sortR] using this
theorem sort_sorted (l : List Fld) : SortedK K0 (sortR l) := (sortR_good l [] List.Pairwise.nil).1
theorem sort_len (l : List Fld) : (sortR l).length = l.length := (sort_stab l).length_eq
theorem sort_again (l : List Fld) : sortR (sortR l) = sortR l := (sort_eq (sort_sorted l) (List.Stab.refl _)).symm
theorem sort_valid {r : Rec} (h : Good r) : recErr (withL r (sortR r.fields)) = 0 ∧ (withL r (sortR r.fields)).small := by
  refine good_with h (by rw [sort_len]; exact h.len) (fun g hg => ?_)
  have := (sort_stab r.fields).subset hg
  exact ⟨h.ferr g this, h.small.2 g this⟩
theorem sort_step {l : List Fld} {k : Nat} {f g : Fld} (hf : (sortR l)[k]? = some f) (hg : (sortR l)[k + 1]? = some g) : Op.bytesLess g.tag f.tag = false := by
  have hs := sort_sorted l
  obtain ⟨h1, rfl⟩ := List.getElem?_eq_some_iff.1 hf
  obtain ⟨h2, rfl⟩ := List.getElem?_eq_some_iff.1 hg
  have := (List.pairwise_iff_getElem.1 hs) k (k + 1) h1 h2 (by omega)
  have h3 := kcmp_neg K0 (sortR l)[k] (sortR l)[k + 1]
  rw [less_cmp]
  unfold kle at this
  unfold kcmp at this h3
  exact decide_eq_false (by omega)
theorem sort_begL {r : Rec} (h : Good r) {f : Fld} (hf : f ∈ sortR r.fields) : begL f.tag (sortR r.fields) = begL f.tag r.fields := by
  have hm := (sort_stab r.fields).subset hf
  have e : ∀ l : List Fld, (∀ g ∈ l, g.tag.length = 3) → begL f.tag l = tagged f.tag l := fun l hl => by
    unfold begL tagged
    refine List.filter_congr (fun g hg => ?_)
    rw [prefix_same (by rw [hl g hg, h.tag f hm])]
  rw [e _ (fun g hg => h.tag g ((sort_stab r.fields).subset hg)), e _ h.tag]
  exact (sort_stab r.fields).filt f.tag
end Go.Proofs.YtkfjeolpbopcnaaGreatDoor
