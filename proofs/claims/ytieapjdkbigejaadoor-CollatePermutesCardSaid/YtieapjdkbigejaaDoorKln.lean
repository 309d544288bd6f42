/- Plain Lean: which language a string names, by the tests that the code makes. -/
import Derived.Test.YtieapjdkbigejaaDoorKpl
namespace Go.Proofs.YtieapjdkbigejaaDoor
open Go

theorem of_toList {a : ByteArray} {l : List UInt8} (h : a.toList = l) : a = ⟨l.toArray⟩ := ba_of_list a l (by rw [← ByteArray.toList_eq]; exact h)
theorem lc1 {lang : ByteArray} (h : lang.toList = [101, 110, 103]) : lcode lang = 1 := by rw [of_toList h]; rfl
theorem lc2 {lang : ByteArray} (h : lang.toList = [103, 101, 114]) : lcode lang = 2 := by rw [of_toList h]; rfl
theorem lc3 {lang : ByteArray} (h : lang.toList = [115, 119, 101]) : lcode lang = 3 := by rw [of_toList h]; rfl
theorem lc4 {lang : ByteArray} (h : lang.toList = [115, 112, 97]) : lcode lang = 4 := by rw [of_toList h]; rfl
theorem lcn {lang : ByteArray} (h2 : ¬ lang.toList = [103, 101, 114]) (h3 : ¬ lang.toList = [115, 119, 101]) (h4 : ¬ lang.toList = [115, 112, 97]) : lcode lang ≤ 1 := by
  unfold lcode
  have e : ∀ l : List UInt8, (⟨l.toArray⟩ : ByteArray).toList = l := fun l => by rw [ByteArray.toList_eq]
  split
  · omega
  · rw [if_neg (fun h => h2 (by rw [h]; exact e _)), if_neg (fun h => h3 (by rw [h]; exact e _)), if_neg (fun h => h4 (by rw [h]; exact e _))]; omega
theorem lcz {lang : ByteArray} (h1 : ¬ lang.toList = [101, 110, 103]) (h : lcode lang ≤ 1) : lcode lang = 0 := by
  unfold lcode at h ⊢
  have e : ∀ l : List UInt8, (⟨l.toArray⟩ : ByteArray).toList = l := fun l => by rw [ByteArray.toList_eq]
  rw [if_neg (fun h => h1 (by rw [h]; exact e _))] at h ⊢
  by_cases h2 : lang = ger
  · rw [if_pos h2] at h; omega
  · rw [if_neg h2] at h ⊢
    by_cases h3 : lang = swe
    · rw [if_pos h3] at h; omega
    · rw [if_neg h3] at h ⊢
      by_cases h4 : lang = spa
      · rw [if_pos h4] at h; omega
      · rw [if_neg h4]
theorem lang_cases (lang : ByteArray) :
    (lcode lang = 2 ∧ (lang.toList == [103, 101, 114]) = true) ∨
    (lcode lang = 3 ∧ (lang.toList == [103, 101, 114]) = false ∧ (lang.toList == [115, 119, 101]) = true) ∨
    (lcode lang = 4 ∧ (lang.toList == [103, 101, 114]) = false ∧ (lang.toList == [115, 119, 101]) = false ∧ (lang.toList == [115, 112, 97]) = true) ∨
    (lcode lang ≤ 1 ∧ (lang.toList == [103, 101, 114]) = false ∧ (lang.toList == [115, 119, 101]) = false ∧ (lang.toList == [115, 112, 97]) = false) := by
  simp only [beq_iff_eq, beq_eq_false_iff_ne, ne_eq]
  by_cases h2 : lang.toList = [103, 101, 114]
  · exact .inl ⟨lc2 h2, h2⟩
  · by_cases h3 : lang.toList = [115, 119, 101]
    · exact .inr (.inl ⟨lc3 h3, h2, h3⟩)
    · by_cases h4 : lang.toList = [115, 112, 97]
      · exact .inr (.inr (.inl ⟨lc4 h4, h2, h3, h4⟩))
      · exact .inr (.inr (.inr ⟨lcn h2 h3 h4, h2, h3, h4⟩))
end Go.Proofs.YtieapjdkbigejaaDoor
