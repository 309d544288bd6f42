/- Plain Lean: small facts on the bytes of texts and on joined fields. -/
import Derived.Test.YtkfjeolpbopcnaaGreatDoorFln
import Derived.WalkKit
namespace Go.Proofs.YtkfjeolpbopcnaaGreatDoor
open Go Go.RowKit

theorem bs_toList (cs : List Nat) : (bs cs).toList = enc cs := by rw [ByteArray.toList_eq, bs_data]
theorem bs_empty {cs : List Nat} (h : (bs cs).toList.isEmpty = true) : cs = [] := by
  rw [bs_toList, List.isEmpty_iff] at h
  exact enc_eq_nil h
theorem bs_full {cs : List Nat} (h : (bs cs).toList.isEmpty = false) : cs ≠ [] := by
  rintro rfl
  rw [bs_toList] at h
  simp [enc_nil] at h
theorem bs_full' {cs : List Nat} (h : cs ≠ []) : (bs cs).toList.isEmpty = false := by
  rw [bs_toList]
  cases he : enc cs with
  | nil => exact absurd (enc_eq_nil he) h
  | cons => rfl
theorem bs_isEmpty (cs : List Nat) : (bs cs).toList.isEmpty = cs.isEmpty := by
  cases cs with
  | nil => rw [bs_toList]; rfl
  | cons c r => exact bs_full' (by simp)
theorem take_front (cs : List Nat) (m : Nat) : (bs (cs.take m)).size ≤ (bs cs).size ∧ (bs cs).extract 0 (bs (cs.take m)).size = bs (cs.take m) := by
  have hat : At cs (enc (cs.take m)).length (cs.drop m) := ⟨cs.take m, (List.take_append_drop m cs).symm, rfl⟩
  have h1 := hat.le
  have h2 := hat.front
  rw [← bs_size] at h1 h2
  refine ⟨by omega, h2.trans ?_⟩
  congr 1
  rw [List.length_drop]
  by_cases h : m ≤ cs.length
  · congr 1; omega
  · rw [List.take_of_length_le (by omega), List.take_of_length_le (by omega)]
theorem bs_one (c : Nat) : (bs [c]).size = (enc1 c).length := by rw [bs_size]; simp [enc]
theorem fields_sum (p : Nat → Bool) (cs : List Nat) : (bs (glue (fields p cs))).size ≤ (bs cs).size ∧ (fields p cs).length ≤ (bs cs).size := by
  constructor
  · have key : ∀ (r : List Nat) (q : List Nat) (gap : Bool), (enc (cgo p q gap r)).length ≤ (enc q).length + gap.toNat + (enc r).length := by
      intro r
      induction r with
      | nil => intro q gap; simp [cgo, enc_nil]
      | cons c r ih =>
        intro q gap
        have h3 := enc1_len c
        unfold cgo
        by_cases hc : p c = true
        · rw [if_pos hc]
          have := ih q true
          rw [enc_cons, List.length_append]
          simp only [Bool.toNat_true] at this
          omega
        · rw [if_neg hc]
          refine Nat.le_trans (ih _ false) ?_
          rw [enc_cons, List.length_append, enc_append, List.length_append, enc_cons, enc_nil, List.append_nil]
          simp only [Bool.toNat_false]
          split
          · rename_i h
            rw [enc_append, List.length_append, h.1]
            have : (enc [32]).length = 1 := rfl
            simp only [Bool.toNat_true]; omega
          · omega
    have := key cs [] false
    rw [cgo_eq] at this
    rw [bs_size, bs_size]
    simpa [enc_nil] using this
  · have key : ∀ (r cur : List Nat), (fgo p cur r).length ≤ r.length + (if cur = [] then 0 else 1) := by
      intro r
      induction r with
      | nil => intro cur; unfold fgo; split <;> simp
      | cons c r ih =>
        intro cur
        unfold fgo
        by_cases h : p c = true
        · rw [if_pos h, List.length_append]
          have := ih []
          simp at this ⊢
          split <;> simp <;> omega
        · rw [if_neg h]
          have := ih (cur ++ [c])
          simp at this ⊢
          split <;> omega
    have := key cs []
    have h2 := len_le_enc cs
    rw [bs_size]
    simp at this
    unfold fields
    omega
theorem words_len (cs : List Nat) (hok : okt cs = true) : (words cs).length ≤ (bs cs).size := by
  have h1 := (fields_sum noletter (fold cs)).2
  have h2 := fold_len cs hok
  unfold words
  omega
theorem glue_app : ∀ (a b : List (List Nat)), a ≠ [] → b ≠ [] → glue (a ++ b) = glue a ++ 32 :: glue b
  | [], _, h, _ => absurd rfl h
  | [x], b, _, hb => by
    cases b with
    | nil => exact absurd rfl hb
    | cons y r => rfl
  | x :: y :: r, b, _, hb => by
    have := glue_app (y :: r) b (by simp) hb
    simp only [List.cons_append, glue] at this ⊢
    rw [this]; simp
theorem glue_take (ws : List (List Nat)) (i : Nat) (x : List Nat) (h : ws[i]? = some x) : glue (ws.take (i + 1)) = if i = 0 then x else glue (ws.take i) ++ 32 :: x := by
  rw [List.take_add_one, h]
  by_cases h0 : i = 0
  · subst h0; simp [glue]
  · rw [if_neg h0]
    have hne : ws.take i ≠ [] := by
      have hl : i < ws.length := (List.getElem?_eq_some_iff.1 h).1
      intro e
      have := congrArg List.length e
      rw [List.length_take, List.length_nil] at this; omega
    exact glue_app _ [x] hne (by simp)
theorem glue_take_le (ws : List (List Nat)) (i : Nat) : (bs (glue (ws.take i))).size ≤ (bs (glue ws)).size := by
  by_cases h1 : ws.take i = []
  · rw [h1]; simp [glue, bs_size, enc_nil]
  · by_cases h2 : ws.drop i = []
    · have : ws.take i = ws := by
        have := List.take_append_drop i ws
        rw [h2, List.append_nil] at this; exact this
      rw [this]; exact Nat.le_refl _
    · have := glue_app _ _ h1 h2
      rw [List.take_append_drop] at this
      rw [this, bs_size, bs_size, enc_append, List.length_append]; omega
end Go.Proofs.YtkfjeolpbopcnaaGreatDoor
