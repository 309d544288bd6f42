/- Plain Lean: names (layer 12). No program in sight. -/
import Derived.Test.YtbolkkpgahoeaaaDoorHpm
import Derived.Lib.IndexMore
namespace Go.Proofs.YtbolkkpgahoeaaaDoor
open Go

/-- ", " -/
def comma : List Nat := [44, 32]
theorem comma_ne : comma ≠ [] := by simp [comma]
theorem comma_ascii : ascii comma := by intro c hc; simp [comma] at hc; omega
/-- May a piece stand in a name? -/
def pieceOk (p : List Nat) : Bool := !p.isEmpty && decide (clean p = p) && !p.contains 44
def digitB (b : UInt8) : Bool := decide (48 ≤ b.toNat ∧ b.toNat ≤ 57)
/-- Four digits. -/
def digits4 (l : List UInt8) : Bool := l.length == 4 && l.all digitB
/-- The form of dates. -/
def datesB (l : List UInt8) : Bool := digits4 (l.take 4) && l[4]? == some 45 && ((l.drop 5).isEmpty || digits4 (l.drop 5))
theorem digit_dash : digitB 45 = false := by decide
theorem index_dash : ∀ (a : List UInt8) (r : List UInt8), (∀ b ∈ a, b ≠ 45) → Lib.index (a ++ 45 :: r) [45] = a.length
  | [], r, _ => by simp [Lib.index, List.isPrefixOf]
  | b :: a, r, h => by
    have hb := h b List.mem_cons_self
    have hi := index_dash a r fun x hx => h x (List.mem_cons_of_mem _ hx)
    have h1 : ((45 : UInt8) == b) = false := by simpa using fun e : (45 : UInt8) = b => hb e.symm
    rw [List.cons_append]
    unfold Lib.index
    rw [if_neg (by simp [List.isPrefixOf, h1]), hi, if_neg (by simp)]
    simp
/-- As the program cuts: in front of the first dash four digits, behind it nothing or four digits. -/
theorem dates_cut (l : List UInt8) : datesB l = ((Lib.cut l [45]).2.2 && digits4 (Lib.cut l [45]).1 && ((Lib.cut l [45]).2.1.isEmpty || digits4 (Lib.cut l [45]).2.1)) := by
  unfold Lib.cut
  rcases Lib.index_spec l [45] with ⟨hi, hno⟩ | ⟨i, hi, hle, hocc, hfirst⟩
  · rw [if_neg (by omega)]
    simp only [Bool.false_and]
    have h4 : (l[4]? == some 45) = false := by
      cases h : l[4]? with
      | none => rfl
      | some b =>
        by_cases hb : b = 45
        · subst hb
          obtain ⟨hlt, he⟩ := List.getElem?_eq_some_iff.1 h
          have := hno 4 (by omega)
          unfold Lib.occAt at this
          rw [List.drop_eq_getElem_cons hlt, he] at this
          simp [List.isPrefixOf] at this
        · simpa using hb
    unfold datesB
    rw [h4]; simp
  · rw [if_pos (by omega), hi]
    simp only [Int.toNat_natCast, List.length_singleton, Bool.true_and]
    have hlt : i < l.length := by
      rcases Nat.lt_or_ge i l.length with h | h
      · exact h
      · unfold Lib.occAt at hocc
        rw [List.drop_eq_nil_of_le h] at hocc
        cases hocc
    have hat : l[i] = 45 := by
      unfold Lib.occAt at hocc
      rw [List.drop_eq_getElem_cons hlt] at hocc
      simp [List.isPrefixOf] at hocc
      exact hocc.symm
    by_cases h4 : i = 4
    · subst h4
      unfold datesB
      rw [List.getElem?_eq_getElem hlt, hat]
      simp
    · have h1 : digits4 (l.take i) = false := by
        unfold digits4
        rw [List.length_take, Nat.min_eq_left (by omega)]
        simp [h4]
      rw [h1, Bool.false_and]
      unfold datesB
      by_cases hlt4 : i < 4
      · have : digits4 (l.take 4) = false := by
          unfold digits4
          have : (l.take 4).all digitB = false := by
            rw [List.all_eq_false]
            refine ⟨45, ?_, by decide⟩
            rw [← hat]
            exact List.mem_iff_getElem.2 ⟨i, by rw [List.length_take]; omega, List.getElem_take⟩
          rw [this, Bool.and_false]
        rw [this]; simp
      · have : (l[4]? == some 45) = false := by
          have hn := hfirst 4 (by omega)
          have h4l : 4 < l.length := by omega
          unfold Lib.occAt at hn
          rw [List.drop_eq_getElem_cons h4l] at hn
          rw [List.getElem?_eq_getElem h4l]
          simp [List.isPrefixOf] at hn
          simpa using fun e : l[4] = 45 => hn e.symm
        rw [this]; simp
/-- The names of a text's pieces: last, first, dates. -/
def nameL (ps : List (List Nat)) : Option (List Nat × List Nat × List Nat) :=
  if ps.all pieceOk = true then
    match ps with
    | [a] => some (a, [], [])
    | [a, b] => if datesB (enc b) = true then some (a, [], b) else some (a, b, [])
    | [a, b, c] => if datesB (enc c) = true then some (a, b, c) else none
    | _ => none
  else none
def nameOf (cs : List Nat) : Option (List Nat × List Nat × List Nat) := nameL (split comma cs)
/-- What a name is written as. -/
def nameText (n : List Nat × List Nat × List Nat) : List Nat := n.1 ++ (if n.2.1 = [] then [] else comma ++ n.2.1) ++ (if n.2.2 = [] then [] else comma ++ n.2.2)
/-- The text of a name that was read is what was read. -/
theorem nameText_of {cs : List Nat} {n : List Nat × List Nat × List Nat} (h : nameOf cs = some n) : nameText n = cs := by
  have hj := inter_split comma_ne cs
  unfold nameOf nameL at h
  split at h
  · rename_i hok
    have hne : ∀ p ∈ split comma cs, p ≠ [] := by
      intro p hp e
      have := List.all_eq_true.1 hok p hp
      rw [e] at this; cases this
    split at h
    · rename_i a hs
      cases h
      rw [hs, inter_one] at hj
      simp [nameText, hj]
    · rename_i a b hs
      rw [hs] at hne hj
      have hb := hne b (by simp)
      rw [inter_cons _ _ (by simp), inter_one] at hj
      split at h
      · cases h
        simp [nameText, hb, hj]
      · cases h
        simp [nameText, hb, hj]
    · rename_i a b c hs
      rw [hs] at hne hj
      have hb := hne b (by simp)
      have hc := hne c (by simp)
      rw [inter_cons _ _ (by simp), inter_cons _ _ (by simp), inter_one] at hj
      split at h
      · cases h
        simp [nameText, hb, hc]
        simpa using hj
      · cases h
    · cases h
  · cases h
end Go.Proofs.YtbolkkpgahoeaaaDoor
