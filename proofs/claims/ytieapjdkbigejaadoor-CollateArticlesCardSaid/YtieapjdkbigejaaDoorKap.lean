/- Plain Lean: an article and a blank in front of a text are removed by Skip (layer 2). No program in sight. -/
import Derived.Test.YtieapjdkbigejaaDoorKsp
import Derived.Test.YtieapjdkbigejaaDoorKln
namespace Go.Proofs.YtieapjdkbigejaaDoor
open Go

theorem skip_front (k : Nat) (a r : List Nat) (c : Nat) (ha : ∀ x ∈ a, x ≠ 32) (h : isart k (fold a) = true) (hc : c ≠ 32) : skip k (a ++ 32 :: c :: r) = c :: r := by
  have e1 : hdc (a ++ 32 :: c :: r) = a := by
    unfold hdc
    induction a with
    | nil => rfl
    | cons b t ih =>
      rw [List.cons_append, List.takeWhile_cons_of_pos (by have := ha b (by simp); simpa using this)]
      congr 1
      clear h
      have ht : ∀ x ∈ t, x ≠ 32 := fun x hx => ha x (by simp [hx])
      clear ih ha
      induction t with
      | nil => rfl
      | cons b2 t2 ih2 =>
        rw [List.cons_append, List.takeWhile_cons_of_pos (by have := ht b2 (by simp); simpa using this), ih2 fun x hx => ht x (by simp [hx])]
  have e2 : tlc (a ++ 32 :: c :: r) = 32 :: c :: r := by
    have := hd_tl (a ++ 32 :: c :: r)
    rw [e1] at this
    exact List.append_cancel_left this
  have e3 : rsc (a ++ 32 :: c :: r) = c :: r := by
    unfold rsc
    rw [e2, List.dropWhile_cons_of_pos rfl, List.dropWhile_cons_of_neg (by simpa using hc)]
  unfold skip
  rw [e1, e3, if_pos ⟨h, by simp⟩]
theorem skip_none (cs : List Nat) : skip 0 cs = cs := by
  unfold skip
  rw [if_neg]
  rintro ⟨h, -⟩
  exact absurd (of_decide_eq_true h) (by simp [artL])
/-- The text's first character, by its first byte. -/
theorem front_of (cs : List Nat) (h0 : (bs cs).size ≠ 0) (h : ∀ hlt : 0 < (bs cs).size, (bs cs)[0].toNat ≠ 32) : ∃ c r, cs = c :: r ∧ c ≠ 32 := by
  cases cs with
  | nil => exact absurd rfl h0
  | cons c r =>
    refine ⟨c, r, rfl, ?_⟩
    rintro rfl
    exact h (by omega) rfl
/-- The nineteen articles of the statement. -/
def artW : Nat → ByteArray × List Nat
  | 0 => (eng, [84, 104, 101])
  | 1 => (eng, [97])
  | 2 => (eng, [65, 78])
  | 3 => (ger, [100, 101, 114])
  | 4 => (ger, [68, 105, 101])
  | 5 => (ger, [68, 65, 83])
  | 6 => (ger, [101, 105, 110])
  | 7 => (ger, [101, 105, 110, 101])
  | 8 => (swe, [69, 110])
  | 9 => (swe, [101, 116, 116])
  | 10 => (swe, [100, 101, 110])
  | 11 => (swe, [100, 101, 116])
  | 12 => (swe, [100, 101])
  | 13 => (spa, [69, 76])
  | 14 => (spa, [108, 97])
  | 15 => (spa, [108, 111, 115])
  | 16 => (spa, [108, 97, 115])
  | 17 => (spa, [117, 110])
  | _ => (spa, [85, 110, 97])
theorem artW_all : ∀ j : Fin 19, isart (lcode (artW j).1) (fold (artW j).2) = true ∧ okt (artW j).2 = true ∧ (∀ c ∈ (artW j).2, c ≠ 32) ∧ (bs (artW j).2).size ≤ 4 ∧ (artW j).1.size ≤ 4 := by decide +kernel
theorem art_skip (j : Nat) (hj : j < 19) (r : List Nat) (c : Nat) (hc : c ≠ 32) : skip (lcode (artW j).1) ((artW j).2 ++ 32 :: c :: r) = c :: r := by
  have h := artW_all ⟨j, hj⟩
  exact skip_front _ _ _ _ h.2.2.1 h.1 hc
end Go.Proofs.YtieapjdkbigejaaDoor
