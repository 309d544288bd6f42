/- Plain Lean: what Skip does to a text (layer 2). No program in sight. -/
import Derived.Test.YtieapjdkbigejaaDoorKpl
import Derived.Lib.Index
namespace Go.Proofs.YtieapjdkbigejaaDoor
open Go

/-! ### bytes -/
theorem enc1_no32 (c : Nat) (h : c ≠ 32) (h2 : c < 65536) : ∀ b ∈ enc1 c, b ≠ 32 := by
  intro b hb e
  subst e
  unfold enc1 at hb
  split at hb
  · simp only [List.mem_cons, List.not_mem_nil, or_false] at hb
    have := congrArg UInt8.toNat hb
    rw [u8 c (by omega)] at this
    exact h this.symm
  · split at hb
    · simp only [List.mem_cons, List.not_mem_nil, or_false] at hb
      rcases hb with hb | hb
      · have := congrArg UInt8.toNat hb
        rw [u8 _ (by omega)] at this
        simp at this
        omega
      · have := congrArg UInt8.toNat hb
        rw [u8 _ (by omega)] at this
        simp at this
        omega
    · simp only [List.mem_cons, List.not_mem_nil, or_false] at hb
      rcases hb with hb | hb | hb
      all_goals
        have := congrArg UInt8.toNat hb
        rw [u8 _ (by omega)] at this
        simp at this
        omega
theorem enc_no32 (cs : List Nat) (hok : okt cs = true) (h : ∀ c ∈ cs, c ≠ 32) : ∀ b ∈ enc cs, b ≠ 32 := by
  intro b hb
  simp only [enc, List.mem_flatMap] at hb
  obtain ⟨c, hc, hb⟩ := hb
  exact enc1_no32 c (h c hc) (okc_small (List.all_eq_true.1 hok c hc)).2 b hb

/-! ### the library's Cut and Contains at a blank -/
theorem index_skip (b : UInt8) (l sub : List UInt8) (h : sub.isPrefixOf (b :: l) = false) : (0 ≤ Lib.index (b :: l) sub ↔ 0 ≤ Lib.index l sub) ∧ (0 ≤ Lib.index l sub → Lib.index (b :: l) sub = Lib.index l sub + 1) := by
  have := Lib.index_ge l sub
  have e : Lib.index (b :: l) sub = (if sub.isPrefixOf (b :: l) then 0 else if Lib.index l sub == -1 then -1 else Lib.index l sub + 1) := rfl
  rw [e, if_neg (by simp [h])]
  cases he : Lib.index l sub == -1 with
  | true =>
    simp at he
    rw [if_pos rfl]
    omega
  | false =>
    simp at he
    simp
    omega
theorem prefix_no (b : UInt8) (l t : List UInt8) (h : b ≠ 32) : (32 :: t : List UInt8).isPrefixOf (b :: l) = false := by
  simp only [List.isPrefixOf]
  rw [show ((32 : UInt8) == b) = false from by simp; exact fun e => h e.symm]
  rfl
theorem index_none (a : List UInt8) (h : ∀ x ∈ a, x ≠ 32) : ¬ 0 ≤ Lib.index a [32] := by
  induction a with
  | nil => decide
  | cons b l ih =>
    rw [(index_skip b l [32] (prefix_no b l [] (h b (by simp)))).1]
    exact ih fun x hx => h x (by simp [hx])
theorem index_some (a b : List UInt8) (h : ∀ x ∈ a, x ≠ 32) : Lib.index (a ++ 32 :: b) [32] = a.length := by
  induction a with
  | nil => unfold Lib.index; rfl
  | cons c l ih =>
    have ih2 := ih fun x hx => h x (by simp [hx])
    have := (index_skip c (l ++ 32 :: b) [32] (prefix_no c _ [] (h c (by simp)))).2 (by rw [ih2]; omega)
    rw [List.cons_append, this, ih2]
    simp
theorem cut_none (a : List UInt8) (h : ∀ x ∈ a, x ≠ 32) : Lib.cut a [32] = (a, [], false) := by
  unfold Lib.cut; rw [if_neg (index_none a h)]
theorem cut_some (a b : List UInt8) (h : ∀ x ∈ a, x ≠ 32) : Lib.cut (a ++ 32 :: b) [32] = (a, b, true) := by
  unfold Lib.cut
  rw [index_some a b h, if_pos (by omega)]
  simp
theorem contains_skip (v l t : List UInt8) (h : ∀ x ∈ v, x ≠ 32) : Lib.contains (v ++ l) (32 :: t) = Lib.contains l (32 :: t) := by
  induction v with
  | nil => rfl
  | cons b r ih =>
    rw [← ih fun x hx => h x (by simp [hx])]
    unfold Lib.contains
    exact decide_eq_decide.2 (index_skip b (r ++ l) (32 :: t) (prefix_no b _ t (h b (by simp)))).1
theorem prefix_word : ∀ (w v r : List UInt8), (∀ x ∈ w, x ≠ 32) → (∀ x ∈ v, x ≠ 32) → (w ++ [32]).isPrefixOf (v ++ 32 :: r) = decide (w = v)
  | [], [], r, _, _ => by simp [List.isPrefixOf]
  | [], b :: v, r, _, hv => by
    have := hv b (by simp)
    simp [List.isPrefixOf, this.symm]
  | a :: w, [], r, hw, _ => by
    have := hw a (by simp)
    simp [List.isPrefixOf, this]
  | a :: w, b :: v, r, hw, hv => by
    have ih := prefix_word w v r (fun x hx => hw x (by simp [hx])) (fun x hx => hv x (by simp [hx]))
    simp only [List.cons_append, List.isPrefixOf]
    rw [ih]
    by_cases h : a = b <;> simp [h]
/-- Words between blanks. -/
def blanked (ws : List (List UInt8)) : List UInt8 := 32 :: ws.flatMap (fun v => v ++ [32])
theorem contains_word (w : List UInt8) (hw : ∀ x ∈ w, x ≠ 32) : ∀ ws : List (List UInt8), (∀ v ∈ ws, ∀ x ∈ v, x ≠ 32) → Lib.contains (blanked ws) (32 :: (w ++ [32])) = decide (w ∈ ws)
  | [], _ => by
    unfold Lib.contains blanked
    cases w with
    | nil => rfl
    | cons a r => simp [Lib.index, List.isPrefixOf]
  | v :: ws, h => by
    have ih := contains_word w hw ws fun u hu => h u (by simp [hu])
    have hv := h v (by simp)
    have e : blanked (v :: ws) = 32 :: (v ++ blanked ws) := by simp [blanked]
    have hp : (32 :: (w ++ [32]) : List UInt8).isPrefixOf (32 :: (v ++ blanked ws)) = decide (w = v) := by
      rw [← prefix_word w v (ws.flatMap (fun v => v ++ [32])) hw hv]
      simp [List.isPrefixOf, blanked]
    rw [e]
    by_cases hx : w = v
    · have : Lib.contains (32 :: (v ++ blanked ws)) (32 :: (w ++ [32])) = true := by
        unfold Lib.contains Lib.index
        rw [hp, if_pos (by simp [hx])]
        rfl
      rw [this]
      simp [hx]
    · have h2 := (index_skip 32 (v ++ blanked ws) (32 :: (w ++ [32])) (by rw [hp]; simp [hx])).1
      have : Lib.contains (32 :: (v ++ blanked ws)) (32 :: (w ++ [32])) = Lib.contains (v ++ blanked ws) (32 :: (w ++ [32])) := by
        unfold Lib.contains
        exact decide_eq_decide.2 h2
      rw [this, contains_skip v _ _ hv, ih]
      simp [hx]

/-! ### Skip -/
def artL (k : Nat) : List (List UInt8) :=
  if k = 1 then [[116, 104, 101], [97], [97, 110]]
  else if k = 2 then [[100, 101, 114], [100, 105, 101], [100, 97, 115], [101, 105, 110], [101, 105, 110, 101]]
  else if k = 3 then [[101, 110], [101, 116, 116], [100, 101, 110], [100, 101, 116], [100, 101]]
  else if k = 4 then [[101, 108], [108, 97], [108, 111, 115], [108, 97, 115], [117, 110], [117, 110, 97]]
  else []
theorem artL_no32 (k : Nat) : ∀ v ∈ artL k, ∀ x ∈ v, x ≠ 32 := by
  unfold artL
  repeat' split
  all_goals decide
theorem artL_ne (k : Nat) : [] ∉ artL k := by
  unfold artL
  repeat' split
  all_goals decide
def hdc (cs : List Nat) : List Nat := cs.takeWhile (· != 32)
def tlc (cs : List Nat) : List Nat := cs.dropWhile (· != 32)
def rsc (cs : List Nat) : List Nat := (tlc cs).dropWhile (· == 32)
def isart (k : Nat) (w : List Nat) : Bool := decide (enc w ∈ artL k)
def skip (k : Nat) (cs : List Nat) : List Nat := if isart k (fold (hdc cs)) = true ∧ rsc cs ≠ [] then rsc cs else cs
theorem hd_tl (cs : List Nat) : hdc cs ++ tlc cs = cs := List.takeWhile_append_dropWhile
theorem hdc_no (cs : List Nat) : ∀ c ∈ hdc cs, c ≠ 32 := by
  intro c hc
  have := List.all_eq_true.1 (List.all_takeWhile (p := fun x : Nat => x != 32) (l := cs)) c hc
  simpa using this
theorem tlc_cases (cs : List Nat) : tlc cs = [] ∨ ∃ r, tlc cs = 32 :: r := by
  unfold tlc
  cases h : cs.dropWhile (· != 32) with
  | nil => exact .inl rfl
  | cons a r =>
    refine .inr ⟨r, ?_⟩
    have := List.head?_dropWhile_not (· != 32) cs
    rw [h] at this
    simp at this
    rw [this]
theorem okt_hd (cs : List Nat) (h : okt cs = true) : okt (hdc cs) = true ∧ okt (tlc cs) = true := by
  rw [← hd_tl cs, okt_append, Bool.and_eq_true] at h
  exact h
theorem okt_rs (cs : List Nat) (h : okt cs = true) : okt (rsc cs) = true := by
  have h2 := (okt_hd cs h).2
  have : tlc cs = (tlc cs).takeWhile (· == 32) ++ rsc cs := List.takeWhile_append_dropWhile.symm
  rw [this, okt_append, Bool.and_eq_true] at h2
  exact h2.2
theorem enc_drop32 (cs : List Nat) (hok : okt cs = true) : (enc cs).dropWhile (· == 32) = enc (cs.dropWhile (· == 32)) := by
  induction cs with
  | nil => rfl
  | cons c r ih =>
    simp only [okt, List.all_cons, Bool.and_eq_true] at hok
    by_cases h : c = 32
    · subst h
      rw [enc_cons]
      show ((32 : UInt8) :: enc r).dropWhile (· == 32) = enc ((32 :: r).dropWhile (· == 32))
      rw [List.dropWhile_cons_of_pos rfl, List.dropWhile_cons_of_pos rfl]
      exact ih hok.2
    · rw [List.dropWhile_cons_of_neg (by simpa using h), enc_cons]
      have h2 := enc1_no32 c h (okc_small hok.1).2
      cases he : enc1 c with
      | nil => exact absurd he (enc1_ne c)
      | cons b t =>
        rw [List.cons_append, List.dropWhile_cons_of_neg]
        have := h2 b (by rw [he]; simp)
        simpa using this
/-- An article has no blank in it. -/
theorem art_no32 (k : Nat) (w : List Nat) (h : isart k w = true) : ∀ x ∈ enc w, x ≠ 32 := artL_no32 k _ (of_decide_eq_true h)
theorem art_ne (k : Nat) (w : List Nat) (h : isart k w = true) : w ≠ [] := by
  rintro rfl
  exact artL_ne k (of_decide_eq_true h)
end Go.Proofs.YtieapjdkbigejaaDoor
