/- Plain Lean: dividing a list at separators, and joining it again (layer 12). No program in sight. -/
import Derived.Test.YtbolkkpgahoeaaaDoorBse
import Derived.Lib.Split
import Derived.Lib.Join
namespace Go.Proofs.YtbolkkpgahoeaaaDoor
open Go

section
variable {α : Type} [BEq α]
def spF (sep : List α) : Nat → List α → List α → List (List α)
  | 0, cur, r => [cur ++ r]
  | n + 1, cur, r => match r with
    | [] => [cur]
    | x :: t => if sep.isPrefixOf (x :: t) = true then cur :: spF sep n [] ((x :: t).drop sep.length) else spF sep n (cur ++ [x]) t
theorem spF_fuel {sep : List α} (hs : sep ≠ []) : ∀ (n m : Nat) (cur r : List α), r.length ≤ n → r.length ≤ m → spF sep n cur r = spF sep m cur r
  | 0, 0, _, _, _, _ => rfl
  | 0, m + 1, cur, r, hn, _ => by
    obtain rfl : r = [] := List.eq_nil_of_length_eq_zero (by omega)
    simp [spF]
  | n + 1, 0, cur, r, _, hm => by
    obtain rfl : r = [] := List.eq_nil_of_length_eq_zero (by omega)
    simp [spF]
  | n + 1, m + 1, cur, r, hn, hm => by
    have h1 : 0 < sep.length := List.length_pos_iff.2 hs
    match r with
    | [] => rfl
    | x :: t =>
      simp only [List.length_cons] at hn hm
      simp only [spF]
      split
      · rw [spF_fuel hs n m [] _ (by rw [List.length_drop, List.length_cons]; omega) (by rw [List.length_drop, List.length_cons]; omega)]
      · exact spF_fuel hs n m _ t (by omega) (by omega)
/-- What is left of a list, divided; cur: the piece that has begun. -/
def spl (sep cur r : List α) : List (List α) := spF sep r.length cur r
/-- A list divided at each separator. -/
def split (sep s : List α) : List (List α) := spl sep [] s
theorem spl_nil (sep cur : List α) : spl sep cur [] = [cur] := by simp [spl, spF]
theorem spl_cons {sep : List α} (hs : sep ≠ []) (cur : List α) (x : α) (t : List α) :
    spl sep cur (x :: t) = if sep.isPrefixOf (x :: t) = true then cur :: spl sep [] ((x :: t).drop sep.length) else spl sep (cur ++ [x]) t := by
  have h1 : 0 < sep.length := List.length_pos_iff.2 hs
  unfold spl
  rw [List.length_cons, spF]
  split
  · rw [spF_fuel hs _ ((x :: t).drop sep.length).length [] _ (by rw [List.length_drop, List.length_cons]; omega) (Nat.le_refl _)]
  · rfl
theorem spl_head {sep : List α} (hs : sep ≠ []) : ∀ (n : Nat) (r : List α), r.length ≤ n → ∃ h tl, ∀ cur, spl sep cur r = (cur ++ h) :: tl
  | 0, r, hn => by
    obtain rfl : r = [] := List.eq_nil_of_length_eq_zero (by omega)
    exact ⟨[], [], fun cur => by rw [spl_nil]; simp⟩
  | n + 1, [], _ => ⟨[], [], fun cur => by rw [spl_nil]; simp⟩
  | n + 1, x :: t, hn => by
    simp only [List.length_cons] at hn
    by_cases hp : sep.isPrefixOf (x :: t) = true
    · exact ⟨[], spl sep [] ((x :: t).drop sep.length), fun cur => by rw [spl_cons hs, if_pos hp]; simp⟩
    · obtain ⟨h, tl, hh⟩ := spl_head hs n t (by omega)
      exact ⟨x :: h, tl, fun cur => by rw [spl_cons hs, if_neg hp, hh]; simp⟩
theorem spl_ne {sep : List α} (hs : sep ≠ []) (cur r : List α) : spl sep cur r ≠ [] := by
  obtain ⟨h, tl, hh⟩ := spl_head hs r.length r (Nat.le_refl _)
  rw [hh]; simp
end
section
variable {α : Type}
theorem inter_cons (sep x : List α) {r : List (List α)} (hr : r ≠ []) : sep.intercalate (x :: r) = x ++ (sep ++ sep.intercalate r) := by
  cases r with
  | nil => exact absurd rfl hr
  | cons y t => simp [List.intercalate]
theorem inter_one (sep x : List α) : sep.intercalate [x] = x := by simp [List.intercalate]
theorem inter_nil (sep : List α) : sep.intercalate [] = [] := by simp [List.intercalate]
end
section
variable {α : Type} [BEq α] [LawfulBEq α]
/-- The pieces, joined, are the list. -/
theorem inter_spl {sep : List α} (hs : sep ≠ []) : ∀ (n : Nat) (cur r : List α), r.length ≤ n → sep.intercalate (spl sep cur r) = cur ++ r
  | 0, cur, r, hn => by
    obtain rfl : r = [] := List.eq_nil_of_length_eq_zero (by omega)
    rw [spl_nil, inter_one]; simp
  | n + 1, cur, [], _ => by rw [spl_nil, inter_one]; simp
  | n + 1, cur, x :: t, hn => by
    have h1 : 0 < sep.length := List.length_pos_iff.2 hs
    simp only [List.length_cons] at hn
    rw [spl_cons hs]
    split
    · rename_i hp
      rw [inter_cons _ _ (spl_ne hs _ _), inter_spl hs n _ _ (by rw [List.length_drop, List.length_cons]; omega)]
      rw [List.nil_append]
      obtain ⟨u, hu⟩ := List.isPrefixOf_iff_prefix.1 hp
      rw [← hu, List.drop_left]
    · rw [inter_spl hs n _ _ (by omega)]; simp
theorem inter_split {sep : List α} (hs : sep ≠ []) (s : List α) : sep.intercalate (split sep s) = s := inter_spl hs s.length [] s (Nat.le_refl _)
/-- The first piece ends where the separator first stands. -/
theorem spl_first {sep : List α} (hs : sep ≠ []) : ∀ (a b cur : List α), (∀ p q, a = p ++ q → q ≠ [] → sep.isPrefixOf (q ++ sep ++ b) = false) → spl sep cur (a ++ (sep ++ b)) = (cur ++ a) :: spl sep [] b
  | [], b, cur, _ => by
    obtain ⟨c, d, hcd⟩ : ∃ c d, sep = c :: d := List.exists_cons_of_ne_nil hs
    have hp : sep.isPrefixOf (sep ++ b) = true := List.isPrefixOf_iff_prefix.2 (List.prefix_append _ _)
    have h2 : sep ++ b = c :: (d ++ b) := by rw [hcd]; rfl
    rw [List.nil_append, List.append_nil, h2, spl_cons hs, ← h2, if_pos hp, List.drop_left]
  | x :: a, b, cur, h => by
    have h1 := h [] (x :: a) rfl (by simp)
    rw [List.cons_append, spl_cons hs, if_neg (by rw [← List.cons_append, ← List.append_assoc, h1]; simp), spl_first hs a b _ (fun p q hpq hq => h (x :: p) q (by rw [hpq]; rfl) hq)]
    simp
end
section
variable {α : Type} [BEq α]
/-- A list without the separator is its only piece. -/
theorem spl_whole {sep : List α} (hs : sep ≠ []) : ∀ (a cur : List α), (∀ p q, a = p ++ q → q ≠ [] → sep.isPrefixOf q = false) → spl sep cur a = [cur ++ a]
  | [], cur, _ => by rw [spl_nil]; simp
  | x :: a, cur, h => by
    rw [spl_cons hs, if_neg (by rw [h [] (x :: a) rfl (by simp)]; simp), spl_whole hs a _ (fun p q hpq hq => h (x :: p) q (by rw [hpq]; rfl) hq)]
    simp
/-- One piece alone: the separator stands nowhere. -/
theorem spl_one {sep : List α} (hs : sep ≠ []) : ∀ (a cur : List α), (spl sep cur a).length ≤ 1 → ∀ p q, a = p ++ q → q ≠ [] → sep.isPrefixOf q = false
  | [], _, _, p, q, h, hq => by
    have := congrArg List.length h
    simp at this
    exact absurd (List.eq_nil_of_length_eq_zero (by omega)) hq
  | x :: a, cur, h1, p, q, h, hq => by
    rw [spl_cons hs] at h1
    split at h1
    · have := spl_ne hs [] ((x :: a).drop sep.length)
      have : 0 < (spl sep [] ((x :: a).drop sep.length)).length := List.length_pos_iff.2 this
      simp only [List.length_cons] at h1
      omega
    · rename_i hp
      cases p with
      | nil => rw [List.nil_append] at h; rw [← h]; exact Bool.eq_false_iff.2 hp
      | cons y p =>
        rw [List.cons_append, List.cons.injEq] at h
        exact spl_one hs a _ h1 p q h.2 hq
end

/-- As the library divides. -/
theorem spl_index {sep : List UInt8} (hs : sep ≠ []) : ∀ (s cur : List UInt8), spl sep cur s = if Lib.index s sep = -1 then [cur ++ s] else (cur ++ s.take (Lib.index s sep).toNat) :: spl sep [] (s.drop ((Lib.index s sep).toNat + sep.length))
  | [], cur => by
    have : Lib.index [] sep = -1 := by
      unfold Lib.index
      cases sep with
      | nil => exact absurd rfl hs
      | cons a b => rfl
    rw [if_pos this, spl_nil]; simp
  | x :: t, cur => by
    rw [spl_cons hs]
    unfold Lib.index
    by_cases hp : sep.isPrefixOf (x :: t) = true
    · rw [if_pos hp, if_pos hp, if_neg (by decide)]
      simp
    · rw [if_neg hp, if_neg hp, spl_index hs t]
      have hge := Lib.index_ge t sep
      by_cases h1 : Lib.index t sep = -1
      · rw [if_pos h1, h1]; simp
      · have hb : (Lib.index t sep == -1) = false := by simpa using h1
        rw [if_neg h1, hb]
        simp only [Bool.false_eq_true, if_false]
        rw [if_neg (by omega)]
        have e : (Lib.index t sep + 1).toNat = (Lib.index t sep).toNat + 1 := by omega
        rw [e]
        simp [Nat.add_right_comm]
theorem splitK_eq {sep : List UInt8} (hs : sep ≠ []) : ∀ (f : Nat) (s : List UInt8), s.length < f → Lib.splitK sep 0 (Lib.countFrom sep f s) s = split sep s
  | 0, _, h => absurd h (Nat.not_lt_zero _)
  | f + 1, s, h => by
    have h1 : 0 < sep.length := List.length_pos_iff.2 hs
    unfold split
    rw [spl_index hs]
    unfold Lib.countFrom
    by_cases hi : Lib.index s sep = -1
    · rw [if_pos hi, if_pos (by simpa using hi)]
      simp [Lib.splitK]
    · rw [if_neg hi, if_neg (by simpa using hi), Nat.add_comm 1, Lib.splitK, if_neg (by simpa using hi)]
      have hge := Lib.index_ge s sep
      have hroom := Lib.index_room s sep (by omega)
      rw [splitK_eq hs f _ (by rw [List.length_drop]; omega)]
      rfl
def ba (l : List UInt8) : ByteArray := ⟨l.toArray⟩
theorem ba_data (l : List UInt8) : (ba l).data.toList = l := by simp [ba]
theorem bs_ba (cs : List Nat) : bs cs = ba (enc cs) := rfl
theorem splitB_eq (s sep : ByteArray) (hs : sep.data.toList ≠ []) : Lib.splitB sep 0 (Lib.countB s sep) s = (split sep.data.toList s.data.toList).map ba := by
  have h1 := Lib.splitB_data sep 0 (Lib.countB s sep) s
  have h2 := splitK_eq hs (s.data.toList.length + 1) s.data.toList (Nat.lt_succ_self _)
  have h3 : Lib.countB s sep = Lib.countFrom sep.data.toList (s.data.toList.length + 1) s.data.toList := rfl
  rw [← h3, ← h1] at h2
  rw [← h2, List.map_map]
  conv => lhs; rw [← List.map_id (Lib.splitB sep 0 (Lib.countB s sep) s)]
  refine List.map_congr_left fun x _ => ?_
  exact ba_ext (by simp [ba])

/-- A separator of plain characters. -/
def ascii (sep : List Nat) : Prop := ∀ c ∈ sep, 32 ≤ c ∧ c < 127
theorem enc1_ascii {c : Nat} (h : c < 128) : enc1 c = [UInt8.ofNat c] := by
  unfold enc1
  rw [if_pos h]
theorem enc1_high {c : Nat} (h : ¬ c < 128) (hc : okc c = true) : ∀ b ∈ enc1 c, 128 ≤ b.toNat := by
  have hs := okc_small hc
  unfold enc1
  rw [if_neg h]
  split <;> (intro b hb; simp only [List.mem_cons, List.not_mem_nil, or_false] at hb; rcases hb with rfl | rfl | rfl <;> (rw [u8 _ (by omega)]; omega)) <;> skip
theorem prefix_enc : ∀ (sep cs : List Nat), ascii sep → okt cs = true → (enc sep).isPrefixOf (enc cs) = sep.isPrefixOf cs
  | [], cs, _, _ => by simp [enc]
  | s :: sep, [], h, _ => by
    rw [enc_cons, enc1_ascii (by have := h s List.mem_cons_self; omega)]
    simp [enc]
  | s :: sep, c :: cs, h, hok => by
    have hs := h s List.mem_cons_self
    have hc : okc c = true ∧ okt cs = true := by simpa [okt] using hok
    rw [enc_cons, enc1_ascii (by omega), enc_cons]
    by_cases hlt : c < 128
    · rw [enc1_ascii hlt, List.singleton_append, List.singleton_append, List.isPrefixOf_cons_cons, List.isPrefixOf_cons_cons, prefix_enc sep cs (fun x hx => h x (List.mem_cons_of_mem _ hx)) hc.2]
      congr 1
      by_cases e : s = c
      · subst e; rw [beq_self_eq_true, beq_self_eq_true]
      · have : UInt8.ofNat s ≠ UInt8.ofNat c := fun e2 => e (by have := congrArg UInt8.toNat e2; rwa [u8 _ (by omega), u8 _ (by omega)] at this)
        rw [beq_eq_false_iff_ne.2 this, beq_eq_false_iff_ne.2 e]
    · obtain ⟨b, t, hbt⟩ := List.exists_cons_of_ne_nil (enc1_ne c)
      have hb := enc1_high hlt hc.1 b (by rw [hbt]; exact List.mem_cons_self)
      have : UInt8.ofNat s ≠ b := fun e => by have := congrArg UInt8.toNat e; rw [u8 _ (by omega)] at this; omega
      have e2 : s ≠ c := by omega
      rw [hbt, List.singleton_append, List.cons_append, List.isPrefixOf_cons_cons, List.isPrefixOf_cons_cons]
      rw [beq_eq_false_iff_ne.2 this, beq_eq_false_iff_ne.2 e2]; simp
theorem spl_high {s : UInt8} {sep' : List UInt8} (hs : s.toNat < 128) : ∀ (bs rest cur : List UInt8), (∀ b ∈ bs, 128 ≤ b.toNat) → spl (s :: sep') cur (bs ++ rest) = spl (s :: sep') (cur ++ bs) rest
  | [], rest, cur, _ => by simp
  | b :: bs, rest, cur, h => by
    have hb := h b List.mem_cons_self
    have hne : s ≠ b := fun e => by rw [e] at hs; omega
    rw [List.cons_append, spl_cons (by simp), if_neg (by rw [List.isPrefixOf_cons_cons]; simp [hne]), spl_high hs bs rest _ (fun x hx => h x (List.mem_cons_of_mem _ hx))]
    simp
/-- Dividing the bytes of a text divides the text. -/
theorem spl_enc {sep : List Nat} (hs : sep ≠ []) (ha : ascii sep) : ∀ (n : Nat) (cur r : List Nat), r.length ≤ n → okt r = true → spl (enc sep) (enc cur) (enc r) = (spl sep cur r).map enc
  | 0, cur, r, hn, _ => by
    obtain rfl : r = [] := List.eq_nil_of_length_eq_zero (by omega)
    rw [enc_nil, spl_nil, spl_nil]; rfl
  | n + 1, cur, [], _, _ => by rw [enc_nil, spl_nil, spl_nil]; rfl
  | n + 1, cur, c :: r, hn, hok => by
    have hc : okc c = true ∧ okt r = true := by simpa [okt] using hok
    have hl : 0 < sep.length := List.length_pos_iff.2 hs
    simp only [List.length_cons] at hn
    have hes : enc sep ≠ [] := fun e => hs (enc_eq_nil e)
    have hp := prefix_enc sep (c :: r) ha hok
    obtain ⟨b, t, hbt⟩ := List.exists_cons_of_ne_nil (show enc (c :: r) ≠ [] from fun e => by cases enc_eq_nil e)
    by_cases h : sep.isPrefixOf (c :: r) = true
    · rw [spl_cons hs, if_pos h, hbt, spl_cons hes, ← hbt, if_pos (by rw [hp, h])]
      obtain ⟨u, hu⟩ := List.isPrefixOf_iff_prefix.1 h
      have hou : okt u = true := by rw [← hu, okt_append, Bool.and_eq_true] at hok; exact hok.2
      have hul : u.length ≤ n := by have := congrArg List.length hu; simp at this; omega
      rw [← hu, enc_append, List.drop_left, List.drop_left, List.map_cons, ← spl_enc hs ha n [] u hul hou]
      rfl
    · rw [spl_cons hs, if_neg h, ← spl_enc hs ha n (cur ++ [c]) r (by omega) hc.2]
      by_cases hlt : c < 128
      · have e1 : enc (c :: r) = UInt8.ofNat c :: enc r := by rw [enc_cons, enc1_ascii hlt]; rfl
        rw [e1, spl_cons hes, ← e1, if_neg (by rw [hp]; exact h), enc_append]
        congr 2
        simp [enc, enc1_ascii hlt]
      · obtain ⟨s, sep', rfl⟩ := List.exists_cons_of_ne_nil hs
        have hs2 := ha s List.mem_cons_self
        have e1 : enc (s :: sep') = UInt8.ofNat s :: enc sep' := by rw [enc_cons, enc1_ascii (by omega)]; rfl
        rw [e1, enc_cons, spl_high (by rw [u8 _ (by omega)]; omega) (enc1 c) (enc r) _ (enc1_high hlt hc.1), enc_append]
        congr 2
        simp [enc]
theorem split_enc {sep : List Nat} (hs : sep ≠ []) (ha : ascii sep) (cs : List Nat) (hok : okt cs = true) : split (enc sep) (enc cs) = (split sep cs).map enc := spl_enc hs ha cs.length [] cs (Nat.le_refl _) hok
theorem inter_enc (sep : List Nat) : ∀ l : List (List Nat), (enc sep).intercalate (l.map enc) = enc (sep.intercalate l)
  | [] => by simp [List.intercalate, enc]
  | [x] => by simp [List.intercalate]
  | x :: y :: r => by
    rw [List.map_cons, inter_cons (enc sep) (enc x) (r := (y :: r).map enc) (by simp), inter_enc sep (y :: r), inter_cons sep x (r := y :: r) (by simp), enc_append, enc_append]
theorem spl_okt {sep : List Nat} (hs : sep ≠ []) : ∀ (n : Nat) (cur r : List Nat), r.length ≤ n → okt cur = true → okt r = true → ∀ p ∈ spl sep cur r, okt p = true
  | 0, cur, r, hn, hc, _ => by
    obtain rfl : r = [] := List.eq_nil_of_length_eq_zero (by omega)
    rw [spl_nil]; intro p hp; rw [List.mem_singleton.1 hp]; exact hc
  | n + 1, cur, [], _, hc, _ => by rw [spl_nil]; intro p hp; rw [List.mem_singleton.1 hp]; exact hc
  | n + 1, cur, c :: r, hn, hc, hok => by
    have hcr : okc c = true ∧ okt r = true := by simpa [okt] using hok
    have hl : 0 < sep.length := List.length_pos_iff.2 hs
    simp only [List.length_cons] at hn
    rw [spl_cons hs]
    split
    · intro p hp
      rcases List.mem_cons.1 hp with rfl | hp
      · exact hc
      · refine spl_okt hs n [] _ (by rw [List.length_drop, List.length_cons]; omega) rfl ?_ p hp
        have := List.take_append_drop sep.length (c :: r)
        rw [← this, okt_append, Bool.and_eq_true] at hok
        exact hok.2
    · exact spl_okt hs n _ r (by omega) (by rw [okt_append, hc]; simp [okt, hcr.1]) hcr.2
theorem split_okt {sep : List Nat} (hs : sep ≠ []) (cs : List Nat) (hok : okt cs = true) : ∀ p ∈ split sep cs, okt p = true := spl_okt hs cs.length [] cs (Nat.le_refl _) rfl hok
end Go.Proofs.YtbolkkpgahoeaaaDoor
