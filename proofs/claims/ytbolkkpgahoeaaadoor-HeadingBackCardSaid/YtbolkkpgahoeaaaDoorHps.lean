/- Plain Lean: how the reference divides, step by step; how it joins (layer 12). No program in sight. -/
import Derived.Test.YtbolkkpgahoeaaaDoorHpl
import Derived.Lib.IndexBytes
namespace Go.Proofs.YtbolkkpgahoeaaaDoor
open Go

theorem spl_short {sep : List UInt8} (hs : sep ≠ []) : ∀ (r cur : List UInt8), r.length < sep.length → spl sep cur r = [cur ++ r]
  | [], cur, _ => by rw [spl_nil]; simp
  | x :: t, cur, h => by
    have hp : ¬ sep.isPrefixOf (x :: t) = true := fun e => by
      have := (List.isPrefixOf_iff_prefix.1 e).length_le
      omega
    rw [spl_cons hs, if_neg hp, spl_short hs t _ (by simp only [List.length_cons] at h; omega)]
    simp
theorem spl_hit {sep s : List UInt8} (hs : sep ≠ []) {i : Nat} (h : Lib.occAt s sep i = true) (cur : List UInt8) : spl sep cur (s.drop i) = cur :: spl sep [] (s.drop (i + sep.length)) := by
  unfold Lib.occAt at h
  cases hd : s.drop i with
  | nil =>
    rw [hd] at h
    have h2 := (List.isPrefixOf_iff_prefix.1 h).length_le
    have h3 : 0 < sep.length := List.length_pos_iff.2 hs
    rw [List.length_nil] at h2
    omega
  | cons x t =>
    rw [hd] at h
    rw [spl_cons hs, if_pos h, ← hd, List.drop_drop]
theorem spl_miss {sep s : List UInt8} (hs : sep ≠ []) {i : Nat} (hi : i < s.length) (h : Lib.occAt s sep i = false) (cur : List UInt8) : spl sep cur (s.drop i) = spl sep (cur ++ [s[i]]) (s.drop (i + 1)) := by
  unfold Lib.occAt at h
  rw [List.drop_eq_getElem_cons hi] at h ⊢
  rw [spl_cons hs, if_neg (by rw [h]; simp)]
theorem piece_data (s : ByteArray) (a b : Nat) : (s.extract a b).data.toList = (s.data.toList.drop a).take (b - a) := by
  have := Lib.extract_toList s a b
  rw [ByteArray.toList_eq] at this
  exact this
theorem piece_next (s : ByteArray) {a i : Nat} (ha : a ≤ i) (hi : i < s.data.toList.length) : (s.extract a i).data.toList ++ [s.data.toList[i]] = (s.extract a (i + 1)).data.toList := by
  rw [piece_data, piece_data, show i + 1 - a = (i - a) + 1 by omega, List.take_add_one, List.getElem?_drop, show a + (i - a) = i by omega, List.getElem?_eq_getElem hi]
  rfl
theorem piece_ba (s : ByteArray) (a b : Nat) : s.extract a b = ba ((s.data.toList.drop a).take (b - a)) := ba_ext (by rw [piece_data, ba_data])
theorem piece_end (s : ByteArray) (a : Nat) : (s.extract a s.size).data.toList = s.data.toList.drop a := by
  rw [piece_data, List.take_of_length_le (by rw [List.length_drop, len_data]; omega)]
theorem piece_none (s : ByteArray) (a : Nat) : (s.extract a a).data.toList = [] := by rw [piece_data]; simp
theorem splitK_len {sep : List UInt8} (hs : sep ≠ []) : ∀ (f : Nat) (s : List UInt8), s.length < f → (Lib.splitK sep 0 (Lib.countFrom sep f s) s).length = Lib.countFrom sep f s + 1
  | 0, _, h => absurd h (Nat.not_lt_zero _)
  | f + 1, s, h => by
    have h1 : 0 < sep.length := List.length_pos_iff.2 hs
    unfold Lib.countFrom
    by_cases hi : Lib.index s sep = -1
    · rw [if_pos (by simpa using hi)]
      simp [Lib.splitK]
    · rw [if_neg (by simpa using hi), Nat.add_comm 1, Lib.splitK, if_neg (by simpa using hi)]
      have hge := Lib.index_ge s sep
      have hroom := Lib.index_room s sep (by omega)
      rw [List.length_cons, splitK_len hs f _ (by rw [List.length_drop]; omega)]
theorem splitB_len (s sep : ByteArray) (hs : sep.data.toList ≠ []) : (Lib.splitB sep 0 (Lib.countB s sep) s).length = Lib.countB s sep + 1 := by
  have h1 := congrArg List.length (Lib.splitB_data sep 0 (Lib.countB s sep) s)
  rw [List.length_map] at h1
  rw [h1]
  exact splitK_len hs (s.data.toList.length + 1) s.data.toList (Nat.lt_succ_self _)
/-- The strings, joined. -/
def interB (sep : ByteArray) (l : List ByteArray) : ByteArray := ba (sep.data.toList.intercalate (l.map (·.data.toList)))
theorem ba_eq_append (a b : ByteArray) : (a ++ b).data.toList = a.data.toList ++ b.data.toList := by simp
theorem inter_snoc {α : Type} (sep : List α) : ∀ (l : List (List α)) (x : List α), l ≠ [] → sep.intercalate (l ++ [x]) = sep.intercalate l ++ sep ++ x
  | [], _, h => absurd rfl h
  | [a], x, _ => by rw [List.singleton_append, inter_cons _ _ (by simp), inter_one, inter_one]; simp
  | a :: b :: r, x, _ => by
    rw [List.cons_append, inter_cons sep a (r := (b :: r) ++ [x]) (by simp), inter_snoc sep (b :: r) x (by simp), inter_cons sep a (r := b :: r) (by simp)]
    simp only [List.append_assoc]
theorem interB_next (sep : ByteArray) (l : List ByteArray) (i : Nat) (x : ByteArray) (h : l[i]? = some x) : interB sep (l.take (i + 1)) = if i = 0 then x else interB sep (l.take i) ++ sep ++ x := by
  have ht : l.take (i + 1) = l.take i ++ [x] := by rw [List.take_add_one, h]; rfl
  by_cases h0 : i = 0
  · subst h0
    rw [if_pos rfl, ht]
    unfold interB
    simp only [List.take_zero, List.nil_append, List.map_cons, List.map_nil, inter_one]
    exact ba_ext (ba_data _)
  · rw [if_neg h0, ht]
    have hlt : i < l.length := (List.getElem?_eq_some_iff.1 h).1
    have hne : (l.take i).map (·.data.toList) ≠ [] := by
      intro e
      have h9 := congrArg List.length e
      rw [List.length_map, List.length_take, List.length_nil] at h9
      omega
    refine ba_ext ?_
    unfold interB
    rw [ba_data, List.map_append, List.map_cons, List.map_nil, inter_snoc _ _ _ hne, ba_eq_append, ba_eq_append, ba_data]
theorem interB_nil (sep : ByteArray) : interB sep [] = ⟨#[]⟩ := by unfold interB; rw [List.map_nil, inter_nil]; rfl
theorem interB_bs (sep : List Nat) (css : List (List Nat)) : interB (bs sep) (css.map bs) = bs (sep.intercalate css) := by
  refine ba_ext ?_
  have h1 : (css.map bs).map (·.data.toList) = css.map enc := by
    rw [List.map_map]
    exact List.map_congr_left fun x _ => bs_data x
  unfold interB
  rw [ba_data, h1, bs_data, bs_data, inter_enc]
/-- The sum of the sizes, with separators of at most two bytes. -/
theorem interB_size (sep : ByteArray) (hs : sep.size ≤ 2) (m : Nat) : ∀ l : List ByteArray, (∀ x ∈ l, x.size ≤ m) → (interB sep l).size ≤ l.length * (m + 2)
  | [], _ => by rw [interB_nil]; simp [ByteArray.size]
  | [x], h => by
    have := h x List.mem_cons_self
    have e : (interB sep [x]).size = x.size := by
      unfold interB
      rw [List.map_cons, List.map_nil, inter_one, ← len_data, ba_data, len_data]
    rw [e]; simp; omega
  | x :: y :: r, h => by
    have h1 := h x List.mem_cons_self
    have h2 := interB_size sep hs m (y :: r) fun z hz => h z (List.mem_cons_of_mem _ hz)
    have e : (interB sep (x :: y :: r)).size = x.size + (sep.size + (interB sep (y :: r)).size) := by
      unfold interB
      rw [List.map_cons, inter_cons _ _ (by simp), ← len_data, ba_data, List.length_append, List.length_append, len_data, len_data, ← len_data (ba _), ba_data]
    rw [e]
    simp only [List.length_cons, Nat.add_mul] at h2 ⊢
    omega
theorem take_size (sep : ByteArray) (hs : sep.size ≤ 2) (m : Nat) (l : List ByteArray) (h : ∀ x ∈ l, x.size ≤ m) (i : Nat) : (interB sep (l.take i)).size ≤ l.length * (m + 2) := by
  have := interB_size sep hs m (l.take i) fun x hx => h x (List.mem_of_mem_take hx)
  have h2 : (l.take i).length ≤ l.length := by rw [List.length_take]; omega
  exact Nat.le_trans this (Nat.mul_le_mul_right _ h2)
end Go.Proofs.YtbolkkpgahoeaaaDoor
