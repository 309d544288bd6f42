/- Rows of patrons that a call owns, and the walk of Clone at patrons (layer 28). -/
import Derived.Test.YtlpeppigebbfkaaDoorNsm
import Derived.Laws.AppendOwnNone
namespace Go.Proofs.YtlpeppigebbfkaaDoor
open Go Go.RowKit

/-- The cells of a list of patrons, one behind the other. -/
def pcells (l : List Pat) : List Value := l.flatMap Pat.enc
theorem pcells_nil : pcells [] = [] := rfl
theorem pcells_cons (p : Pat) (l : List Pat) : pcells (p :: l) = p.enc ++ pcells l := rfl
theorem pcells_append (a b : List Pat) : pcells (a ++ b) = pcells a ++ pcells b := by simp [pcells]
theorem enc_len (p : Pat) : p.enc.length = 6 := rfl
theorem pcells_len (l : List Pat) : (pcells l).length = l.length * 6 := by
  induction l with
  | nil => rfl
  | cons p l ih => rw [pcells_cons, List.length_append, ih, enc_len, List.length_cons]; omega
theorem pcells_at : ∀ (l : List Pat) (j : Nat) (p : Pat), l[j]? = some p → ∀ i, i < 6 → (pcells l)[j * 6 + i]? = p.enc[i]?
  | [], j, p, h => by cases h
  | q :: l, 0, p, h => by
    intro i hi
    cases h
    rw [pcells_cons, Nat.zero_mul, Nat.zero_add, List.getElem?_append_left (by rw [enc_len]; exact hi)]
  | q :: l, j + 1, p, h => by
    intro i hi
    have ih := pcells_at l j p h i hi
    rw [pcells_cons, List.getElem?_append_right (by rw [enc_len]; omega), enc_len, show (j + 1) * 6 + i - 6 = j * 6 + i by omega, ih]
theorem pcells_of {l : List Pat} {t : Nat} {u : Value} (h : (pcells l)[t]? = some u) : ∃ j p i, l[j]? = some p ∧ i < 6 ∧ p.enc[i]? = some u ∧ t = j * 6 + i := by
  have ht : t < l.length * 6 := by have := (List.getElem?_eq_some_iff.1 h).1; rwa [pcells_len] at this
  obtain ⟨p, hp⟩ : ∃ p, l[t / 6]? = some p := ⟨_, List.getElem?_eq_getElem (by omega)⟩
  refine ⟨t / 6, p, t % 6, hp, by omega, ?_, by omega⟩
  rw [← pcells_at l (t / 6) p hp (t % 6) (by omega), show t / 6 * 6 + t % 6 = t by omega]
  exact h
theorem enc_one (p : Pat) : ∀ u ∈ p.enc, u.oneCell' = true := by
  intro u hu
  simp only [Pat.enc, List.mem_cons, List.not_mem_nil, or_false] at hu
  rcases hu with rfl | rfl | rfl | rfl | rfl | rfl <;> rfl
theorem pcells_one (l : List Pat) : ∀ u ∈ pcells l, u.oneCell' = true := by
  intro u hu
  obtain ⟨p, _, hp⟩ := List.mem_flatMap.1 hu
  exact enc_one p u hp
/-- The cells that a slice of patrons shows. -/
theorem Pats.cells {w : World} {a : Option Addr} {n c : Nat} {l : List Pat} (h : Pats w (.slice a n c) l) {ad : Addr} (ha : a = some ad) : ∀ t u, (pcells l)[t]? = some u → w.cell? (ad.add t) = some u := by
  obtain ⟨a', c', he, hc, h⟩ := h
  cases he
  subst ha
  intro t u ht
  obtain ⟨j, p, i, hj, hi, hu, rfl⟩ := pcells_of ht
  rcases h with h0 | ⟨b, o, h0, hb, hx⟩
  · rw [h0] at hj; cases hj
  · cases h0
    rw [Addr.add_lit, ← Nat.add_assoc]
    exact hx j p hj i u hu
theorem Pats.of_own {w : World} {v : Value} {base n : Nat} {T : TypeId} {l : List Pat} (h : w.ownsRow base T 6 v n (pcells l)) (hn : n = l.length) : Pats w v l := by
  subst hn
  rcases h.2 with ⟨rfl, h0⟩ | ⟨g, cap, cur, rfl, hg, hh, hc, -, -, ht⟩
  · exact ⟨none, 0, by rw [h0], by omega, .inl (List.eq_nil_of_length_eq_zero h0)⟩
  · refine ⟨_, cap, rfl, hc, .inr ⟨g, 0, rfl, (Array.getElem?_eq_some_iff.1 hh).1, ?_⟩⟩
    intro j p hj i u hi
    have hi6 : i < 6 := (List.getElem?_eq_some_iff.1 hi).1
    have hjl : j < l.length := (List.getElem?_eq_some_iff.1 hj).1
    have h1 : (cur.toList.take (l.length * 6))[j * 6 + i]? = (pcells l)[j * 6 + i]? := by rw [ht]
    rw [List.getElem?_take_of_lt (by omega), pcells_at l j p hj i hi6, hi] at h1
    rw [Nat.zero_add, Lib.cell_of_heap hh, ← Array.getElem?_toList, h1]
theorem infoPat : (Tryd.prog.info? 28).map (fun i => (i.zero, i.size, i.bytes)) = some (some (.agg #[.int .i64 0, .int .i64 0, .int .i64 0, .int .i64 0, .bool false, .string ⟨#[]⟩]), 6, 56) := by kernel_rfl

/-- Clone at a slice that is nil. -/
theorem pCloneNil (c : Nat) (w : World) : Calls Tryd.prog 38 #[.slice none 0 c] w fun e w' => e = .returned (.slice none 0 0) ∧ w' = w := by
  have q := fun (w : World) (a : Option Addr) (n c n' c' : Nat) => Lib.run_eql_slice_nil (P := Tryd.prog) w 22 28 a n c n' c' Tryd.underlying22
  go_enter Tryd.func38, Tryd.ntmps38
  go_wp2
  go_ret
  exact ⟨rfl, rfl⟩
set_option maxRecDepth 100000 in
set_option maxHeartbeats 2000000 in
/-- Clone at a slice that is not: a row of the call's own. -/
theorem pClone (ad : Addr) (c : Nat) (l : List Pat) (w : World) (hn : l.length ≤ 1000) (hv : Pats w (.slice (some ad) l.length c) l) :
    Calls Tryd.prog 38 #[.slice (some ad) l.length c] w fun e w' => ∃ v', e = .returned v' ∧ w'.ownsRow w.heap.size 28 6 v' l.length (pcells l) ∧ v' ≠ .slice none 0 0 ∧ Below w.heap.size w w' := by
  have q := fun (w : World) (a : Option Addr) (n c n' c' : Nat) => Lib.run_eql_slice_nil (P := Tryd.prog) w 22 28 a n c n' c' Tryd.underlying22
  obtain ⟨i0, hi, hz0, hz1, hz2⟩ := info_parts infoPat
  have HI := Lib.hid hi; have HZ0 := Lib.hid hz0; have HZ1 := Lib.hid hz1; have HZ2 := Lib.hid hz2
  have HC := Lib.hid (hv.cells rfl)
  have HN := Lib.hid hn
  obtain ⟨n, hnn⟩ : ∃ n, n = l.length := ⟨_, rfl⟩
  have HNN := Lib.hid hnn
  rw [← hnn]
  clear hi hz0 hz1 hz2 hv hnn hn
  go_enter Tryd.func38, Tryd.ntmps38
  go_wp2_with (at_builtin; refine wpList_append_own _ rfl _ _ 22 rfl w.heap.size 28 i0 (.agg #[.int .i64 0, .int .i64 0, .int .i64 0, .int .i64 0, .bool false, .string ⟨#[]⟩]) 6 56 Tryd.underlying22 HI.out HZ0.out HZ1.out HZ2.out rfl (by decide) _ _ _ rfl (World.ownsRow_made w #[] 0 (Nat.le_refl _) (Nat.zero_le _) (by simp)) ad n c (pcells l) rfl ?qc1 ?qc2 ?qc3 ?qc4 ?qc5 ?qc6 ?_)
  case qc1 => rw [HNN.out]; exact pcells_len l
  case qc2 =>
    intro j u hj
    exact Lib.cell?_alloc_some _ (HC.out j u hj)
  case qc3 => exact pcells_one l
  case qc4 => have := HN.out; have := HNN.out; unfold maxLen; omega
  case qc5 => have := HN.out; have := HNN.out; omega
  case qc6 => simp
  intro v' w1 hown hgrow hnil
  go_wp2
  go_ret
  refine ⟨v', rfl, by simpa using hown, ?_, ?_⟩
  · exact hnil
  · exact ((Below.refl _ w).alloc (Nat.le_refl _) _).grown hgrow (by simp) (by intro k hk; simp [Value.ownBlock] at hk; omega)
end Go.Proofs.YtlpeppigebbfkaaDoor
