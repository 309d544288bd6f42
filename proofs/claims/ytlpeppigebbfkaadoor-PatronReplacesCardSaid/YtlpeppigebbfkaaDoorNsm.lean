/- The walks of Small, valid, Same and SameInts (layer 28). -/
import Derived.Test.YtlpeppigebbfkaaDoorNrr
import Derived.Test.YtlpeppigebbfkaaDoorNgt
namespace Go.Proofs.YtlpeppigebbfkaaDoor
open Go Go.RowKit

def smallP (l : List Pat) : Bool := l.all fun p => decide (p.name.size ≤ 1000)
set_option maxRecDepth 100000 in
set_option maxHeartbeats 1000000 in
theorem rSmallP (v : Value) (l : List Pat) (w : World) (hv : Pats w v l) (hl : l.length ≤ 9223372036854775807) :
    Calls Tryd.prog 11 #[v] w fun e w' => e = .returned (.bool (decide (l.length ≤ 60) && smallP l)) ∧ w' = w := by
  obtain ⟨pa, pc, rfl, hpc, hcells⟩ := hv
  obtain ⟨A, hA⟩ : ∃ A, A = smallP l := ⟨_, rfl⟩
  rw [← hA]
  obtain ⟨n, hnn⟩ : ∃ n, n = l.length := ⟨_, rfl⟩
  rw [← hnn] at hl hpc ⊢
  have HN := Lib.hid hnn
  have HC := Lib.hid hcells
  have HA := Lib.hid hA
  clear hnn hcells hA
  by_cases h60 : 60 < n
  · rw [decide_eq_false (by omega)]
    go_enter Tryd.func11, Tryd.ntmps11
    go_wp2
    go_ret
    exact ⟨rfl, rfl⟩
  rw [decide_eq_true (by omega)]
  go_enter Tryd.func11, Tryd.ntmps11
  go_wp2
  go_loop [3] (fun vk => ∃ k : Nat, vk = .int .i64 k ∧ k ≤ n ∧ Hid (A = smallP (l.drop k))) (fun vk => n - (intOf vk).toNat)
  case atStart => exact ⟨0, rfl, by omega, HA⟩
  case round =>
    obtain ⟨k, rfl, hk, HK⟩ := hrel
    by_cases hlt : k < n
    · have hltz : (k : Int) < (n : Int) := by omega
      obtain ⟨p, hp⟩ : ∃ p, l[k]? = some p := ⟨_, List.getElem?_eq_getElem (by have := HN.out; omega)⟩
      rcases HC.out with h0 | ⟨b, o, rfl, hbl, hcl⟩
      · rw [h0] at hp; cases hp
      have hd : l.drop k = p :: l.drop (k + 1) := by
        obtain ⟨h', rfl⟩ := List.getElem?_eq_some_iff.1 hp
        exact List.drop_eq_getElem_cons h'
      have hst : A = (decide (p.name.size ≤ 1000) && smallP (l.drop (k + 1))) := by rw [HK.out, hd]; rfl
      have c5 := (six_of (hcl k p hp)).c5
      obtain ⟨nm, hnm⟩ : ∃ nm, nm = p.name := ⟨_, rfl⟩
      rw [← hnm] at hst c5
      clear HK hcl hp hnm hd
      by_cases hsz : 1000 < nm.size
      · have HT : Hid (A = false) := Lib.hid (by rw [hst, decide_eq_false (by omega)]; rfl)
        clear hst HA
        go_wp2
        go_ret
        exact ⟨by rw [HT.out]; rfl, rfl⟩
      · have HT : Hid (A = smallP (l.drop (k + 1))) := Lib.hid (by rw [hst, decide_eq_true (by omega)]; rfl)
        clear hst HA
        go_wp2
        go_round
        case rel => exact ⟨k + 1, by go_num, by omega, HT⟩
        case measure => simp [intOf]; omega
    · have hltz : ¬ (k : Int) < (n : Int) := by omega
      have HT : Hid (A = true) := Lib.hid (by rw [HK.out, List.drop_eq_nil_of_le (by have := HN.out; omega)]; rfl)
      clear HK HA
      go_wp2
      go_ret
      exact ⟨by rw [HT.out]; rfl, rfl⟩

theorem smallP_names {l : List Pat} (h : smallP l = true) : ∀ p ∈ l, p.name.size ≤ 1000 := fun p hp => by
  have := List.all_eq_true.1 h p hp
  simpa using this
set_option maxRecDepth 100000 in
set_option maxHeartbeats 1000000 in
/-- valid: of moderate size, and right. -/
theorem lvalid {F : ByteArray → Bool} (hF : ∀ n, F n = true ↔ formOk n) (v : Value) (l : List Pat) (w : World) (hv : Pats w v l) (hl : l.length ≤ 9223372036854775807) :
    Calls Tryd.prog 14 #[v] w fun e w' => e = .returned (.bool ((decide (l.length ≤ 60) && smallP l) && decide (right F l = 0))) ∧ Below w.heap.size w w' := by
  have hs := rSmallP v l w hv hl
  cases h : (decide (l.length ≤ 60) && smallP l) with
  | false =>
    rw [h] at hs
    have HS := Lib.hid hs
    clear hs h hv
    go_enter Tryd.func14, Tryd.ntmps14
    go_wp2_with fail
    refine HS.out.mono ?_
    rintro e w1 ⟨rfl, rfl⟩
    go_wp2
    go_ret
    exact ⟨rfl, Below.refl _ _⟩
  | true =>
    rw [h] at hs
    have HS := Lib.hid hs
    rw [Bool.and_eq_true, decide_eq_true_eq] at h
    have hr := rRight hF v l w hv (by omega) (fun p hp => by have := smallP_names h.2 p hp; omega)
    obtain ⟨R, hR⟩ : ∃ R, R = right F l := ⟨_, rfl⟩
    rw [← hR] at hr ⊢
    have HR := Lib.hid hr
    clear hs h hv hr hR
    by_cases h0 : R = 0
    · subst h0
      go_enter Tryd.func14, Tryd.ntmps14
      go_wp2_with fail
      refine HS.out.mono ?_
      rintro e w1 ⟨rfl, rfl⟩
      go_wp2_with fail
      refine HR.out.mono ?_
      rintro e w2 ⟨rfl, b2⟩
      go_wp2
      go_ret
      exact ⟨rfl, b2⟩
    · have h0' : (R == 0) = false := by simpa using h0
      rw [decide_eq_false h0]
      go_enter Tryd.func14, Tryd.ntmps14
      go_wp2_with fail
      refine HS.out.mono ?_
      rintro e w1 ⟨rfl, rfl⟩
      go_wp2_with fail
      refine HR.out.mono ?_
      rintro e w2 ⟨rfl, b2⟩
      go_wp2
      go_ret
      exact ⟨rfl, b2⟩

/-- The value is a slice whose cells hold these numbers. -/
def Ints (w : World) (v : Value) (xs : List Int) : Prop :=
  ∃ (a : Option Addr) (c : Nat), v = .slice a xs.length c ∧ xs.length ≤ c ∧
    (xs = [] ∨ ∃ b o, a = some ⟨b, o, none⟩ ∧ b < w.heap.size ∧ ∀ j x, xs[j]? = some x → w.cell? ⟨b, o + j, none⟩ = some (.int .i64 x))
theorem Ints.below {w w' : World} {v : Value} {xs : List Int} (h : Ints w v xs) {B : Nat} (hb : Below B w w') (hB : w.heap.size ≤ B) : Ints w' v xs := by
  obtain ⟨a, c, rfl, hc, h⟩ := h
  refine ⟨a, c, rfl, hc, ?_⟩
  rcases h with h | ⟨b, o, ha, hlt, hx⟩
  · exact .inl h
  · exact .inr ⟨b, o, ha, Nat.lt_of_lt_of_le hlt hb.size, fun j x hj => (hb.cell (p := ⟨b, o + j, none⟩) (by show b < B; omega)).trans (hx j x hj)⟩

set_option maxRecDepth 100000 in
set_option maxHeartbeats 1000000 in
theorem rSameInts (va vb : Value) (xs : List Int) (w : World) (ha : Ints w va xs) (hb : Ints w vb xs) (h40 : xs.length ≤ 1000000) :
    Calls Tryd.prog 18 #[va, vb] w fun e w' => e = .returned (.bool true) ∧ Dr w w' := by
  obtain ⟨pa, ca, rfl, hca, hcellsa⟩ := ha
  obtain ⟨pb, cb, rfl, hcb, hcellsb⟩ := hb
  obtain ⟨n, hnn⟩ : ∃ n, n = xs.length := ⟨_, rfl⟩
  rw [← hnn] at h40 hca hcb ⊢
  have HN := Lib.hid hnn
  have HA := Lib.hid hcellsa
  have HB := Lib.hid hcellsb
  clear hnn hcellsa hcellsb
  go_enter Tryd.func18, Tryd.ntmps18
  go_wp2
  go_loopw [5] (fun i wr => ∃ k : Nat, i = .int .i64 k ∧ k ≤ n ∧ Hid (Dr w wr)) (fun i _ => n - (intOf i).toNat)
  case atStart => exact ⟨0, rfl, by omega, Lib.hid (Dr.refl _)⟩
  case round =>
    obtain ⟨k, rfl, hk, HD⟩ := hrel
    by_cases hlt : k < n
    · have hltz : (k : Int) < (n : Int) := by omega
      obtain ⟨x, hx⟩ : ∃ x, xs[k]? = some x := ⟨_, List.getElem?_eq_getElem (by have := HN.out; omega)⟩
      rcases HA.out with h0 | ⟨b, o, rfl, hb1, hcells1⟩
      · rw [h0] at hx; cases hx
      rcases HB.out with h0 | ⟨b', o', rfl, hb2, hcells2⟩
      · rw [h0] at hx; cases hx
      have hc1 : wr.cell? ⟨b, o + k, none⟩ = some (.int .i64 x) := ((HD.out.below w.heap.size).cell (p := ⟨b, o + k, none⟩) hb1).trans (hcells1 k x hx)
      have hc2 : wr.cell? ⟨b', o' + k, none⟩ = some (.int .i64 x) := ((HD.out.below w.heap.size).cell (p := ⟨b', o' + k, none⟩) hb2).trans (hcells2 k x hx)
      have HD2 : Hid (Dr w wr.drew) := Lib.hid HD.out.drew
      clear hcells1 hcells2 hx HD
      go_wp2_with fail
      go_region
      all_goals go_wp2
      go_roundw
      case rel => exact ⟨k + 1, by go_num, by omega, HD2⟩
      case measure => simp [intOf]; omega
    · have hltz : ¬ (k : Int) < (n : Int) := by omega
      go_wp2
      go_ret
      exact ⟨rfl, HD.out⟩

set_option maxRecDepth 100000 in
set_option maxHeartbeats 1000000 in
theorem rSameP (va vb : Value) (xs : List Pat) (w : World) (ha : Pats w va xs) (hb : Pats w vb xs) (h40 : xs.length ≤ 1000000) :
    Calls Tryd.prog 17 #[va, vb] w fun e w' => e = .returned (.bool true) ∧ Dr w w' := by
  obtain ⟨pa, ca, rfl, hca, hcellsa⟩ := ha
  obtain ⟨pb, cb, rfl, hcb, hcellsb⟩ := hb
  obtain ⟨n, hnn⟩ : ∃ n, n = xs.length := ⟨_, rfl⟩
  rw [← hnn] at h40 hca hcb ⊢
  have HN := Lib.hid hnn
  have HA := Lib.hid hcellsa
  have HB := Lib.hid hcellsb
  clear hnn hcellsa hcellsb
  go_enter Tryd.func17, Tryd.ntmps17
  go_wp2
  go_loopw [5] (fun i wr => ∃ k : Nat, i = .int .i64 k ∧ k ≤ n ∧ Hid (Dr w wr)) (fun i _ => n - (intOf i).toNat)
  case atStart => exact ⟨0, rfl, by omega, Lib.hid (Dr.refl _)⟩
  case round =>
    obtain ⟨k, rfl, hk, HD⟩ := hrel
    by_cases hlt : k < n
    · have hltz : (k : Int) < (n : Int) := by omega
      obtain ⟨x, hx⟩ : ∃ x, xs[k]? = some x := ⟨_, List.getElem?_eq_getElem (by have := HN.out; omega)⟩
      rcases HA.out with h0 | ⟨b, o, rfl, hb1, hcells1⟩
      · rw [h0] at hx; cases hx
      rcases HB.out with h0 | ⟨b', o', rfl, hb2, hcells2⟩
      · rw [h0] at hx; cases hx
      obtain ⟨q0, q1, q2, q3, q4, q5⟩ := (six_of (hcells1 k x hx)).below (HD.out.below w.heap.size) hb1
      obtain ⟨r0, r1, r2, r3, r4, r5⟩ := (six_of (hcells2 k x hx)).below (HD.out.below w.heap.size) hb2
      obtain ⟨id, kind, branch, till, stop, name⟩ := x
      simp only at q0 q1 q2 q3 q4 q5 r0 r1 r2 r3 r4 r5
      have hxx : (name.toList == name.toList) = true := by simp
      have HD2 : Hid (Dr w wr.drew) := Lib.hid HD.out.drew
      clear hcells1 hcells2 hx HD
      go_wp2_with fail
      go_region
      all_goals go_wp2
      go_roundw
      case rel => exact ⟨k + 1, by go_num, by omega, HD2⟩
      case measure => simp [intOf]; omega
    · have hltz : ¬ (k : Int) < (n : Int) := by omega
      go_wp2
      go_ret
      exact ⟨rfl, HD.out⟩
end Go.Proofs.YtlpeppigebbfkaaDoor
