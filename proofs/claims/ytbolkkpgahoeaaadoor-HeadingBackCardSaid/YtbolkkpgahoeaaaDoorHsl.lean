/- The walks of SameList (for equal lists), text and short (layer 12). -/
import Derived.Test.YtbolkkpgahoeaaaDoorHrs
import Derived.Test.YtbolkkpgahoeaaaDoorRvl
namespace Go.Proofs.YtbolkkpgahoeaaaDoor
open Go Go.RowKit

set_option maxRecDepth 100000 in
set_option maxHeartbeats 1000000 in
theorem rSameS (va vb : Value) (xs : List ByteArray) (w : World) (ha : Strs w va xs) (hb : Strs w vb xs) (h40 : xs.length ≤ 1000000) :
    Calls Tryd.prog 13 #[va, vb] w fun e w' => e = .returned (.bool true) ∧ Dr w w' := by
  obtain ⟨pa, ca, rfl, hca, hcellsa⟩ := ha
  obtain ⟨pb, cb, rfl, hcb, hcellsb⟩ := hb
  obtain ⟨n, hnn⟩ : ∃ n, n = xs.length := ⟨_, rfl⟩
  rw [← hnn] at h40 hca hcb ⊢
  have HN := Lib.hid hnn
  have HA := Lib.hid hcellsa
  have HB := Lib.hid hcellsb
  clear hnn hcellsa hcellsb
  go_enter Tryd.func13, Tryd.ntmps13
  go_wp2
  go_loopw [5] (fun i wr => ∃ k : Nat, i = .int .i64 k ∧ k ≤ n ∧ Hid (Dr w wr)) (fun i _ => n - (intOf i).toNat)
  case atStart => exact ⟨0, rfl, by omega, Lib.hid (Dr.refl _)⟩
  case round =>
    obtain ⟨k, rfl, hk, HD⟩ := hrel
    by_cases hlt : k < n
    · have hltz : (k : Int) < (n : Int) := by omega
      obtain ⟨x, hx⟩ : ∃ x, xs[k]? = some x := ⟨_, List.getElem?_eq_getElem (by have := HN.out; omega)⟩
      rcases HA.out with h0 | ⟨b, o, rfl, hb1, hcells1⟩
      · rw [h0] at hx; cases hx
      rcases HB.out with h0 | ⟨b', o', rfl, hb2, hcells2⟩
      · rw [h0] at hx; cases hx
      have hc1 : wr.cell? ⟨b, o + k, none⟩ = some (.string x) := ((HD.out.below w.heap.size).cell (p := ⟨b, o + k, none⟩) hb1).trans (hcells1 k x hx)
      have hc2 : wr.cell? ⟨b', o' + k, none⟩ = some (.string x) := ((HD.out.below w.heap.size).cell (p := ⟨b', o' + k, none⟩) hb2).trans (hcells2 k x hx)
      have HD2 : Hid (Dr w wr.drew) := Lib.hid HD.out.drew
      clear hcells1 hcells2 hx HD
      go_wp2_with fail
      go_region
      all_goals go_wp2
      go_roundw
      case rel => exact ⟨k + 1, by go_num, by omega, HD2⟩
      case measure => simp [intOf]; omega
    · have hltz : ¬ (k : Int) < (n : Int) := by omega
      go_wp2
      go_ret
      exact ⟨rfl, HD.out⟩

set_option maxRecDepth 100000 in
set_option maxHeartbeats 1000000 in
theorem lText (s : ByteArray) (w : World) (hs : s.size ≤ 9223372036854775807) :
    Calls Tryd.prog 12 #[.string s] w fun e w' => e = .returned (.bool (decide (s.size ≤ 1000) && isText s.data.toList)) ∧ Dr w w' := by
  by_cases h : s.size ≤ 1000
  · have hz : ((s.size : Nat) : Int) ≤ 1000 := by omega
    have hv := rValid s w (by omega)
    rw [decide_eq_true h, Bool.true_and]
    obtain ⟨T, hT⟩ : ∃ T, T = isText s.data.toList := ⟨_, rfl⟩
    rw [← hT] at hv ⊢
    have HV := Lib.hid hv
    clear hv hT h
    go_enter Tryd.func12, Tryd.ntmps12
    go_wp2_with fail
    refine HV.out.mono ?_
    rintro e w1 ⟨rfl, d1⟩
    go_wp2
    go_ret
    exact ⟨rfl, d1⟩
  · have hz : (1000 : Int) < ((s.size : Nat) : Int) := by omega
    rw [decide_eq_false h, Bool.false_and]
    clear h
    go_enter Tryd.func12, Tryd.ntmps12
    go_wp2
    go_ret
    exact ⟨rfl, Dr.refl _⟩

def shortS (xs : List ByteArray) : Bool := xs.all fun x => decide (x.size ≤ 1000)
theorem short_step (xs : List ByteArray) (k : Nat) (x : ByteArray) (h : xs[k]? = some x) : shortS (xs.drop k) = (decide (x.size ≤ 1000) && shortS (xs.drop (k + 1))) := by
  obtain ⟨h', rfl⟩ := List.getElem?_eq_some_iff.1 h
  rw [List.drop_eq_getElem_cons h']
  rfl
set_option maxRecDepth 100000 in
set_option maxHeartbeats 1000000 in
theorem lShort (v : Value) (xs : List ByteArray) (w : World) (hv : Strs w v xs) (hl : xs.length ≤ 9223372036854775807) :
    Calls Tryd.prog 20 #[v] w fun e w' => e = .returned (.bool (decide (xs.length ≤ 60) && shortS xs)) ∧ w' = w := by
  obtain ⟨pa, pc, rfl, hpc, hcells⟩ := hv
  obtain ⟨A, hA⟩ : ∃ A, A = shortS xs := ⟨_, rfl⟩
  rw [← hA]
  obtain ⟨n, hnn⟩ : ∃ n, n = xs.length := ⟨_, rfl⟩
  rw [← hnn] at hl hpc ⊢
  have HN := Lib.hid hnn
  have HC := Lib.hid hcells
  have HA := Lib.hid hA
  clear hnn hcells hA
  by_cases h60 : n ≤ 60
  · have hz : (n : Int) ≤ 60 := by omega
    rw [decide_eq_true h60, Bool.true_and]
    go_enter Tryd.func20, Tryd.ntmps20
    go_wp2
    go_loop [3] (fun iv => ∃ k : Nat, iv = .int .i64 k ∧ k ≤ n ∧ Hid (A = shortS (xs.drop k))) (fun iv => n - (intOf iv).toNat)
    case atStart => exact ⟨0, rfl, by omega, Lib.hid HA.out⟩
    case round =>
      obtain ⟨k, rfl, hk, HK⟩ := hrel
      by_cases hlt : k < n
      · have hltz : (k : Int) < (n : Int) := by omega
        obtain ⟨x, hx⟩ : ∃ x, xs[k]? = some x := ⟨_, List.getElem?_eq_getElem (by have := HN.out; omega)⟩
        rcases HC.out with h0 | ⟨b, o, rfl, hbl, hcl⟩
        · rw [h0] at hx; cases hx
        have hc := hcl k _ hx
        have hst : A = (decide (x.size ≤ 1000) && shortS (xs.drop (k + 1))) := by
          rw [HK.out]; exact short_step xs k x hx
        by_cases h1 : x.size ≤ 1000
        · have HK2 : Hid (A = shortS (xs.drop (k + 1))) := Lib.hid (by rw [hst, decide_eq_true h1, Bool.true_and])
          have h1z : ((x.size : Nat) : Int) ≤ 1000 := by omega
          clear hst hx hcl HK
          go_wp2
          go_round
          case rel => exact ⟨k + 1, by go_num, by omega, HK2⟩
          case measure => simp [intOf]; omega
        · have HF : Hid (A = false) := Lib.hid (by rw [hst, decide_eq_false h1, Bool.false_and])
          have h1z : (1000 : Int) < ((x.size : Nat) : Int) := by omega
          clear hst hx hcl HK h1
          go_wp2
          go_ret
          exact ⟨by rw [HF.out]; rfl, rfl⟩
      · have hltz : ¬ (k : Int) < (n : Int) := by omega
        have HT : Hid (A = true) := Lib.hid (by rw [HK.out, List.drop_eq_nil_of_le (by have := HN.out; omega)]; rfl)
        go_wp2
        go_ret
        exact ⟨by rw [HT.out]; rfl, rfl⟩
  · have hz : (60 : Int) < (n : Int) := by omega
    rw [decide_eq_false h60, Bool.false_and]
    clear h60
    go_enter Tryd.func20, Tryd.ntmps20
    go_wp2
    go_ret
    exact ⟨rfl, rfl⟩
end Go.Proofs.YtbolkkpgahoeaaaDoor
