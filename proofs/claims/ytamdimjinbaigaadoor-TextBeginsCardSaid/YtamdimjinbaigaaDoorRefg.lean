/- The walk of the reference's Texts (layer 1): two lists of strings are equal. -/
import Derived.Test.YtamdimjinbaigaaDoorReff
import Derived.Deep.QuietTactic
import Derived.BigQuiet
namespace Go.Proofs.YtamdimjinbaigaaDoor
open Go Go.RowKit

theorem drew_Dr (w : World) (n : Nat) : Dr w (w.drewN n) := ⟨n, rfl⟩

set_option maxRecDepth 100000 in
set_option maxHeartbeats 1000000 in
theorem rTexts (xs ys : List ByteArray) (u v : Value) (w : World) (hu : Strs w u xs) (hv : Strs w v ys) (hn : xs.length ≤ 4000000000) :
    Calls Tryd.prog 18 #[u, v] w fun e w' => e = .returned (.bool (decide (xs = ys))) ∧ Dr w w' := by
  obtain ⟨a1, c1, rfl, hc1, hx1⟩ := hu
  obtain ⟨a2, c2, rfl, hc2, hx2⟩ := hv
  by_cases hlen : xs.length = ys.length
  · have e1 : (((xs.length : Nat) : Int) != ((ys.length : Nat) : Int)) = false := by simp [hlen]
    obtain ⟨n, hn1⟩ : ∃ n, n = xs.length := ⟨_, rfl⟩
    obtain ⟨A, hA⟩ : ∃ A, A = decide (xs = ys) := ⟨_, rfl⟩
    rw [← hA]
    rw [← hlen, ← hn1] at hc2 ⊢
    rw [← hn1] at hc1 hn
    have HN1 := Lib.hid hn1
    have HN2 := Lib.hid (hn1.trans hlen)
    have HA := Lib.hid hA
    have HX1 := Lib.hid hx1
    have HX2 := Lib.hid hx2
    clear hn1 hlen hA hx1 hx2 e1
    go_enter Tryd.func18, Tryd.ntmps18
    go_wp2
    go_loopw [5] (fun i wr => ∃ (k : Nat), i = .int .i64 k ∧ k ≤ n ∧ Hid (xs.take k = ys.take k) ∧ Dr w wr) (fun i _ => n - (intOf i).toNat)
    case atStart => exact ⟨0, rfl, by omega, Lib.hid rfl, Dr.refl _⟩
    case round =>
      obtain ⟨k, rfl, hk, HT, hd⟩ := hrel
      by_cases hlt : k < n
      · obtain ⟨x, hx⟩ : ∃ x, xs[k]? = some x := ⟨_, List.getElem?_eq_getElem (by have := HN1.out; omega)⟩
        obtain ⟨y, hy⟩ : ∃ y, ys[k]? = some y := ⟨_, List.getElem?_eq_getElem (by have := HN2.out; omega)⟩
        rcases HX1.out with h0 | ⟨b1, o1, rfl, hb1, hcs1⟩
        · rw [h0] at hx; cases hx
        rcases HX2.out with h0 | ⟨b2, o2, rfl, hb2, hcs2⟩
        · rw [h0] at hy; cases hy
        have f1 : wr.cell? ⟨b1, o1 + k, none⟩ = some (.string x) := ((hd.below w.heap.size).cell (p := ⟨b1, o1 + k, none⟩) hb1).trans (hcs1 k x hx)
        have f2 : wr.cell? ⟨b2, o2 + k, none⟩ = some (.string y) := ((hd.below w.heap.size).cell (p := ⟨b2, o2 + k, none⟩) hb2).trans (hcs2 k y hy)
        have hX := Lib.hid hx
        have hY := Lib.hid hy
        clear hcs1 hcs2 hx hy
        by_cases hxy : x = y
        · subst hxy
          go_wp2
          go_quiet (fail)
          go_wp2
          go_roundw
          case rel => exact ⟨k + 1, by go_num, by omega, Lib.hid (by rw [List.take_add_one, List.take_add_one, HT.out, hX.out, hY.out]), hd.trans (drew_Dr _ _)⟩
          case measure => simp [intOf]; omega
        · have hb : (x.toList == y.toList) = false := by
            rw [beq_eq_false_iff_ne]
            intro e
            rw [ByteArray.toList_eq, ByteArray.toList_eq] at e
            exact hxy (ba_ext e)
          have hA2 : Hid (A = false) := Lib.hid (by
            rw [HA.out, decide_eq_false_iff_not]
            intro e
            have := hX.out
            rw [e, hY.out] at this
            exact hxy (Option.some.inj this).symm)
          clear hxy
          go_wp2
          go_quiet (fail)
          go_wp2
          go_ret
          exact ⟨by rw [hA2.out]; rfl, hd.trans (drew_Dr _ _)⟩
      · go_wp2
        go_ret
        have : A = true := by
          rw [HA.out, decide_eq_true_eq]
          have e := HT.out
          rw [List.take_of_length_le (by have := HN1.out; omega), List.take_of_length_le (by have := HN2.out; omega)] at e
          exact e
        exact ⟨by rw [this]; rfl, hd⟩
  · have hA2 : decide (xs = ys) = false := by
      rw [decide_eq_false_iff_not]; intro e; exact hlen (by rw [e])
    rw [hA2]
    have hne : ¬ ((xs.length : Nat) : Int) = ((ys.length : Nat) : Int) := by omega
    clear hA2
    go_enter Tryd.func18, Tryd.ntmps18
    go_wp2
    go_ret
    exact ⟨rfl, Dr.refl _⟩
end Go.Proofs.YtamdimjinbaigaaDoor
