/- The law MergeKeeps walked (layer 16). -/
import Derived.Test.YtcdlgmncalmihaaDoorGan
namespace Go.Proofs.YtcdlgmncalmihaaDoor
open Go Go.RowKit

set_option maxRecDepth 100000 in
set_option maxHeartbeats 8000000 in
theorem law_MergeKeeps (vl : Value) (l : List (ByteArray × Int)) (tag : ByteArray) (w : World) (hE : Env w) (hv : Keeps w vl l) (_ : tag.size ≤ 9223372036854775807) :
    Calls Tryd.prog 3 #[vl, .string tag] w fun e w' => e = .returned (.bool true) ∧ Below w.heap.size w w' := by
  have HAL : Hid (∀ W, Below w.heap.size w W → Calls Tryd.prog 7 #[] W fun e w' => e = .returned (.bool true) ∧ Below W.heap.size W w') := Lib.hid (fun W h => alive_any W (hE.below h))
  have HPH : Hid (∀ W, Below w.heap.size w W → l.length ≤ 40 → Calls Tryd.prog 10 #[vl, .string tag] W fun e w' => e = .returned (.int .i64 (howL l tag)) ∧ Below W.heap.size W w') := Lib.hid (fun W h hl => pHow vl l tag W (Rows.below hv h (Nat.le_refl _)) (by omega))
  have HRH : Hid (∀ W, Below w.heap.size w W → l.length ≤ 40 → Calls Tryd.prog 11 #[vl, .string tag] W fun e w' => e = .returned (.int .i64 (howL l tag)) ∧ Below W.heap.size W w') := Lib.hid (fun W h hl => rHow vl l tag W (Rows.below hv h (Nat.le_refl _)) (by omega))
  obtain ⟨a, c, rfl, hc⟩ := hv.shape
  obtain ⟨n, hn⟩ : ∃ n, n = l.length := ⟨_, rfl⟩
  rw [← hn] at hc HPH HRH ⊢
  obtain ⟨H, hH⟩ : ∃ H, H = howL l tag := ⟨_, rfl⟩
  rw [← hH] at HPH HRH
  clear hv hn hH hE
  by_cases h1 : 40 < n
  · have h1z : (40 : Int) < (n : Int) := by omega
    go_enter Tryd.func3, Tryd.ntmps3
    go_wp2_with fail
    refine (HAL.out w (Below.refl _ _)).mono ?_
    rintro e w1 ⟨rfl, b1⟩
    have HB1 := Lib.hid b1
    clear b1
    go_wp2
    go_ret
    exact ⟨rfl, HB1.out⟩
  · have h1z : ¬ (40 : Int) < (n : Int) := by omega
    by_cases h2 : 100 < tag.size
    · have h2z : (100 : Int) < (tag.size : Int) := by omega
      go_enter Tryd.func3, Tryd.ntmps3
      go_wp2_with fail
      refine (HAL.out w (Below.refl _ _)).mono ?_
      rintro e w1 ⟨rfl, b1⟩
      have HB1 := Lib.hid b1
      clear b1
      go_wp2
      go_ret
      exact ⟨rfl, HB1.out⟩
    · have h2z : ¬ (100 : Int) < (tag.size : Int) := by omega
      have HPH2 : Hid (∀ W, Below w.heap.size w W → Calls Tryd.prog 10 #[.slice a n c, .string tag] W fun e w' => e = .returned (.int .i64 H) ∧ Below W.heap.size W w') := Lib.hid (fun W h => HPH.out W h (by omega))
      have HRH2 : Hid (∀ W, Below w.heap.size w W → Calls Tryd.prog 11 #[.slice a n c, .string tag] W fun e w' => e = .returned (.int .i64 H) ∧ Below W.heap.size W w') := Lib.hid (fun W h => HRH.out W h (by omega))
      clear HPH HRH h1 h2
      go_enter Tryd.func3, Tryd.ntmps3
      go_wp2_with fail
      refine (pStandard w).mono ?_
      rintro e w1 ⟨vs, rfl, hk1, b1⟩
      have HK1 := Lib.hid hk1
      have HB1 := Lib.hid b1
      clear hk1 b1
      go_wp2_with fail
      refine (rStandard w1).mono ?_
      rintro e w2 ⟨vt, rfl, hk2, b2⟩
      have hk1 : Keeps w2 vs stdK := Rows.below HK1.out b2 (Nat.le_refl _)
      have HB2 := Lib.hid (HB1.out.bt b2)
      clear b2 HK1 HB1
      have HKS := Lib.hid hk1
      have HKT := Lib.hid hk2
      obtain ⟨as_, cs, hvs, hcs⟩ := hk1.shape
      obtain ⟨at_, ct, hvt, hct⟩ := hk2.shape
      rw [std_len] at hvs hvt hcs hct
      subst hvs
      subst hvt
      obtain ⟨bs_, os, rfl, hbs, hxs⟩ : ∃ b o, as_ = some ⟨b, o, none⟩ ∧ b < w2.heap.size ∧ ∀ (j : Nat) (p : ByteArray × Int), stdK[j]? = some p → w2.cell? ⟨b, o + j * 2, none⟩ = some (.string p.1) ∧ w2.cell? ⟨b, o + j * 2 + 1, none⟩ = some (.int .i64 p.2) := by
        obtain ⟨a', c', he, -, hx⟩ := hk1
        cases he
        rcases hx with h0 | ⟨b, o, rfl, hb, hcl⟩
        · cases h0
        · exact ⟨b, o, rfl, hb, fun j p hj => keep_cells (hcl j p hj)⟩
      obtain ⟨bt_, ot, rfl, hbt, hxt⟩ : ∃ b o, at_ = some ⟨b, o, none⟩ ∧ b < w2.heap.size ∧ ∀ (j : Nat) (p : ByteArray × Int), stdK[j]? = some p → w2.cell? ⟨b, o + j * 2, none⟩ = some (.string p.1) ∧ w2.cell? ⟨b, o + j * 2 + 1, none⟩ = some (.int .i64 p.2) := by
        obtain ⟨a', c', he, -, hx⟩ := hk2
        cases he
        rcases hx with h0 | ⟨b, o, rfl, hb, hcl⟩
        · cases h0
        · exact ⟨b, o, rfl, hb, fun j p hj => keep_cells (hcl j p hj)⟩
      have HXS := Lib.hid hxs
      have HXT := Lib.hid hxt
      clear hk1 hk2 hxs hxt
      go_wp2
      go_loopw [7] (fun vk wr => ∃ k : Nat, vk = .int .i64 k ∧ k ≤ 10 ∧ Hid (Below w2.heap.size w2 wr)) (fun vk _ => 10 - (intOf vk).toNat)
      case atStart => exact ⟨0, rfl, by omega, Lib.hid (Below.refl _ _)⟩
      case round =>
        obtain ⟨k, rfl, hk, HBR⟩ := hrel
        by_cases hlt : k < 10
        · have hltz : (k : Int) < 10 := by omega
          obtain ⟨p, hp⟩ : ∃ p, stdK[k]? = some p := ⟨_, List.getElem?_eq_getElem (by rw [std_len]; exact hlt)⟩
          obtain ⟨s0, s1⟩ := HXS.out k p hp
          obtain ⟨t0, t1⟩ := HXT.out k p hp
          obtain ⟨x, i⟩ := p
          have s0 := (HBR.out.cell (p := ⟨bs_, os + k * 2, none⟩) hbs).trans s0
          have s1 := (HBR.out.cell (p := ⟨bs_, os + k * 2 + 1, none⟩) hbs).trans s1
          have t0 := (HBR.out.cell (p := ⟨bt_, ot + k * 2, none⟩) hbt).trans t0
          have t1 := (HBR.out.cell (p := ⟨bt_, ot + k * 2 + 1, none⟩) hbt).trans t1
          have HBD := Lib.hid HBR.out.drew
          clear hp
          go_wp2_with fail
          go_region
          all_goals go_wp2
          all_goals go_roundw
          all_goals first
            | exact ⟨k + 1, by go_num, by omega, HBD⟩
            | (simp [intOf]; omega)
        · have hltz : ¬ (k : Int) < 10 := by omega
          have HBW := Lib.hid (HB2.out.bt HBR.out)
          have HKS2 : Hid (Keeps wr (.slice (some ⟨bs_, os, none⟩) 10 cs) stdK) := Lib.hid (Rows.below HKS.out HBR.out (Nat.le_refl _))
          clear HKS HKT HXS HXT HBR HB2 hlt hk
          go_wp2_with fail
          refine (HAL.out wr HBW.out).mono ?_
          rintro e w3 ⟨rfl, b3⟩
          have HB3 := Lib.hid (HBW.out.bt b3)
          have HK3 : Hid (Keeps w3 (.slice (some ⟨bs_, os, none⟩) 10 cs) stdK) := Lib.hid (Rows.below HKS2.out b3 (Nat.le_refl _))
          clear b3 HBW HKS2
          go_wp2_with fail
          refine (HPH2.out w3 HB3.out).mono ?_
          rintro e w4 ⟨rfl, b4⟩
          have HB4 := Lib.hid (HB3.out.bt b4)
          have HK4 : Hid (Keeps w4 (.slice (some ⟨bs_, os, none⟩) 10 cs) stdK) := Lib.hid (Rows.below HK3.out b4 (Nat.le_refl _))
          clear b4 HB3 HK3
          go_wp2_with fail
          refine (HRH2.out w4 HB4.out).mono ?_
          rintro e w5 ⟨rfl, b5⟩
          have HB5 := Lib.hid (HB4.out.bt b5)
          have HK5 : Hid (Keeps w5 (.slice (some ⟨bs_, os, none⟩) 10 cs) stdK) := Lib.hid (Rows.below HK4.out b5 (Nat.le_refl _))
          clear b5 HB4 HK4
          go_wp2_with fail
          refine (pHow _ stdK tag w5 HK5.out (by rw [std_len]; omega)).mono ?_
          rintro e w6 ⟨rfl, b6⟩
          have HB6 := Lib.hid (HB5.out.bt b6)
          have HK6 : Hid (Keeps w6 (.slice (some ⟨bs_, os, none⟩) 10 cs) stdK) := Lib.hid (Rows.below HK5.out b6 (Nat.le_refl _))
          clear b6 HB5 HK5
          go_wp2_with fail
          refine (rHow _ stdK tag w6 HK6.out (by rw [std_len]; omega)).mono ?_
          rintro e w7 ⟨rfl, b7⟩
          have HB7 := Lib.hid (HB6.out.bt b7)
          clear b7 HB6 HK6
          generalize howL stdK tag = Z
          go_wp2
          go_ret
          exact ⟨rfl, HB7.out⟩
end Go.Proofs.YtcdlgmncalmihaaDoor
