/- The rules of merging: the walks of How and Standard on both sides (layer 16). -/
import Derived.Test.YtcdlgmncalmihaaDoorGsl
namespace Go.Proofs.YtcdlgmncalmihaaDoor
open Go Go.RowKit

/-- What is kept of a tag. -/
def howL : List (ByteArray × Int) → ByteArray → Int
  | [], _ => 1
  | k :: l, t => if k.1 = t then k.2 else howL l t
def stdT : List ByteArray := [⟨#[49, 48, 48]⟩, ⟨#[49, 49, 48]⟩, ⟨#[50, 52, 53]⟩, ⟨#[50, 53, 48]⟩, ⟨#[50, 54, 48]⟩, ⟨#[50, 54, 52]⟩, ⟨#[51, 48, 48]⟩, ⟨#[52, 57, 48]⟩, ⟨#[56, 51, 48]⟩]
def stdL : List (ByteArray × Int) := stdT.map fun t => (t, 2)
def stdK : List (ByteArray × Int) := stdL ++ [(⟨#[56, 53, 54]⟩, 0)]
abbrev Keeps (w : World) (v : Value) (l : List (ByteArray × Int)) : Prop := Rows keepE 2 w v l
theorem keep_cells {w : World} {b o j : Nat} {k : ByteArray × Int} (h : ∀ i u, (keepE k)[i]? = some u → w.cell? ⟨b, o + j * 2 + i, none⟩ = some u) : w.cell? ⟨b, o + j * 2, none⟩ = some (.string k.1) ∧ w.cell? ⟨b, o + j * 2 + 1, none⟩ = some (.int .i64 k.2) := ⟨h 0 _ rfl, h 1 _ rfl⟩


set_option maxRecDepth 100000 in
set_option maxHeartbeats 2000000 in
theorem pHow (vk : Value) (l : List (ByteArray × Int)) (t : ByteArray) (w : World) (hv : Keeps w vk l) (hl : l.length ≤ 1000000) :
    Calls Tryd.prog 10 #[vk, .string t] w fun e w' => e = .returned (.int .i64 (howL l t)) ∧ Below w.heap.size w w' := by
  obtain ⟨a, c, rfl, hc, hcells⟩ := hv
  obtain ⟨R, hR⟩ : ∃ R, R = howL l t := ⟨_, rfl⟩
  rw [← hR]
  obtain ⟨n, hnn⟩ : ∃ n, n = l.length := ⟨_, rfl⟩
  rw [← hnn] at hc hl ⊢
  have HR := Lib.hid hR
  have HN := Lib.hid hnn
  have HC := Lib.hid hcells
  clear hnn hcells hR
  go_enter Tryd.func10, Tryd.ntmps10
  go_wp2
  go_loopw [9] (fun vk wr => ∃ k : Nat, vk = .int .i64 k ∧ k ≤ n ∧ Hid (R = howL (l.drop k) t) ∧ Hid (Below w.heap.size w wr)) (fun vk _ => n - (intOf vk).toNat)
  case atStart => exact ⟨0, rfl, by omega, Lib.hid (by rw [HR.out, List.drop_zero]), Lib.hid (Below.refl _ _)⟩
  case round =>
    obtain ⟨k, rfl, hk, HK, HB⟩ := hrel
    by_cases hlt : k < n
    · have hltz : (k : Int) < (n : Int) := by omega
      obtain ⟨x, hx⟩ : ∃ x, l[k]? = some x := ⟨_, List.getElem?_eq_getElem (by have := HN.out; omega)⟩
      rcases HC.out with h0 | ⟨b, o, rfl, hbl, hcl⟩
      · rw [h0] at hx; cases hx
      obtain ⟨p0, p1⟩ := keep_cells (hcl k x hx)
      replace p0 := (HB.out.cell (p := ⟨b, o + k * 2, none⟩) hbl).trans p0
      replace p1 := (HB.out.cell (p := ⟨b, o + k * 2 + 1, none⟩) hbl).trans p1
      have hst := HK.out
      rw [drop_step hx, howL] at hst
      have d2 := bytes_deq x.1 t
      obtain ⟨kt, kh⟩ := x
      simp only at p0 p1 hst d2
      have HBA : Hid (Below w.heap.size w (wr.alloc (.cells #[.string kt, .int .i64 kh] 26))) := Lib.hid (HB.out.alloc HB.out.size _)
      clear HK hx hcl HR
      by_cases ht : kt = t
      · subst ht
        rw [if_pos rfl] at hst
        rw [decide_eq_true rfl] at d2
        have HT := Lib.hid hst
        clear hst
        go_wp2
        go_ret
        exact ⟨by rw [HT.out]; rfl, HBA.out⟩
      · rw [if_neg ht] at hst
        rw [decide_eq_false ht] at d2
        have HT := Lib.hid hst
        clear hst ht
        go_wp2
        go_roundw
        case rel => exact ⟨k + 1, by go_num, by omega, HT, HBA⟩
        case measure => simp [intOf]; omega
    · have hltz : ¬ (k : Int) < (n : Int) := by omega
      have HT : Hid (R = 1) := Lib.hid (by rw [HK.out, List.drop_eq_nil_of_le (by have := HN.out; omega)]; rfl)
      clear HK HR
      go_wp2
      go_ret
      exact ⟨by rw [HT.out]; rfl, HB.out⟩


set_option maxRecDepth 100000 in
set_option maxHeartbeats 2000000 in
theorem rHow (vk : Value) (l : List (ByteArray × Int)) (t : ByteArray) (w : World) (hv : Keeps w vk l) (hl : l.length ≤ 1000000) :
    Calls Tryd.prog 11 #[vk, .string t] w fun e w' => e = .returned (.int .i64 (howL l t)) ∧ Below w.heap.size w w' := by
  obtain ⟨a, c, rfl, hc, hcells⟩ := hv
  obtain ⟨R, hR⟩ : ∃ R, R = howL l t := ⟨_, rfl⟩
  rw [← hR]
  obtain ⟨n, hnn⟩ : ∃ n, n = l.length := ⟨_, rfl⟩
  rw [← hnn] at hc hl ⊢
  have HR := Lib.hid hR
  have HN := Lib.hid hnn
  have HC := Lib.hid hcells
  clear hnn hcells hR
  go_enter Tryd.func11, Tryd.ntmps11
  go_wp2
  go_loopw [5] (fun vk wr => ∃ k : Nat, vk = .int .i64 k ∧ k ≤ n ∧ Hid (R = howL (l.drop k) t) ∧ Hid (Below w.heap.size w wr)) (fun vk _ => n - (intOf vk).toNat)
  case atStart => exact ⟨0, rfl, by omega, Lib.hid (by rw [HR.out, List.drop_zero]), Lib.hid (Below.refl _ _)⟩
  case round =>
    obtain ⟨k, rfl, hk, HK, HB⟩ := hrel
    by_cases hlt : k < n
    · have hltz : (k : Int) < (n : Int) := by omega
      obtain ⟨x, hx⟩ : ∃ x, l[k]? = some x := ⟨_, List.getElem?_eq_getElem (by have := HN.out; omega)⟩
      rcases HC.out with h0 | ⟨b, o, rfl, hbl, hcl⟩
      · rw [h0] at hx; cases hx
      obtain ⟨p0, p1⟩ := keep_cells (hcl k x hx)
      replace p0 := (HB.out.cell (p := ⟨b, o + k * 2, none⟩) hbl).trans p0
      replace p1 := (HB.out.cell (p := ⟨b, o + k * 2 + 1, none⟩) hbl).trans p1
      have hst := HK.out
      rw [drop_step hx, howL] at hst
      have d2 := bytes_deq x.1 t
      obtain ⟨kt, kh⟩ := x
      simp only at p0 p1 hst d2
      have HBA := HB
      clear HK hx hcl HR
      by_cases ht : kt = t
      · subst ht
        rw [if_pos rfl] at hst
        rw [decide_eq_true rfl] at d2
        have HT := Lib.hid hst
        clear hst
        go_wp2
        go_ret
        exact ⟨by rw [HT.out]; rfl, HBA.out⟩
      · rw [if_neg ht] at hst
        rw [decide_eq_false ht] at d2
        have HT := Lib.hid hst
        clear hst ht
        go_wp2
        go_roundw
        case rel => exact ⟨k + 1, by go_num, by omega, HT, HBA⟩
        case measure => simp [intOf]; omega
    · have hltz : ¬ (k : Int) < (n : Int) := by omega
      have HT : Hid (R = 1) := Lib.hid (by rw [HK.out, List.drop_eq_nil_of_le (by have := HN.out; omega)]; rfl)
      clear HK HR
      go_wp2
      go_ret
      exact ⟨by rw [HT.out]; rfl, HB.out⟩


set_option maxRecDepth 100000 in
set_option maxHeartbeats 4000000 in
theorem pStandard (w : World) : Calls Tryd.prog 8 #[] w fun e w' => ∃ v, e = .returned v ∧ Keeps w' v stdK ∧ Below w.heap.size w w' := by
  have CE : ∀ W, Below (w.alloc (.cells #[.string ⟨#[49, 48, 48]⟩, .string ⟨#[49, 49, 48]⟩, .string ⟨#[50, 52, 53]⟩, .string ⟨#[50, 53, 48]⟩, .string ⟨#[50, 54, 48]⟩, .string ⟨#[50, 54, 52]⟩, .string ⟨#[51, 48, 48]⟩, .string ⟨#[52, 57, 48]⟩, .string ⟨#[56, 51, 48]⟩] 9)).heap.size (w.alloc (.cells #[.string ⟨#[49, 48, 48]⟩, .string ⟨#[49, 49, 48]⟩, .string ⟨#[50, 52, 53]⟩, .string ⟨#[50, 53, 48]⟩, .string ⟨#[50, 54, 48]⟩, .string ⟨#[50, 54, 52]⟩, .string ⟨#[51, 48, 48]⟩, .string ⟨#[52, 57, 48]⟩, .string ⟨#[56, 51, 48]⟩] 9)) W → ∀ k x, stdT[k]? = some x → W.cell? ⟨w.heap.size, k, none⟩ = some (.string x) := fun W h k x hx => block_cells h k _ (by
    show ((stdT.map Value.string).toArray)[k]? = _
    rw [List.getElem?_toArray, List.getElem?_map, hx]; rfl)
  obtain ⟨B1, hB1⟩ : ∃ B1, B1 = (w.alloc (.cells #[.string ⟨#[49, 48, 48]⟩, .string ⟨#[49, 49, 48]⟩, .string ⟨#[50, 52, 53]⟩, .string ⟨#[50, 53, 48]⟩, .string ⟨#[50, 54, 48]⟩, .string ⟨#[50, 54, 52]⟩, .string ⟨#[51, 48, 48]⟩, .string ⟨#[52, 57, 48]⟩, .string ⟨#[56, 51, 48]⟩] 9)).heap.size := ⟨_, rfl⟩
  rw [← hB1] at CE
  have HCE := Lib.hid CE
  have HB0 : Hid (Below w.heap.size w (w.alloc (.cells #[.string ⟨#[49, 48, 48]⟩, .string ⟨#[49, 49, 48]⟩, .string ⟨#[50, 52, 53]⟩, .string ⟨#[50, 53, 48]⟩, .string ⟨#[50, 54, 48]⟩, .string ⟨#[50, 54, 52]⟩, .string ⟨#[51, 48, 48]⟩, .string ⟨#[52, 57, 48]⟩, .string ⟨#[56, 51, 48]⟩] 9))) := Lib.hid ((Below.refl _ _).alloc (Nat.le_refl _) _)
  have HBB : Hid (B1 = (w.alloc (.cells #[.string ⟨#[49, 48, 48]⟩, .string ⟨#[49, 49, 48]⟩, .string ⟨#[50, 52, 53]⟩, .string ⟨#[50, 53, 48]⟩, .string ⟨#[50, 54, 48]⟩, .string ⟨#[50, 54, 52]⟩, .string ⟨#[51, 48, 48]⟩, .string ⟨#[52, 57, 48]⟩, .string ⟨#[56, 51, 48]⟩] 9)).heap.size) := Lib.hid hB1
  have hl9 : stdT.length = 9 := rfl
  have HL9 := Lib.hid hl9
  clear CE hl9 hB1
  go_enter Tryd.func8, Tryd.ntmps8
  go_wp2
  go_loopw [1, 6] (fun vl vk wr => ∃ k : Nat, vk = .int .i64 k ∧ k ≤ 9 ∧ Hid (OwnK wr B1 vl (stdL.take k)) ∧ Hid (Below B1 (w.alloc (.cells #[.string ⟨#[49, 48, 48]⟩, .string ⟨#[49, 49, 48]⟩, .string ⟨#[50, 52, 53]⟩, .string ⟨#[50, 53, 48]⟩, .string ⟨#[50, 54, 48]⟩, .string ⟨#[50, 54, 52]⟩, .string ⟨#[51, 48, 48]⟩, .string ⟨#[52, 57, 48]⟩, .string ⟨#[56, 51, 48]⟩] 9)) wr)) (fun _ vk _ => 9 - (intOf vk).toNat)
  case atStart => exact ⟨0, rfl, by omega, Lib.hid (OwnE.nil keepE _ _ _), Lib.hid (Below.refl _ _)⟩
  case round =>
    obtain ⟨k, rfl, hk, HO, HB⟩ := hrel
    by_cases hlt : k < 9
    · have hltz : (k : Int) < 9 := by omega
      obtain ⟨x, hx⟩ : ∃ x, stdT[k]? = some x := ⟨_, List.getElem?_eq_getElem (by have := HL9.out; omega)⟩
      have hcell := HCE.out wr HB.out k x hx
      have HX : Hid (stdL[k]? = some (x, 2)) := Lib.hid (by unfold stdL; rw [List.getElem?_map, hx]; rfl)
      have HNW : Hid (∀ j u, (flatE keepE [(x, 2)])[j]? = some u → (wr.alloc (.cells #[.string x, .int .i64 2] 26)).cell? ((⟨wr.heap.size, 0, none⟩ : Addr).add j) = some u) := Lib.hid (cells_keep (new1_cell _ _ _ 0) (new1_cell _ _ _ 1))
      have HO1 : Hid (OwnK (wr.alloc (.cells #[.string x, .int .i64 2] 26)) B1 u1 (stdL.take k)) := Lib.hid (OwnE.below HO.out (Below.alloc (Below.refl wr.heap.size wr) (Nat.le_refl _) _) (Nat.le_refl _))
      have HB1 : Hid (Below B1 (w.alloc (.cells #[.string ⟨#[49, 48, 48]⟩, .string ⟨#[49, 49, 48]⟩, .string ⟨#[50, 52, 53]⟩, .string ⟨#[50, 53, 48]⟩, .string ⟨#[50, 54, 48]⟩, .string ⟨#[50, 54, 52]⟩, .string ⟨#[51, 48, 48]⟩, .string ⟨#[52, 57, 48]⟩, .string ⟨#[56, 51, 48]⟩] 9)) (wr.alloc (.cells #[.string x, .int .i64 2] 26))) := Lib.hid (HB.out.alloc (HBB.out ▸ HB.out.size) _)
      have HS1 : Hid ((stdL.take k).length + 1 ≤ 1000000) := Lib.hid (by rw [List.length_take]; omega)
      clear hx
      go_wp2_with (at_builtin; refine append_keepsE rfl _ _ rfl B1 u1 _ rfl HO1.out ⟨wr.heap.size, 0, none⟩ 1 1 [(x, 2)] rfl rfl (by decide) HNW.out HS1.out (HBB.out ▸ HB1.out.size) ?_)
      intro v5 w5 hown hg hb5
      have HO5 : Hid (OwnK w5 B1 v5 (stdL.take (k + 1))) := Lib.hid (by
        rw [List.take_add_one, HX.out]
        exact hown)
      have HB5 : Hid (Below B1 (w.alloc (.cells #[.string ⟨#[49, 48, 48]⟩, .string ⟨#[49, 49, 48]⟩, .string ⟨#[50, 52, 53]⟩, .string ⟨#[50, 53, 48]⟩, .string ⟨#[50, 54, 48]⟩, .string ⟨#[50, 54, 52]⟩, .string ⟨#[51, 48, 48]⟩, .string ⟨#[52, 57, 48]⟩, .string ⟨#[56, 51, 48]⟩] 9)) w5) := Lib.hid (HB1.out.trans hb5)
      clear hown hg hb5
      go_wp2
      go_roundw
      case rel => exact ⟨k + 1, by go_num, by omega, HO5, HB5⟩
      case measure => simp [intOf]; omega
    · have hltz : ¬ (k : Int) < 9 := by omega
      have hk9 : k = 9 := by omega
      subst hk9
      have HNW : Hid (∀ j u, (flatE keepE [((⟨#[56, 53, 54]⟩ : ByteArray), (0 : Int))])[j]? = some u → (wr.alloc (.cells #[.string ⟨#[56, 53, 54]⟩, .int .i64 0] 26)).cell? ((⟨wr.heap.size, 0, none⟩ : Addr).add j) = some u) := Lib.hid (cells_keep (new1_cell _ _ _ 0) (new1_cell _ _ _ 1))
      have HO1 : Hid (OwnK (wr.alloc (.cells #[.string ⟨#[56, 53, 54]⟩, .int .i64 0] 26)) B1 u1 (stdL.take 9)) := Lib.hid (OwnE.below HO.out (Below.alloc (Below.refl wr.heap.size wr) (Nat.le_refl _) _) (Nat.le_refl _))
      have HB1 : Hid (Below B1 (w.alloc (.cells #[.string ⟨#[49, 48, 48]⟩, .string ⟨#[49, 49, 48]⟩, .string ⟨#[50, 52, 53]⟩, .string ⟨#[50, 53, 48]⟩, .string ⟨#[50, 54, 48]⟩, .string ⟨#[50, 54, 52]⟩, .string ⟨#[51, 48, 48]⟩, .string ⟨#[52, 57, 48]⟩, .string ⟨#[56, 51, 48]⟩] 9)) (wr.alloc (.cells #[.string ⟨#[56, 53, 54]⟩, .int .i64 0] 26))) := Lib.hid (HB.out.alloc (HBB.out ▸ HB.out.size) _)
      have HS1 : Hid ((stdL.take 9).length + 1 ≤ 1000000) := Lib.hid (by rw [List.length_take]; omega)
      go_wp2_with (at_builtin; refine append_keepsE rfl _ _ rfl B1 u1 _ rfl HO1.out ⟨wr.heap.size, 0, none⟩ 1 1 [(⟨#[56, 53, 54]⟩, 0)] rfl rfl (by decide) HNW.out HS1.out (HBB.out ▸ HB1.out.size) ?_)
      intro v5 w5 hown hg hb5
      have HO5 : Hid (Keeps w5 v5 stdK) := Lib.hid (OwnE.rows keepE_len hown)
      have HB5 : Hid (Below w.heap.size w w5) := Lib.hid (HB0.out.bt (HBB.out ▸ (HB1.out.trans hb5)))
      clear hown hg hb5
      go_wp2
      go_ret
      exact ⟨v5, rfl, HO5.out, HB5.out⟩


set_option maxRecDepth 100000 in
set_option maxHeartbeats 4000000 in
theorem rStandard (w : World) : Calls Tryd.prog 9 #[] w fun e w' => ∃ v, e = .returned v ∧ Keeps w' v stdK ∧ Below w.heap.size w w' := by
  have CE : ∀ W, Below (w.alloc (.cells #[.string ⟨#[49, 48, 48]⟩, .string ⟨#[49, 49, 48]⟩, .string ⟨#[50, 52, 53]⟩, .string ⟨#[50, 53, 48]⟩, .string ⟨#[50, 54, 48]⟩, .string ⟨#[50, 54, 52]⟩, .string ⟨#[51, 48, 48]⟩, .string ⟨#[52, 57, 48]⟩, .string ⟨#[56, 51, 48]⟩] 9)).heap.size (w.alloc (.cells #[.string ⟨#[49, 48, 48]⟩, .string ⟨#[49, 49, 48]⟩, .string ⟨#[50, 52, 53]⟩, .string ⟨#[50, 53, 48]⟩, .string ⟨#[50, 54, 48]⟩, .string ⟨#[50, 54, 52]⟩, .string ⟨#[51, 48, 48]⟩, .string ⟨#[52, 57, 48]⟩, .string ⟨#[56, 51, 48]⟩] 9)) W → ∀ k x, stdT[k]? = some x → W.cell? ⟨w.heap.size, k, none⟩ = some (.string x) := fun W h k x hx => block_cells h k _ (by
    show ((stdT.map Value.string).toArray)[k]? = _
    rw [List.getElem?_toArray, List.getElem?_map, hx]; rfl)
  obtain ⟨B1, hB1⟩ : ∃ B1, B1 = (w.alloc (.cells #[.string ⟨#[49, 48, 48]⟩, .string ⟨#[49, 49, 48]⟩, .string ⟨#[50, 52, 53]⟩, .string ⟨#[50, 53, 48]⟩, .string ⟨#[50, 54, 48]⟩, .string ⟨#[50, 54, 52]⟩, .string ⟨#[51, 48, 48]⟩, .string ⟨#[52, 57, 48]⟩, .string ⟨#[56, 51, 48]⟩] 9)).heap.size := ⟨_, rfl⟩
  rw [← hB1] at CE
  have HCE := Lib.hid CE
  have HB0 : Hid (Below w.heap.size w (w.alloc (.cells #[.string ⟨#[49, 48, 48]⟩, .string ⟨#[49, 49, 48]⟩, .string ⟨#[50, 52, 53]⟩, .string ⟨#[50, 53, 48]⟩, .string ⟨#[50, 54, 48]⟩, .string ⟨#[50, 54, 52]⟩, .string ⟨#[51, 48, 48]⟩, .string ⟨#[52, 57, 48]⟩, .string ⟨#[56, 51, 48]⟩] 9))) := Lib.hid ((Below.refl _ _).alloc (Nat.le_refl _) _)
  have HBB : Hid (B1 = (w.alloc (.cells #[.string ⟨#[49, 48, 48]⟩, .string ⟨#[49, 49, 48]⟩, .string ⟨#[50, 52, 53]⟩, .string ⟨#[50, 53, 48]⟩, .string ⟨#[50, 54, 48]⟩, .string ⟨#[50, 54, 52]⟩, .string ⟨#[51, 48, 48]⟩, .string ⟨#[52, 57, 48]⟩, .string ⟨#[56, 51, 48]⟩] 9)).heap.size) := Lib.hid hB1
  have hl9 : stdT.length = 9 := rfl
  have HL9 := Lib.hid hl9
  clear CE hl9 hB1
  go_enter Tryd.func9, Tryd.ntmps9
  go_wp2
  go_loopw [2, 3] (fun vl vk wr => ∃ k : Nat, vk = .int .i64 k ∧ k ≤ 9 ∧ Hid (OwnK wr B1 vl (stdL.take k)) ∧ Hid (Below B1 (w.alloc (.cells #[.string ⟨#[49, 48, 48]⟩, .string ⟨#[49, 49, 48]⟩, .string ⟨#[50, 52, 53]⟩, .string ⟨#[50, 53, 48]⟩, .string ⟨#[50, 54, 48]⟩, .string ⟨#[50, 54, 52]⟩, .string ⟨#[51, 48, 48]⟩, .string ⟨#[52, 57, 48]⟩, .string ⟨#[56, 51, 48]⟩] 9)) wr)) (fun _ vk _ => 9 - (intOf vk).toNat)
  case atStart => exact ⟨0, rfl, by omega, Lib.hid (OwnE.nil keepE _ _ _), Lib.hid (Below.refl _ _)⟩
  case round =>
    obtain ⟨k, rfl, hk, HO, HB⟩ := hrel
    by_cases hlt : k < 9
    · have hltz : (k : Int) < 9 := by omega
      obtain ⟨x, hx⟩ : ∃ x, stdT[k]? = some x := ⟨_, List.getElem?_eq_getElem (by have := HL9.out; omega)⟩
      have hcell := HCE.out wr HB.out k x hx
      have HX : Hid (stdL[k]? = some (x, 2)) := Lib.hid (by unfold stdL; rw [List.getElem?_map, hx]; rfl)
      have HNW : Hid (∀ j u, (flatE keepE [(x, 2)])[j]? = some u → (wr.alloc (.cells #[.string x, .int .i64 2] 26)).cell? ((⟨wr.heap.size, 0, none⟩ : Addr).add j) = some u) := Lib.hid (cells_keep (new1_cell _ _ _ 0) (new1_cell _ _ _ 1))
      have HO1 : Hid (OwnK (wr.alloc (.cells #[.string x, .int .i64 2] 26)) B1 u2 (stdL.take k)) := Lib.hid (OwnE.below HO.out (Below.alloc (Below.refl wr.heap.size wr) (Nat.le_refl _) _) (Nat.le_refl _))
      have HB1 : Hid (Below B1 (w.alloc (.cells #[.string ⟨#[49, 48, 48]⟩, .string ⟨#[49, 49, 48]⟩, .string ⟨#[50, 52, 53]⟩, .string ⟨#[50, 53, 48]⟩, .string ⟨#[50, 54, 48]⟩, .string ⟨#[50, 54, 52]⟩, .string ⟨#[51, 48, 48]⟩, .string ⟨#[52, 57, 48]⟩, .string ⟨#[56, 51, 48]⟩] 9)) (wr.alloc (.cells #[.string x, .int .i64 2] 26))) := Lib.hid (HB.out.alloc (HBB.out ▸ HB.out.size) _)
      have HS1 : Hid ((stdL.take k).length + 1 ≤ 1000000) := Lib.hid (by rw [List.length_take]; omega)
      clear hx
      go_wp2_with (at_builtin; refine append_keepsE rfl _ _ rfl B1 u2 _ rfl HO1.out ⟨wr.heap.size, 0, none⟩ 1 1 [(x, 2)] rfl rfl (by decide) HNW.out HS1.out (HBB.out ▸ HB1.out.size) ?_)
      intro v5 w5 hown hg hb5
      have HO5 : Hid (OwnK w5 B1 v5 (stdL.take (k + 1))) := Lib.hid (by
        rw [List.take_add_one, HX.out]
        exact hown)
      have HB5 : Hid (Below B1 (w.alloc (.cells #[.string ⟨#[49, 48, 48]⟩, .string ⟨#[49, 49, 48]⟩, .string ⟨#[50, 52, 53]⟩, .string ⟨#[50, 53, 48]⟩, .string ⟨#[50, 54, 48]⟩, .string ⟨#[50, 54, 52]⟩, .string ⟨#[51, 48, 48]⟩, .string ⟨#[52, 57, 48]⟩, .string ⟨#[56, 51, 48]⟩] 9)) w5) := Lib.hid (HB1.out.trans hb5)
      clear hown hg hb5
      go_wp2
      go_roundw
      case rel => exact ⟨k + 1, by go_num, by omega, HO5, HB5⟩
      case measure => simp [intOf]; omega
    · have hltz : ¬ (k : Int) < 9 := by omega
      have hk9 : k = 9 := by omega
      subst hk9
      have HNW : Hid (∀ j u, (flatE keepE [((⟨#[56, 53, 54]⟩ : ByteArray), (0 : Int))])[j]? = some u → (wr.alloc (.cells #[.string ⟨#[56, 53, 54]⟩, .int .i64 0] 26)).cell? ((⟨wr.heap.size, 0, none⟩ : Addr).add j) = some u) := Lib.hid (cells_keep (new1_cell _ _ _ 0) (new1_cell _ _ _ 1))
      have HO1 : Hid (OwnK (wr.alloc (.cells #[.string ⟨#[56, 53, 54]⟩, .int .i64 0] 26)) B1 u2 (stdL.take 9)) := Lib.hid (OwnE.below HO.out (Below.alloc (Below.refl wr.heap.size wr) (Nat.le_refl _) _) (Nat.le_refl _))
      have HB1 : Hid (Below B1 (w.alloc (.cells #[.string ⟨#[49, 48, 48]⟩, .string ⟨#[49, 49, 48]⟩, .string ⟨#[50, 52, 53]⟩, .string ⟨#[50, 53, 48]⟩, .string ⟨#[50, 54, 48]⟩, .string ⟨#[50, 54, 52]⟩, .string ⟨#[51, 48, 48]⟩, .string ⟨#[52, 57, 48]⟩, .string ⟨#[56, 51, 48]⟩] 9)) (wr.alloc (.cells #[.string ⟨#[56, 53, 54]⟩, .int .i64 0] 26))) := Lib.hid (HB.out.alloc (HBB.out ▸ HB.out.size) _)
      have HS1 : Hid ((stdL.take 9).length + 1 ≤ 1000000) := Lib.hid (by rw [List.length_take]; omega)
      go_wp2_with (at_builtin; refine append_keepsE rfl _ _ rfl B1 u2 _ rfl HO1.out ⟨wr.heap.size, 0, none⟩ 1 1 [(⟨#[56, 53, 54]⟩, 0)] rfl rfl (by decide) HNW.out HS1.out (HBB.out ▸ HB1.out.size) ?_)
      intro v5 w5 hown hg hb5
      have HO5 : Hid (Keeps w5 v5 stdK) := Lib.hid (OwnE.rows keepE_len hown)
      have HB5 : Hid (Below w.heap.size w w5) := Lib.hid (HB0.out.bt (HBB.out ▸ (HB1.out.trans hb5)))
      clear hown hg hb5
      go_wp2
      go_ret
      exact ⟨v5, rfl, HO5.out, HB5.out⟩

end Go.Proofs.YtcdlgmncalmihaaDoor
