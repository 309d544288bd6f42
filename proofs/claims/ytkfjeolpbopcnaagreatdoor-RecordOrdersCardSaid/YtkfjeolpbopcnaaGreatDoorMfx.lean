/- The walk of the reference's Right of a field (layers 18, 16, 08). -/
import Derived.Test.YtkfjeolpbopcnaaGreatDoorMfq
namespace Go.Proofs.YtkfjeolpbopcnaaGreatDoor
open Go Go.RowKit

set_option maxRecDepth 100000 in
set_option maxHeartbeats 8000000 in
theorem rFldRight (f : Fld) (w : World) (hf : FldAt w f) (hs : f.small) :
    Calls Tryz.prog 40 #[.agg #[.string (lb f.tag), .string (lb f.ind), .slice f.sa f.subs.length f.sc, .int .i64 f.auth]] w fun e w' => e = .returned (.int .i64 (fldErr f)) ∧ Below w.heap.size w w' := by
  obtain ⟨R, hR⟩ : ∃ R, R = fldErr f := ⟨_, rfl⟩
  rw [← hR]
  rw [fldErr_eq] at hR
  obtain ⟨tag, ind, subs, auth, sa, sc⟩ := f
  obtain ⟨hs1, hs2, -⟩ := hs
  obtain ⟨a', c', he, hc, hcells⟩ := hf
  simp only at hs1 hs2 hcells hc he hR ⊢
  cases he
  obtain ⟨T, hT⟩ : ∃ T, T = lb tag := ⟨_, rfl⟩
  obtain ⟨I, hI⟩ : ∃ I, I = lb ind := ⟨_, rfl⟩
  have hTd : tag = T.data.toList := by rw [hT, lb_data]
  have hId : ind = I.data.toList := by rw [hI, lb_data]
  rw [hTd, hId] at hR
  rw [← hT, ← hI]
  obtain ⟨n, hnn⟩ : ∃ n, n = subs.length := ⟨_, rfl⟩
  rw [← hnn] at hs1 hc hR ⊢
  have HB0 : Hid (Below w.heap.size w (fldW w T I sa n sc auth)) := Lib.hid ((Below.refl _ _).alloc (Nat.le_refl _) _)
  have HN := Lib.hid hnn
  have HC := Lib.hid hcells
  have HS := Lib.hid hs2
  have hkt := rTag T (fldW w T I sa n sc auth)
  obtain ⟨K, hK⟩ : ∃ K, K = tagOk T.data.toList := ⟨_, rfl⟩
  rw [← hK] at hkt hR
  have HK := Lib.hid hkt
  clear hkt hK hT hI hTd hId hnn hcells hs2
  cases K with
  | false =>
    have HR : Hid (R = 6) := Lib.hid (by rw [hR, if_pos rfl])
    clear hR
    go_enter Tryz.func40, Tryz.ntmps40
    go_wp2_with (first | (go_at_call 75; refine HK.out.mono ?_; rintro e w1 ⟨rfl, rfl⟩))
    go_ret
    exact ⟨by rw [HR.out]; rfl, HB0.out⟩
  | true =>
    rw [if_neg (by simp)] at hR
    rcases ind_cases I with ⟨h, h'⟩ | ⟨h, h'⟩
    · rw [h'] at hR
      have HR : Hid (R = 3) := Lib.hid (by rw [hR, if_pos rfl])
      have n2 : (((I.size : Nat) : Int) != 2) = true := by
        have : ((I.size : Nat) : Int) ≠ 2 := by omega
        simpa using this
      clear hR h h'
      go_enter Tryz.func40, Tryz.ntmps40
      go_wp2_with (first | (go_at_call 75; refine HK.out.mono ?_; rintro e w1 ⟨rfl, rfl⟩) | (go_at_call 76; refine (rDigit _ _).mono ?_; rintro e w1 ⟨rfl, rfl⟩))
      go_ret
      exact ⟨by rw [HR.out]; rfl, HB0.out⟩
    · have n2 : (((I.size : Nat) : Int) != 2) = false := by
        have : ((I.size : Nat) : Int) = 2 := by omega
        simpa using this
      have z0 : (0 : Int) < ((I.size : Nat) : Int) := by omega
      have z1 : (1 : Int) < ((I.size : Nat) : Int) := by omega
      have y0 : 0 < I.size := by omega
      have y1 : 1 < I.size := by omega
      have f0 := indB_cases I[0]
      have f1 := indB_cases I[1]
      rcases f0 with ⟨x0, e0⟩ | ⟨x0, d0, e0⟩ | ⟨x0, d0, e0⟩
      · rcases f1 with ⟨x1, e1⟩ | ⟨x1, d1, e1⟩ | ⟨x1, d1, e1⟩
        · rw [e0, e1] at h'
          rw [h', if_neg (by simp)] at hR
          by_cases hn0 : n = 0
          · have zn : ((n : Int) == 0) = true := by
              have : (n : Int) = 0 := by omega
              simpa using this
            have HR : Hid (R = 8) := Lib.hid (by rw [hR, if_pos hn0])
            clear hR hn0 h' e0 e1
            go_enter Tryz.func40, Tryz.ntmps40
            go_wp2_with (first | (go_at_call 75; refine HK.out.mono ?_; rintro e w1 ⟨rfl, rfl⟩) | (go_at_call 76; refine (rDigit _ _).mono ?_; rintro e w1 ⟨rfl, rfl⟩))
            go_ret
            exact ⟨by rw [HR.out]; rfl, HB0.out⟩
          rw [if_neg hn0] at hR
          have zn : ((n : Int) == 0) = false := by
            have : (n : Int) ≠ 0 := by omega
            simpa using this
          by_cases hn16 : 16 < n
          · have hn16z : (16 : Int) < (n : Int) := by omega
            have HR : Hid (R = 4) := Lib.hid (by rw [hR, if_pos hn16])
            clear hR hn0 hn16 h' e0 e1
            go_enter Tryz.func40, Tryz.ntmps40
            go_wp2_with (first | (go_at_call 75; refine HK.out.mono ?_; rintro e w1 ⟨rfl, rfl⟩) | (go_at_call 76; refine (rDigit _ _).mono ?_; rintro e w1 ⟨rfl, rfl⟩))
            go_ret
            exact ⟨by rw [HR.out]; rfl, HB0.out⟩
          rw [if_neg hn16] at hR
          have hn16z : (n : Int) ≤ 16 := by omega
          have HR : Hid (R = subsR (subs.drop 0) (authE auth)) := Lib.hid (by rw [hR, List.drop_zero])
          clear hR hn0 hn16 h' e0 e1
          go_enter Tryz.func40, Tryz.ntmps40
          go_wp2_with (first | (go_at_call 75; refine HK.out.mono ?_; rintro e w1 ⟨rfl, rfl⟩) | (go_at_call 76; refine (rDigit _ _).mono ?_; rintro e w1 ⟨rfl, rfl⟩))
          go_loopw [3]  (fun vk wr => ∃ k : Nat, vk = .int .i64 k ∧ k ≤ n ∧ Hid (R = subsR (subs.drop k) (authE auth)) ∧ Hid (Below (fldW w T I sa n sc auth).heap.size (fldW w T I sa n sc auth) wr)) (fun vk _ => n - (intOf vk).toNat)
          case atStart => exact ⟨0, rfl, by omega, HR, Lib.hid (Below.refl _ _)⟩
          case round =>
            obtain ⟨k, rfl, hk, HKK, HB⟩ := hrel
            have q2 := block_cells HB.out 2 (.slice sa n sc) rfl
            have q3 := block_cells HB.out 3 (.int .i64 auth) rfl
            have HBW := Lib.hid (HB0.out.bt HB.out)
            by_cases hlt : k < n
            · have hltz : (k : Int) < (n : Int) := by omega
              obtain ⟨s, hs⟩ : ∃ s, subs[k]? = some s := ⟨_, List.getElem?_eq_getElem (by have := HN.out; omega)⟩
              rcases HC.out with h0 | ⟨b, o, rfl, hbl, hcl⟩
              · rw [h0] at hs; cases hs
              obtain ⟨p0, p1⟩ := sub_cells (hcl k s hs)
              replace p0 := (HBW.out.cell (p := ⟨b, o + k * 2, none⟩) hbl).trans p0
              replace p1 := (HBW.out.cell (p := ⟨b, o + k * 2 + 1, none⟩) hbl).trans p1
              have hst := HKK.out
              rw [subsR_step (authE auth) hs] at hst
              have hv := HS.out s (List.mem_of_getElem? hs)
              have hcs := subErr_cases s
              obtain ⟨c, v⟩ := s
              simp only at p0 p1 hv hcs
              have hcd := rCode c (wr.alloc (.cells #[.int .u8 (c : Int), .string v] 54))
              have hvl := rValid v (wr.alloc (.cells #[.int .u8 (c : Int), .string v] 54)) (by omega)
              have hz := empty_of v
              have HBW1 : Hid (Below w.heap.size w (wr.alloc (.cells #[.int .u8 (c : Int), .string v] 54))) := Lib.hid (HBW.out.alloc HBW.out.size _)
              have HB1 : Hid (Below (fldW w T I (some ⟨b, o, none⟩) n sc auth).heap.size (fldW w T I (some ⟨b, o, none⟩) n sc auth) (wr.alloc (.cells #[.int .u8 (c : Int), .string v] 54))) := Lib.hid (HB.out.alloc HB.out.size _)
              clear HKK hs hcl
              rcases hcs with ⟨a1, a9⟩ | ⟨a1, a2, a9⟩ | ⟨a1, a2, a3, a9⟩ | ⟨a1, a2, a3, a4, a9⟩ | ⟨a1, a2, a3, a4, a9⟩
              · rw [a9] at hst
                rw [a1] at hcd
                have HT : Hid (R = 1) := Lib.hid hst
                have HCD := Lib.hid hcd
                clear hst hcd hvl hz a1 a9 HR
                go_wp2_with fail
                refine HCD.out.mono ?_
                rintro e w1 ⟨rfl, rfl⟩
                go_wp2
                go_ret
                exact ⟨by rw [HT.out]; rfl, HBW1.out⟩
              · rw [a9] at hst
                rw [a1] at hcd
                rw [decide_eq_true a2] at hz
                have HT : Hid (R = 8) := Lib.hid hst
                have HCD := Lib.hid hcd
                clear hst hcd hvl a1 a2 a9 HR
                go_wp2_with fail
                refine HCD.out.mono ?_
                rintro e w1 ⟨rfl, rfl⟩
                go_wp2
                go_ret
                exact ⟨by rw [HT.out]; rfl, HBW1.out⟩
              · rw [a9] at hst
                rw [a1] at hcd
                rw [decide_eq_false a2] at hz
                rw [a3] at hvl
                have HT : Hid (R = 3) := Lib.hid hst
                have HCD := Lib.hid hcd
                have HVL := Lib.hid hvl
                clear hst hcd hvl a1 a2 a3 a9 HR
                go_wp2_with fail
                refine HCD.out.mono ?_
                rintro e w1 ⟨rfl, rfl⟩
                go_wp2_with fail
                refine HVL.out.mono ?_
                rintro e w2 ⟨rfl, d2⟩
                have HB2 := Lib.hid (HBW1.out.trans (d2.below w.heap.size))
                clear d2
                go_wp2
                go_ret
                exact ⟨by rw [HT.out]; rfl, HB2.out⟩
              · rw [a9] at hst
                rw [a1] at hcd
                rw [decide_eq_false a2] at hz
                rw [a3] at hvl
                have b4 : (200 : Int) < ((v.size : Nat) : Int) := by omega
                have HT : Hid (R = 4) := Lib.hid hst
                have HCD := Lib.hid hcd
                have HVL := Lib.hid hvl
                clear hst hcd hvl a1 a2 a3 a4 a9 HR
                go_wp2_with fail
                refine HCD.out.mono ?_
                rintro e w1 ⟨rfl, rfl⟩
                go_wp2_with fail
                refine HVL.out.mono ?_
                rintro e w2 ⟨rfl, d2⟩
                have r1 := block_cells (d2.below _) 1 (.string v) rfl
                have HB2 := Lib.hid (HBW1.out.trans (d2.below w.heap.size))
                clear d2
                go_wp2
                go_ret
                exact ⟨by rw [HT.out]; rfl, HB2.out⟩
              · rw [a9] at hst
                rw [a1] at hcd
                rw [decide_eq_false a2] at hz
                rw [a3] at hvl
                have b4 : ((v.size : Nat) : Int) ≤ 200 := by omega
                have HT : Hid (R = subsR (subs.drop (k + 1)) (authE auth)) := Lib.hid hst
                have HCD := Lib.hid hcd
                have HVL := Lib.hid hvl
                clear hst hcd hvl a1 a2 a3 a4 a9 HR
                go_wp2_with fail
                refine HCD.out.mono ?_
                rintro e w1 ⟨rfl, rfl⟩
                go_wp2_with fail
                refine HVL.out.mono ?_
                rintro e w2 ⟨rfl, d2⟩
                have r1 := block_cells (d2.below _) 1 (.string v) rfl
                have HB2 := Lib.hid (HB1.out.trans (d2.below _))
                clear d2
                go_wp2
                go_roundw
                case rel => exact ⟨k + 1, by go_num, by omega, HT, HB2⟩
                case measure => simp [intOf]; omega
            · have hltz : ¬ (k : Int) < (n : Int) := by omega
              have hst := HKK.out
              rw [subsR_end (authE auth) (by have := HN.out; omega)] at hst
              clear HKK HR
              rcases authE_cases auth with ⟨a1, a9⟩ | ⟨a1, a2, a9⟩ | ⟨a1, a2, a9⟩
              all_goals
                rw [a9] at hst
                have HT := Lib.hid hst
                clear hst a9
                go_wp2
                go_ret
                exact ⟨by rw [HT.out]; rfl, HBW.out⟩
        · rw [e0, e1] at h'
          rw [h', if_neg (by simp)] at hR
          by_cases hn0 : n = 0
          · have zn : ((n : Int) == 0) = true := by
              have : (n : Int) = 0 := by omega
              simpa using this
            have HR : Hid (R = 8) := Lib.hid (by rw [hR, if_pos hn0])
            clear hR hn0 h' e0 e1
            go_enter Tryz.func40, Tryz.ntmps40
            go_wp2_with (first | (go_at_call 75; refine HK.out.mono ?_; rintro e w1 ⟨rfl, rfl⟩) | (go_at_call 76; refine (rDigit _ _).mono ?_; rintro e w1 ⟨rfl, rfl⟩))
            go_ret
            exact ⟨by rw [HR.out]; rfl, HB0.out⟩
          rw [if_neg hn0] at hR
          have zn : ((n : Int) == 0) = false := by
            have : (n : Int) ≠ 0 := by omega
            simpa using this
          by_cases hn16 : 16 < n
          · have hn16z : (16 : Int) < (n : Int) := by omega
            have HR : Hid (R = 4) := Lib.hid (by rw [hR, if_pos hn16])
            clear hR hn0 hn16 h' e0 e1
            go_enter Tryz.func40, Tryz.ntmps40
            go_wp2_with (first | (go_at_call 75; refine HK.out.mono ?_; rintro e w1 ⟨rfl, rfl⟩) | (go_at_call 76; refine (rDigit _ _).mono ?_; rintro e w1 ⟨rfl, rfl⟩))
            go_ret
            exact ⟨by rw [HR.out]; rfl, HB0.out⟩
          rw [if_neg hn16] at hR
          have hn16z : (n : Int) ≤ 16 := by omega
          have HR : Hid (R = subsR (subs.drop 0) (authE auth)) := Lib.hid (by rw [hR, List.drop_zero])
          clear hR hn0 hn16 h' e0 e1
          go_enter Tryz.func40, Tryz.ntmps40
          go_wp2_with (first | (go_at_call 75; refine HK.out.mono ?_; rintro e w1 ⟨rfl, rfl⟩) | (go_at_call 76; refine (rDigit _ _).mono ?_; rintro e w1 ⟨rfl, rfl⟩))
          go_loopw [3]  (fun vk wr => ∃ k : Nat, vk = .int .i64 k ∧ k ≤ n ∧ Hid (R = subsR (subs.drop k) (authE auth)) ∧ Hid (Below (fldW w T I sa n sc auth).heap.size (fldW w T I sa n sc auth) wr)) (fun vk _ => n - (intOf vk).toNat)
          case atStart => exact ⟨0, rfl, by omega, HR, Lib.hid (Below.refl _ _)⟩
          case round =>
            obtain ⟨k, rfl, hk, HKK, HB⟩ := hrel
            have q2 := block_cells HB.out 2 (.slice sa n sc) rfl
            have q3 := block_cells HB.out 3 (.int .i64 auth) rfl
            have HBW := Lib.hid (HB0.out.bt HB.out)
            by_cases hlt : k < n
            · have hltz : (k : Int) < (n : Int) := by omega
              obtain ⟨s, hs⟩ : ∃ s, subs[k]? = some s := ⟨_, List.getElem?_eq_getElem (by have := HN.out; omega)⟩
              rcases HC.out with h0 | ⟨b, o, rfl, hbl, hcl⟩
              · rw [h0] at hs; cases hs
              obtain ⟨p0, p1⟩ := sub_cells (hcl k s hs)
              replace p0 := (HBW.out.cell (p := ⟨b, o + k * 2, none⟩) hbl).trans p0
              replace p1 := (HBW.out.cell (p := ⟨b, o + k * 2 + 1, none⟩) hbl).trans p1
              have hst := HKK.out
              rw [subsR_step (authE auth) hs] at hst
              have hv := HS.out s (List.mem_of_getElem? hs)
              have hcs := subErr_cases s
              obtain ⟨c, v⟩ := s
              simp only at p0 p1 hv hcs
              have hcd := rCode c (wr.alloc (.cells #[.int .u8 (c : Int), .string v] 54))
              have hvl := rValid v (wr.alloc (.cells #[.int .u8 (c : Int), .string v] 54)) (by omega)
              have hz := empty_of v
              have HBW1 : Hid (Below w.heap.size w (wr.alloc (.cells #[.int .u8 (c : Int), .string v] 54))) := Lib.hid (HBW.out.alloc HBW.out.size _)
              have HB1 : Hid (Below (fldW w T I (some ⟨b, o, none⟩) n sc auth).heap.size (fldW w T I (some ⟨b, o, none⟩) n sc auth) (wr.alloc (.cells #[.int .u8 (c : Int), .string v] 54))) := Lib.hid (HB.out.alloc HB.out.size _)
              clear HKK hs hcl
              rcases hcs with ⟨a1, a9⟩ | ⟨a1, a2, a9⟩ | ⟨a1, a2, a3, a9⟩ | ⟨a1, a2, a3, a4, a9⟩ | ⟨a1, a2, a3, a4, a9⟩
              · rw [a9] at hst
                rw [a1] at hcd
                have HT : Hid (R = 1) := Lib.hid hst
                have HCD := Lib.hid hcd
                clear hst hcd hvl hz a1 a9 HR
                go_wp2_with fail
                refine HCD.out.mono ?_
                rintro e w1 ⟨rfl, rfl⟩
                go_wp2
                go_ret
                exact ⟨by rw [HT.out]; rfl, HBW1.out⟩
              · rw [a9] at hst
                rw [a1] at hcd
                rw [decide_eq_true a2] at hz
                have HT : Hid (R = 8) := Lib.hid hst
                have HCD := Lib.hid hcd
                clear hst hcd hvl a1 a2 a9 HR
                go_wp2_with fail
                refine HCD.out.mono ?_
                rintro e w1 ⟨rfl, rfl⟩
                go_wp2
                go_ret
                exact ⟨by rw [HT.out]; rfl, HBW1.out⟩
              · rw [a9] at hst
                rw [a1] at hcd
                rw [decide_eq_false a2] at hz
                rw [a3] at hvl
                have HT : Hid (R = 3) := Lib.hid hst
                have HCD := Lib.hid hcd
                have HVL := Lib.hid hvl
                clear hst hcd hvl a1 a2 a3 a9 HR
                go_wp2_with fail
                refine HCD.out.mono ?_
                rintro e w1 ⟨rfl, rfl⟩
                go_wp2_with fail
                refine HVL.out.mono ?_
                rintro e w2 ⟨rfl, d2⟩
                have HB2 := Lib.hid (HBW1.out.trans (d2.below w.heap.size))
                clear d2
                go_wp2
                go_ret
                exact ⟨by rw [HT.out]; rfl, HB2.out⟩
              · rw [a9] at hst
                rw [a1] at hcd
                rw [decide_eq_false a2] at hz
                rw [a3] at hvl
                have b4 : (200 : Int) < ((v.size : Nat) : Int) := by omega
                have HT : Hid (R = 4) := Lib.hid hst
                have HCD := Lib.hid hcd
                have HVL := Lib.hid hvl
                clear hst hcd hvl a1 a2 a3 a4 a9 HR
                go_wp2_with fail
                refine HCD.out.mono ?_
                rintro e w1 ⟨rfl, rfl⟩
                go_wp2_with fail
                refine HVL.out.mono ?_
                rintro e w2 ⟨rfl, d2⟩
                have r1 := block_cells (d2.below _) 1 (.string v) rfl
                have HB2 := Lib.hid (HBW1.out.trans (d2.below w.heap.size))
                clear d2
                go_wp2
                go_ret
                exact ⟨by rw [HT.out]; rfl, HB2.out⟩
              · rw [a9] at hst
                rw [a1] at hcd
                rw [decide_eq_false a2] at hz
                rw [a3] at hvl
                have b4 : ((v.size : Nat) : Int) ≤ 200 := by omega
                have HT : Hid (R = subsR (subs.drop (k + 1)) (authE auth)) := Lib.hid hst
                have HCD := Lib.hid hcd
                have HVL := Lib.hid hvl
                clear hst hcd hvl a1 a2 a3 a4 a9 HR
                go_wp2_with fail
                refine HCD.out.mono ?_
                rintro e w1 ⟨rfl, rfl⟩
                go_wp2_with fail
                refine HVL.out.mono ?_
                rintro e w2 ⟨rfl, d2⟩
                have r1 := block_cells (d2.below _) 1 (.string v) rfl
                have HB2 := Lib.hid (HB1.out.trans (d2.below _))
                clear d2
                go_wp2
                go_roundw
                case rel => exact ⟨k + 1, by go_num, by omega, HT, HB2⟩
                case measure => simp [intOf]; omega
            · have hltz : ¬ (k : Int) < (n : Int) := by omega
              have hst := HKK.out
              rw [subsR_end (authE auth) (by have := HN.out; omega)] at hst
              clear HKK HR
              rcases authE_cases auth with ⟨a1, a9⟩ | ⟨a1, a2, a9⟩ | ⟨a1, a2, a9⟩
              all_goals
                rw [a9] at hst
                have HT := Lib.hid hst
                clear hst a9
                go_wp2
                go_ret
                exact ⟨by rw [HT.out]; rfl, HBW.out⟩
        · rw [e0, e1] at h'
          rw [h'] at hR
          have HR : Hid (R = 3) := Lib.hid (by rw [hR, if_pos (by simp)])
          clear hR h' e0 e1
          go_enter Tryz.func40, Tryz.ntmps40
          go_wp2_with (first | (go_at_call 75; refine HK.out.mono ?_; rintro e w1 ⟨rfl, rfl⟩) | (go_at_call 76; refine (rDigit _ _).mono ?_; rintro e w1 ⟨rfl, rfl⟩))
          go_ret
          exact ⟨by rw [HR.out]; rfl, HB0.out⟩
      · rcases f1 with ⟨x1, e1⟩ | ⟨x1, d1, e1⟩ | ⟨x1, d1, e1⟩
        · rw [e0, e1] at h'
          rw [h', if_neg (by simp)] at hR
          by_cases hn0 : n = 0
          · have zn : ((n : Int) == 0) = true := by
              have : (n : Int) = 0 := by omega
              simpa using this
            have HR : Hid (R = 8) := Lib.hid (by rw [hR, if_pos hn0])
            clear hR hn0 h' e0 e1
            go_enter Tryz.func40, Tryz.ntmps40
            go_wp2_with (first | (go_at_call 75; refine HK.out.mono ?_; rintro e w1 ⟨rfl, rfl⟩) | (go_at_call 76; refine (rDigit _ _).mono ?_; rintro e w1 ⟨rfl, rfl⟩))
            go_ret
            exact ⟨by rw [HR.out]; rfl, HB0.out⟩
          rw [if_neg hn0] at hR
          have zn : ((n : Int) == 0) = false := by
            have : (n : Int) ≠ 0 := by omega
            simpa using this
          by_cases hn16 : 16 < n
          · have hn16z : (16 : Int) < (n : Int) := by omega
            have HR : Hid (R = 4) := Lib.hid (by rw [hR, if_pos hn16])
            clear hR hn0 hn16 h' e0 e1
            go_enter Tryz.func40, Tryz.ntmps40
            go_wp2_with (first | (go_at_call 75; refine HK.out.mono ?_; rintro e w1 ⟨rfl, rfl⟩) | (go_at_call 76; refine (rDigit _ _).mono ?_; rintro e w1 ⟨rfl, rfl⟩))
            go_ret
            exact ⟨by rw [HR.out]; rfl, HB0.out⟩
          rw [if_neg hn16] at hR
          have hn16z : (n : Int) ≤ 16 := by omega
          have HR : Hid (R = subsR (subs.drop 0) (authE auth)) := Lib.hid (by rw [hR, List.drop_zero])
          clear hR hn0 hn16 h' e0 e1
          go_enter Tryz.func40, Tryz.ntmps40
          go_wp2_with (first | (go_at_call 75; refine HK.out.mono ?_; rintro e w1 ⟨rfl, rfl⟩) | (go_at_call 76; refine (rDigit _ _).mono ?_; rintro e w1 ⟨rfl, rfl⟩))
          go_loopw [3]  (fun vk wr => ∃ k : Nat, vk = .int .i64 k ∧ k ≤ n ∧ Hid (R = subsR (subs.drop k) (authE auth)) ∧ Hid (Below (fldW w T I sa n sc auth).heap.size (fldW w T I sa n sc auth) wr)) (fun vk _ => n - (intOf vk).toNat)
          case atStart => exact ⟨0, rfl, by omega, HR, Lib.hid (Below.refl _ _)⟩
          case round =>
            obtain ⟨k, rfl, hk, HKK, HB⟩ := hrel
            have q2 := block_cells HB.out 2 (.slice sa n sc) rfl
            have q3 := block_cells HB.out 3 (.int .i64 auth) rfl
            have HBW := Lib.hid (HB0.out.bt HB.out)
            by_cases hlt : k < n
            · have hltz : (k : Int) < (n : Int) := by omega
              obtain ⟨s, hs⟩ : ∃ s, subs[k]? = some s := ⟨_, List.getElem?_eq_getElem (by have := HN.out; omega)⟩
              rcases HC.out with h0 | ⟨b, o, rfl, hbl, hcl⟩
              · rw [h0] at hs; cases hs
              obtain ⟨p0, p1⟩ := sub_cells (hcl k s hs)
              replace p0 := (HBW.out.cell (p := ⟨b, o + k * 2, none⟩) hbl).trans p0
              replace p1 := (HBW.out.cell (p := ⟨b, o + k * 2 + 1, none⟩) hbl).trans p1
              have hst := HKK.out
              rw [subsR_step (authE auth) hs] at hst
              have hv := HS.out s (List.mem_of_getElem? hs)
              have hcs := subErr_cases s
              obtain ⟨c, v⟩ := s
              simp only at p0 p1 hv hcs
              have hcd := rCode c (wr.alloc (.cells #[.int .u8 (c : Int), .string v] 54))
              have hvl := rValid v (wr.alloc (.cells #[.int .u8 (c : Int), .string v] 54)) (by omega)
              have hz := empty_of v
              have HBW1 : Hid (Below w.heap.size w (wr.alloc (.cells #[.int .u8 (c : Int), .string v] 54))) := Lib.hid (HBW.out.alloc HBW.out.size _)
              have HB1 : Hid (Below (fldW w T I (some ⟨b, o, none⟩) n sc auth).heap.size (fldW w T I (some ⟨b, o, none⟩) n sc auth) (wr.alloc (.cells #[.int .u8 (c : Int), .string v] 54))) := Lib.hid (HB.out.alloc HB.out.size _)
              clear HKK hs hcl
              rcases hcs with ⟨a1, a9⟩ | ⟨a1, a2, a9⟩ | ⟨a1, a2, a3, a9⟩ | ⟨a1, a2, a3, a4, a9⟩ | ⟨a1, a2, a3, a4, a9⟩
              · rw [a9] at hst
                rw [a1] at hcd
                have HT : Hid (R = 1) := Lib.hid hst
                have HCD := Lib.hid hcd
                clear hst hcd hvl hz a1 a9 HR
                go_wp2_with fail
                refine HCD.out.mono ?_
                rintro e w1 ⟨rfl, rfl⟩
                go_wp2
                go_ret
                exact ⟨by rw [HT.out]; rfl, HBW1.out⟩
              · rw [a9] at hst
                rw [a1] at hcd
                rw [decide_eq_true a2] at hz
                have HT : Hid (R = 8) := Lib.hid hst
                have HCD := Lib.hid hcd
                clear hst hcd hvl a1 a2 a9 HR
                go_wp2_with fail
                refine HCD.out.mono ?_
                rintro e w1 ⟨rfl, rfl⟩
                go_wp2
                go_ret
                exact ⟨by rw [HT.out]; rfl, HBW1.out⟩
              · rw [a9] at hst
                rw [a1] at hcd
                rw [decide_eq_false a2] at hz
                rw [a3] at hvl
                have HT : Hid (R = 3) := Lib.hid hst
                have HCD := Lib.hid hcd
                have HVL := Lib.hid hvl
                clear hst hcd hvl a1 a2 a3 a9 HR
                go_wp2_with fail
                refine HCD.out.mono ?_
                rintro e w1 ⟨rfl, rfl⟩
                go_wp2_with fail
                refine HVL.out.mono ?_
                rintro e w2 ⟨rfl, d2⟩
                have HB2 := Lib.hid (HBW1.out.trans (d2.below w.heap.size))
                clear d2
                go_wp2
                go_ret
                exact ⟨by rw [HT.out]; rfl, HB2.out⟩
              · rw [a9] at hst
                rw [a1] at hcd
                rw [decide_eq_false a2] at hz
                rw [a3] at hvl
                have b4 : (200 : Int) < ((v.size : Nat) : Int) := by omega
                have HT : Hid (R = 4) := Lib.hid hst
                have HCD := Lib.hid hcd
                have HVL := Lib.hid hvl
                clear hst hcd hvl a1 a2 a3 a4 a9 HR
                go_wp2_with fail
                refine HCD.out.mono ?_
                rintro e w1 ⟨rfl, rfl⟩
                go_wp2_with fail
                refine HVL.out.mono ?_
                rintro e w2 ⟨rfl, d2⟩
                have r1 := block_cells (d2.below _) 1 (.string v) rfl
                have HB2 := Lib.hid (HBW1.out.trans (d2.below w.heap.size))
                clear d2
                go_wp2
                go_ret
                exact ⟨by rw [HT.out]; rfl, HB2.out⟩
              · rw [a9] at hst
                rw [a1] at hcd
                rw [decide_eq_false a2] at hz
                rw [a3] at hvl
                have b4 : ((v.size : Nat) : Int) ≤ 200 := by omega
                have HT : Hid (R = subsR (subs.drop (k + 1)) (authE auth)) := Lib.hid hst
                have HCD := Lib.hid hcd
                have HVL := Lib.hid hvl
                clear hst hcd hvl a1 a2 a3 a4 a9 HR
                go_wp2_with fail
                refine HCD.out.mono ?_
                rintro e w1 ⟨rfl, rfl⟩
                go_wp2_with fail
                refine HVL.out.mono ?_
                rintro e w2 ⟨rfl, d2⟩
                have r1 := block_cells (d2.below _) 1 (.string v) rfl
                have HB2 := Lib.hid (HB1.out.trans (d2.below _))
                clear d2
                go_wp2
                go_roundw
                case rel => exact ⟨k + 1, by go_num, by omega, HT, HB2⟩
                case measure => simp [intOf]; omega
            · have hltz : ¬ (k : Int) < (n : Int) := by omega
              have hst := HKK.out
              rw [subsR_end (authE auth) (by have := HN.out; omega)] at hst
              clear HKK HR
              rcases authE_cases auth with ⟨a1, a9⟩ | ⟨a1, a2, a9⟩ | ⟨a1, a2, a9⟩
              all_goals
                rw [a9] at hst
                have HT := Lib.hid hst
                clear hst a9
                go_wp2
                go_ret
                exact ⟨by rw [HT.out]; rfl, HBW.out⟩
        · rw [e0, e1] at h'
          rw [h', if_neg (by simp)] at hR
          by_cases hn0 : n = 0
          · have zn : ((n : Int) == 0) = true := by
              have : (n : Int) = 0 := by omega
              simpa using this
            have HR : Hid (R = 8) := Lib.hid (by rw [hR, if_pos hn0])
            clear hR hn0 h' e0 e1
            go_enter Tryz.func40, Tryz.ntmps40
            go_wp2_with (first | (go_at_call 75; refine HK.out.mono ?_; rintro e w1 ⟨rfl, rfl⟩) | (go_at_call 76; refine (rDigit _ _).mono ?_; rintro e w1 ⟨rfl, rfl⟩))
            go_ret
            exact ⟨by rw [HR.out]; rfl, HB0.out⟩
          rw [if_neg hn0] at hR
          have zn : ((n : Int) == 0) = false := by
            have : (n : Int) ≠ 0 := by omega
            simpa using this
          by_cases hn16 : 16 < n
          · have hn16z : (16 : Int) < (n : Int) := by omega
            have HR : Hid (R = 4) := Lib.hid (by rw [hR, if_pos hn16])
            clear hR hn0 hn16 h' e0 e1
            go_enter Tryz.func40, Tryz.ntmps40
            go_wp2_with (first | (go_at_call 75; refine HK.out.mono ?_; rintro e w1 ⟨rfl, rfl⟩) | (go_at_call 76; refine (rDigit _ _).mono ?_; rintro e w1 ⟨rfl, rfl⟩))
            go_ret
            exact ⟨by rw [HR.out]; rfl, HB0.out⟩
          rw [if_neg hn16] at hR
          have hn16z : (n : Int) ≤ 16 := by omega
          have HR : Hid (R = subsR (subs.drop 0) (authE auth)) := Lib.hid (by rw [hR, List.drop_zero])
          clear hR hn0 hn16 h' e0 e1
          go_enter Tryz.func40, Tryz.ntmps40
          go_wp2_with (first | (go_at_call 75; refine HK.out.mono ?_; rintro e w1 ⟨rfl, rfl⟩) | (go_at_call 76; refine (rDigit _ _).mono ?_; rintro e w1 ⟨rfl, rfl⟩))
          go_loopw [3]  (fun vk wr => ∃ k : Nat, vk = .int .i64 k ∧ k ≤ n ∧ Hid (R = subsR (subs.drop k) (authE auth)) ∧ Hid (Below (fldW w T I sa n sc auth).heap.size (fldW w T I sa n sc auth) wr)) (fun vk _ => n - (intOf vk).toNat)
          case atStart => exact ⟨0, rfl, by omega, HR, Lib.hid (Below.refl _ _)⟩
          case round =>
            obtain ⟨k, rfl, hk, HKK, HB⟩ := hrel
            have q2 := block_cells HB.out 2 (.slice sa n sc) rfl
            have q3 := block_cells HB.out 3 (.int .i64 auth) rfl
            have HBW := Lib.hid (HB0.out.bt HB.out)
            by_cases hlt : k < n
            · have hltz : (k : Int) < (n : Int) := by omega
              obtain ⟨s, hs⟩ : ∃ s, subs[k]? = some s := ⟨_, List.getElem?_eq_getElem (by have := HN.out; omega)⟩
              rcases HC.out with h0 | ⟨b, o, rfl, hbl, hcl⟩
              · rw [h0] at hs; cases hs
              obtain ⟨p0, p1⟩ := sub_cells (hcl k s hs)
              replace p0 := (HBW.out.cell (p := ⟨b, o + k * 2, none⟩) hbl).trans p0
              replace p1 := (HBW.out.cell (p := ⟨b, o + k * 2 + 1, none⟩) hbl).trans p1
              have hst := HKK.out
              rw [subsR_step (authE auth) hs] at hst
              have hv := HS.out s (List.mem_of_getElem? hs)
              have hcs := subErr_cases s
              obtain ⟨c, v⟩ := s
              simp only at p0 p1 hv hcs
              have hcd := rCode c (wr.alloc (.cells #[.int .u8 (c : Int), .string v] 54))
              have hvl := rValid v (wr.alloc (.cells #[.int .u8 (c : Int), .string v] 54)) (by omega)
              have hz := empty_of v
              have HBW1 : Hid (Below w.heap.size w (wr.alloc (.cells #[.int .u8 (c : Int), .string v] 54))) := Lib.hid (HBW.out.alloc HBW.out.size _)
              have HB1 : Hid (Below (fldW w T I (some ⟨b, o, none⟩) n sc auth).heap.size (fldW w T I (some ⟨b, o, none⟩) n sc auth) (wr.alloc (.cells #[.int .u8 (c : Int), .string v] 54))) := Lib.hid (HB.out.alloc HB.out.size _)
              clear HKK hs hcl
              rcases hcs with ⟨a1, a9⟩ | ⟨a1, a2, a9⟩ | ⟨a1, a2, a3, a9⟩ | ⟨a1, a2, a3, a4, a9⟩ | ⟨a1, a2, a3, a4, a9⟩
              · rw [a9] at hst
                rw [a1] at hcd
                have HT : Hid (R = 1) := Lib.hid hst
                have HCD := Lib.hid hcd
                clear hst hcd hvl hz a1 a9 HR
                go_wp2_with fail
                refine HCD.out.mono ?_
                rintro e w1 ⟨rfl, rfl⟩
                go_wp2
                go_ret
                exact ⟨by rw [HT.out]; rfl, HBW1.out⟩
              · rw [a9] at hst
                rw [a1] at hcd
                rw [decide_eq_true a2] at hz
                have HT : Hid (R = 8) := Lib.hid hst
                have HCD := Lib.hid hcd
                clear hst hcd hvl a1 a2 a9 HR
                go_wp2_with fail
                refine HCD.out.mono ?_
                rintro e w1 ⟨rfl, rfl⟩
                go_wp2
                go_ret
                exact ⟨by rw [HT.out]; rfl, HBW1.out⟩
              · rw [a9] at hst
                rw [a1] at hcd
                rw [decide_eq_false a2] at hz
                rw [a3] at hvl
                have HT : Hid (R = 3) := Lib.hid hst
                have HCD := Lib.hid hcd
                have HVL := Lib.hid hvl
                clear hst hcd hvl a1 a2 a3 a9 HR
                go_wp2_with fail
                refine HCD.out.mono ?_
                rintro e w1 ⟨rfl, rfl⟩
                go_wp2_with fail
                refine HVL.out.mono ?_
                rintro e w2 ⟨rfl, d2⟩
                have HB2 := Lib.hid (HBW1.out.trans (d2.below w.heap.size))
                clear d2
                go_wp2
                go_ret
                exact ⟨by rw [HT.out]; rfl, HB2.out⟩
              · rw [a9] at hst
                rw [a1] at hcd
                rw [decide_eq_false a2] at hz
                rw [a3] at hvl
                have b4 : (200 : Int) < ((v.size : Nat) : Int) := by omega
                have HT : Hid (R = 4) := Lib.hid hst
                have HCD := Lib.hid hcd
                have HVL := Lib.hid hvl
                clear hst hcd hvl a1 a2 a3 a4 a9 HR
                go_wp2_with fail
                refine HCD.out.mono ?_
                rintro e w1 ⟨rfl, rfl⟩
                go_wp2_with fail
                refine HVL.out.mono ?_
                rintro e w2 ⟨rfl, d2⟩
                have r1 := block_cells (d2.below _) 1 (.string v) rfl
                have HB2 := Lib.hid (HBW1.out.trans (d2.below w.heap.size))
                clear d2
                go_wp2
                go_ret
                exact ⟨by rw [HT.out]; rfl, HB2.out⟩
              · rw [a9] at hst
                rw [a1] at hcd
                rw [decide_eq_false a2] at hz
                rw [a3] at hvl
                have b4 : ((v.size : Nat) : Int) ≤ 200 := by omega
                have HT : Hid (R = subsR (subs.drop (k + 1)) (authE auth)) := Lib.hid hst
                have HCD := Lib.hid hcd
                have HVL := Lib.hid hvl
                clear hst hcd hvl a1 a2 a3 a4 a9 HR
                go_wp2_with fail
                refine HCD.out.mono ?_
                rintro e w1 ⟨rfl, rfl⟩
                go_wp2_with fail
                refine HVL.out.mono ?_
                rintro e w2 ⟨rfl, d2⟩
                have r1 := block_cells (d2.below _) 1 (.string v) rfl
                have HB2 := Lib.hid (HB1.out.trans (d2.below _))
                clear d2
                go_wp2
                go_roundw
                case rel => exact ⟨k + 1, by go_num, by omega, HT, HB2⟩
                case measure => simp [intOf]; omega
            · have hltz : ¬ (k : Int) < (n : Int) := by omega
              have hst := HKK.out
              rw [subsR_end (authE auth) (by have := HN.out; omega)] at hst
              clear HKK HR
              rcases authE_cases auth with ⟨a1, a9⟩ | ⟨a1, a2, a9⟩ | ⟨a1, a2, a9⟩
              all_goals
                rw [a9] at hst
                have HT := Lib.hid hst
                clear hst a9
                go_wp2
                go_ret
                exact ⟨by rw [HT.out]; rfl, HBW.out⟩
        · rw [e0, e1] at h'
          rw [h'] at hR
          have HR : Hid (R = 3) := Lib.hid (by rw [hR, if_pos (by simp)])
          clear hR h' e0 e1
          go_enter Tryz.func40, Tryz.ntmps40
          go_wp2_with (first | (go_at_call 75; refine HK.out.mono ?_; rintro e w1 ⟨rfl, rfl⟩) | (go_at_call 76; refine (rDigit _ _).mono ?_; rintro e w1 ⟨rfl, rfl⟩))
          go_ret
          exact ⟨by rw [HR.out]; rfl, HB0.out⟩
      · clear f1
        rw [e0] at h'
        rw [h'] at hR
        have HR : Hid (R = 3) := Lib.hid (by rw [hR, if_pos (by simp)])
        clear hR h' e0
        go_enter Tryz.func40, Tryz.ntmps40
        go_wp2_with (first | (go_at_call 75; refine HK.out.mono ?_; rintro e w1 ⟨rfl, rfl⟩) | (go_at_call 76; refine (rDigit _ _).mono ?_; rintro e w1 ⟨rfl, rfl⟩))
        go_ret
        exact ⟨by rw [HR.out]; rfl, HB0.out⟩
end Go.Proofs.YtkfjeolpbopcnaaGreatDoor
