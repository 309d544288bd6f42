/- The walk of the program's Right of a field (layers 18, 16, 08). -/
import Derived.Test.YtkfjeolpbopcnaaGreatDoorMfs
namespace Go.Proofs.YtkfjeolpbopcnaaGreatDoor
open Go Go.RowKit

theorem tagOk_cases (T : ByteArray) : (T.size ≠ 3 ∧ tagOk T.data.toList = false) ∨ (T.size = 3 ∧ T.data.toList.all dgB = false ∧ tagOk T.data.toList = false) ∨ (T.size = 3 ∧ T.data.toList.all dgB = true ∧ Op.bytesLess T.toList [48, 49, 48] = true ∧ tagOk T.data.toList = false) ∨ (T.size = 3 ∧ T.data.toList.all dgB = true ∧ Op.bytesLess T.toList [48, 49, 48] = false ∧ tagOk T.data.toList = true) := by
  unfold tagOk
  rw [len_lst, ByteArray.toList_eq]
  by_cases h : T.size = 3
  · rw [h]
    cases T.data.toList.all dgB
    · exact .inr (.inl ⟨rfl, rfl, rfl⟩)
    · cases Op.bytesLess T.data.toList [48, 49, 48]
      · exact .inr (.inr (.inr ⟨rfl, rfl, rfl, rfl⟩))
      · exact .inr (.inr (.inl ⟨rfl, rfl, rfl, rfl⟩))
  · exact .inl ⟨h, by simp [h]⟩

set_option maxRecDepth 100000 in
set_option maxHeartbeats 8000000 in
theorem pFldRight (f : Fld) (w : World) (hE : Env w) (hf : FldAt w f) (hs : f.small) :
    Calls Tryz.prog 39 #[.agg #[.string (lb f.tag), .string (lb f.ind), .slice f.sa f.subs.length f.sc, .int .i64 f.auth]] w fun e w' => e = .returned (.int .i64 (fldErr f)) ∧ Below w.heap.size w w' := by
  obtain ⟨R, hR⟩ : ∃ R, R = fldErr f := ⟨_, rfl⟩
  rw [← hR]
  rw [fldErr_eq] at hR
  obtain ⟨tag, ind, subs, auth, sa, sc⟩ := f
  obtain ⟨hs1, hs2, -⟩ := hs
  obtain ⟨a', c', he, hc, hcells⟩ := hf
  simp only at hs1 hs2 hcells hc he hR ⊢
  cases he
  obtain ⟨T, hT⟩ : ∃ T, T = lb tag := ⟨_, rfl⟩
  obtain ⟨I, hI⟩ : ∃ I, I = lb ind := ⟨_, rfl⟩
  have hTd : tag = T.data.toList := by rw [hT, lb_data]
  have hId : ind = I.data.toList := by rw [hI, lb_data]
  rw [hTd, hId] at hR
  rw [← hT, ← hI]
  obtain ⟨n, hnn⟩ : ∃ n, n = subs.length := ⟨_, rfl⟩
  rw [← hnn] at hs1 hc hR ⊢
  have HB0 : Hid (Below w.heap.size w (fldW w T I sa n sc auth)) := Lib.hid ((Below.refl _ _).alloc (Nat.le_refl _) _)
  have HE : Hid (Env (fldW w T I sa n sc auth)) := Lib.hid (hE.below HB0.out)
  have HN := Lib.hid hnn
  have HC := Lib.hid hcells
  have HS := Lib.hid hs2
  clear hT hI hTd hId hnn hcells hs2 hE
  rcases tagOk_cases T with ⟨h1, h9⟩ | ⟨h1, h2, h9⟩ | ⟨h1, h2, h3, h9⟩ | ⟨h1, h2, h3, h9⟩
  · have n3 : (((T.size : Nat) : Int) != 3) = true := by
      have : ((T.size : Nat) : Int) ≠ 3 := by omega
      simpa using this
    rw [h9] at hR
    have HR : Hid (R = 6) := Lib.hid (by rw [hR, if_pos rfl])
    clear hR h9 h1
    go_enter Tryz.func39, Tryz.ntmps39
    go_wp2
    go_ret
    exact ⟨by rw [HR.out]; rfl, HB0.out⟩
  · have n3 : (((T.size : Nat) : Int) != 3) = false := by
      have : ((T.size : Nat) : Int) = 3 := by omega
      simpa using this
    rw [h9] at hR
    have hdt := pDigits T (fldW w T I sa n sc auth) (by omega)
    rw [h2] at hdt
    have HR : Hid (R = 6) := Lib.hid (by rw [hR, if_pos rfl])
    have HDT := Lib.hid hdt
    clear hR h9 h1 h2 hdt
    go_enter Tryz.func39, Tryz.ntmps39
    go_wp2_with fail
    refine HDT.out.mono ?_
    rintro e w1 ⟨rfl, b1⟩
    have q0 := block_cells b1 0 (.string T) rfl
    have q1 := block_cells b1 1 (.string I) rfl
    have q2 := block_cells b1 2 (.slice sa n sc) rfl
    have q3 := block_cells b1 3 (.int .i64 auth) rfl
    have HB1 : Hid (Below (fldW w T I sa n sc auth).heap.size (fldW w T I sa n sc auth) w1) := Lib.hid b1
    have HW1 := Lib.hid (HB0.out.bt b1)
    clear b1
    go_wp2
    go_ret
    exact ⟨by rw [HR.out]; rfl, HW1.out⟩
  · have n3 : (((T.size : Nat) : Int) != 3) = false := by
      have : ((T.size : Nat) : Int) = 3 := by omega
      simpa using this
    rw [h9] at hR
    have hdt := pDigits T (fldW w T I sa n sc auth) (by omega)
    rw [h2] at hdt
    have HR : Hid (R = 6) := Lib.hid (by rw [hR, if_pos rfl])
    have HDT := Lib.hid hdt
    clear hR h9 h1 h2 hdt
    go_enter Tryz.func39, Tryz.ntmps39
    go_wp2_with fail
    refine HDT.out.mono ?_
    rintro e w1 ⟨rfl, b1⟩
    have q0 := block_cells b1 0 (.string T) rfl
    have q1 := block_cells b1 1 (.string I) rfl
    have q2 := block_cells b1 2 (.slice sa n sc) rfl
    have q3 := block_cells b1 3 (.int .i64 auth) rfl
    have HB1 : Hid (Below (fldW w T I sa n sc auth).heap.size (fldW w T I sa n sc auth) w1) := Lib.hid b1
    have HW1 := Lib.hid (HB0.out.bt b1)
    clear b1
    go_wp2
    go_ret
    exact ⟨by rw [HR.out]; rfl, HW1.out⟩
  · have n3 : (((T.size : Nat) : Int) != 3) = false := by
      have : ((T.size : Nat) : Int) = 3 := by omega
      simpa using this
    rw [h9, if_neg (by simp)] at hR
    have hdt := pDigits T (fldW w T I sa n sc auth) (by omega)
    rw [h2] at hdt
    have HDT := Lib.hid hdt
    clear h9 h1 h2 hdt
    rcases ind_cases I with ⟨h, h'⟩ | ⟨h, h'⟩
    · rw [h'] at hR
      have HR : Hid (R = 3) := Lib.hid (by rw [hR, if_pos rfl])
      have n2 : (((I.size : Nat) : Int) != 2) = true := by
        have : ((I.size : Nat) : Int) ≠ 2 := by omega
        simpa using this
      clear hR h h'
      go_enter Tryz.func39, Tryz.ntmps39
      go_wp2_with fail
      refine HDT.out.mono ?_
      rintro e w1 ⟨rfl, b1⟩
      have q0 := block_cells b1 0 (.string T) rfl
      have q1 := block_cells b1 1 (.string I) rfl
      have q2 := block_cells b1 2 (.slice sa n sc) rfl
      have q3 := block_cells b1 3 (.int .i64 auth) rfl
      have HB1 : Hid (Below (fldW w T I sa n sc auth).heap.size (fldW w T I sa n sc auth) w1) := Lib.hid b1
      have HW1 := Lib.hid (HB0.out.bt b1)
      clear b1
      go_wp2
      go_ret
      exact ⟨by rw [HR.out]; rfl, HW1.out⟩
    · have n2 : (((I.size : Nat) : Int) != 2) = false := by
        have : ((I.size : Nat) : Int) = 2 := by omega
        simpa using this
      have hrp := fun W hW => pReplaceAll I W hW (by omega)
      have hdi := fun W => pDigits ⟨(Lib.replaceAll I.data.toList [32] [48]).toArray⟩ W (by rw [two_of I h, replace_two]; show 2 ≤ 4000000000; omega)
      have hall : (⟨(Lib.replaceAll I.data.toList [32] [48]).toArray⟩ : ByteArray).data.toList.all dgB = indOk I.data.toList := by
        rw [h', two_of I h, replace_two]
        simp [noBlank_dg]
      simp only [hall] at hdi
      obtain ⟨J, hJ⟩ : ∃ J : ByteArray, J = ⟨(Lib.replaceAll I.data.toList [32] [48]).toArray⟩ := ⟨_, rfl⟩
      simp only [← hJ] at hdi hrp
      obtain ⟨D, hD⟩ : ∃ D, D = indOk I.data.toList := ⟨_, rfl⟩
      rw [← hD] at hR
      simp only [← hD] at hdi
      have HRP := Lib.hid hrp
      have HDI := Lib.hid hdi
      clear hrp hdi hall hJ hD h' h
      cases D with
      | false =>
        have HR : Hid (R = 3) := Lib.hid (by rw [hR, if_pos rfl])
        clear hR
        go_enter Tryz.func39, Tryz.ntmps39
        go_wp2_with fail
        refine HDT.out.mono ?_
        rintro e w1 ⟨rfl, b1⟩
        have q0 := block_cells b1 0 (.string T) rfl
        have q1 := block_cells b1 1 (.string I) rfl
        have q2 := block_cells b1 2 (.slice sa n sc) rfl
        have q3 := block_cells b1 3 (.int .i64 auth) rfl
        have HB1 : Hid (Below (fldW w T I sa n sc auth).heap.size (fldW w T I sa n sc auth) w1) := Lib.hid b1
        have HW1 := Lib.hid (HB0.out.bt b1)
        clear b1
        go_wp2_with fail
        refine (HRP.out w1 (HE.out.below HB1.out)).mono ?_
        rintro e w2 ⟨rfl, b2⟩
        have HB2 := Lib.hid (HB1.out.bt b2)
        clear b2 q0 q1 q2 q3
        go_wp2_with fail
        refine (HDI.out w2).mono ?_
        rintro e w3 ⟨rfl, b3⟩
        have HB3 := Lib.hid (HB2.out.bt b3)
        have HW3 := Lib.hid (HB0.out.bt HB3.out)
        have q2 := block_cells HB3.out 2 (.slice sa n sc) rfl
        have q3 := block_cells HB3.out 3 (.int .i64 auth) rfl
        clear b3
        go_wp2
        go_ret
        exact ⟨by rw [HR.out]; rfl, HW3.out⟩
      | true =>
        rw [if_neg (by simp)] at hR
        by_cases hn0 : n = 0
        · have zn : ((n : Int) == 0) = true := by
            have : (n : Int) = 0 := by omega
            simpa using this
          have HR : Hid (R = 8) := Lib.hid (by rw [hR, if_pos hn0])
          clear hR hn0
          go_enter Tryz.func39, Tryz.ntmps39
          go_wp2_with fail
          refine HDT.out.mono ?_
          rintro e w1 ⟨rfl, b1⟩
          have q0 := block_cells b1 0 (.string T) rfl
          have q1 := block_cells b1 1 (.string I) rfl
          have q2 := block_cells b1 2 (.slice sa n sc) rfl
          have q3 := block_cells b1 3 (.int .i64 auth) rfl
          have HB1 : Hid (Below (fldW w T I sa n sc auth).heap.size (fldW w T I sa n sc auth) w1) := Lib.hid b1
          have HW1 := Lib.hid (HB0.out.bt b1)
          clear b1
          go_wp2_with fail
          refine (HRP.out w1 (HE.out.below HB1.out)).mono ?_
          rintro e w2 ⟨rfl, b2⟩
          have HB2 := Lib.hid (HB1.out.bt b2)
          clear b2 q0 q1 q2 q3
          go_wp2_with fail
          refine (HDI.out w2).mono ?_
          rintro e w3 ⟨rfl, b3⟩
          have HB3 := Lib.hid (HB2.out.bt b3)
          have HW3 := Lib.hid (HB0.out.bt HB3.out)
          have q2 := block_cells HB3.out 2 (.slice sa n sc) rfl
          have q3 := block_cells HB3.out 3 (.int .i64 auth) rfl
          clear b3
          go_wp2
          go_ret
          exact ⟨by rw [HR.out]; rfl, HW3.out⟩
        rw [if_neg hn0] at hR
        have zn : ((n : Int) == 0) = false := by
          have : (n : Int) ≠ 0 := by omega
          simpa using this
        by_cases hn16 : 16 < n
        · have hn16z : (16 : Int) < (n : Int) := by omega
          have HR : Hid (R = 4) := Lib.hid (by rw [hR, if_pos hn16])
          clear hR hn0 hn16
          go_enter Tryz.func39, Tryz.ntmps39
          go_wp2_with fail
          refine HDT.out.mono ?_
          rintro e w1 ⟨rfl, b1⟩
          have q0 := block_cells b1 0 (.string T) rfl
          have q1 := block_cells b1 1 (.string I) rfl
          have q2 := block_cells b1 2 (.slice sa n sc) rfl
          have q3 := block_cells b1 3 (.int .i64 auth) rfl
          have HB1 : Hid (Below (fldW w T I sa n sc auth).heap.size (fldW w T I sa n sc auth) w1) := Lib.hid b1
          have HW1 := Lib.hid (HB0.out.bt b1)
          clear b1
          go_wp2_with fail
          refine (HRP.out w1 (HE.out.below HB1.out)).mono ?_
          rintro e w2 ⟨rfl, b2⟩
          have HB2 := Lib.hid (HB1.out.bt b2)
          clear b2 q0 q1 q2 q3
          go_wp2_with fail
          refine (HDI.out w2).mono ?_
          rintro e w3 ⟨rfl, b3⟩
          have HB3 := Lib.hid (HB2.out.bt b3)
          have HW3 := Lib.hid (HB0.out.bt HB3.out)
          have q2 := block_cells HB3.out 2 (.slice sa n sc) rfl
          have q3 := block_cells HB3.out 3 (.int .i64 auth) rfl
          clear b3
          go_wp2
          go_ret
          exact ⟨by rw [HR.out]; rfl, HW3.out⟩
        rw [if_neg hn16] at hR
        have hn16z : (n : Int) ≤ 16 := by omega
        have HR : Hid (R = subsR (subs.drop 0) (authE auth)) := Lib.hid (by rw [hR, List.drop_zero])
        clear hR hn0 hn16
        go_enter Tryz.func39, Tryz.ntmps39
        go_wp2_with fail
        refine HDT.out.mono ?_
        rintro e w1 ⟨rfl, b1⟩
        have q0 := block_cells b1 0 (.string T) rfl
        have q1 := block_cells b1 1 (.string I) rfl
        have q2 := block_cells b1 2 (.slice sa n sc) rfl
        have q3 := block_cells b1 3 (.int .i64 auth) rfl
        have HB1 : Hid (Below (fldW w T I sa n sc auth).heap.size (fldW w T I sa n sc auth) w1) := Lib.hid b1
        have HW1 := Lib.hid (HB0.out.bt b1)
        clear b1
        go_wp2_with fail
        refine (HRP.out w1 (HE.out.below HB1.out)).mono ?_
        rintro e w2 ⟨rfl, b2⟩
        have HB2 := Lib.hid (HB1.out.bt b2)
        clear b2 q0 q1 q2 q3
        go_wp2_with fail
        refine (HDI.out w2).mono ?_
        rintro e w3 ⟨rfl, b3⟩
        have HB3 := Lib.hid (HB2.out.bt b3)
        have HW3 := Lib.hid (HB0.out.bt HB3.out)
        have q2 := block_cells HB3.out 2 (.slice sa n sc) rfl
        have q3 := block_cells HB3.out 3 (.int .i64 auth) rfl
        clear b3
        go_wp2
        go_loopw [47] (fun vk wr => ∃ k : Nat, vk = .int .i64 k ∧ k ≤ n ∧ Hid (R = subsR (subs.drop k) (authE auth)) ∧ Hid (Below (fldW w T I sa n sc auth).heap.size (fldW w T I sa n sc auth) wr)) (fun vk _ => n - (intOf vk).toNat)
        case atStart => exact ⟨0, rfl, by omega, HR, HB3⟩
        case round =>
          obtain ⟨k, rfl, hk, HKK, HB⟩ := hrel
          have q3 := block_cells HB.out 3 (.int .i64 auth) rfl
          have HBW := Lib.hid (HB0.out.bt HB.out)
          by_cases hlt : k < n
          · have hltz : (k : Int) < (n : Int) := by omega
            obtain ⟨s, hs⟩ : ∃ s, subs[k]? = some s := ⟨_, List.getElem?_eq_getElem (by have := HN.out; omega)⟩
            rcases HC.out with h0 | ⟨b, o, rfl, hbl, hcl⟩
            · rw [h0] at hs; cases hs
            obtain ⟨p0, p1⟩ := sub_cells (hcl k s hs)
            replace p0 := (HBW.out.cell (p := ⟨b, o + k * 2, none⟩) hbl).trans p0
            replace p1 := (HBW.out.cell (p := ⟨b, o + k * 2 + 1, none⟩) hbl).trans p1
            have hst := HKK.out
            rw [subsR_step (authE auth) hs] at hst
            have hv := HS.out s (List.mem_of_getElem? hs)
            obtain ⟨c, v⟩ := s
            simp only at p0 p1 hv
            have HB1 : Hid (Below (fldW w T I (some ⟨b, o, none⟩) n sc auth).heap.size (fldW w T I (some ⟨b, o, none⟩) n sc auth) (wr.alloc (.cells #[.int .u8 (c : Int), .string v] 54))) := Lib.hid (HB.out.alloc HB.out.size _)
            have hck := pCheckSub c v (wr.alloc (.cells #[.int .u8 (c : Int), .string v] 54)) (HE.out.below HB1.out) (by omega)
            obtain ⟨x, hx⟩ : ∃ x, x = subErr (c, v) := ⟨_, rfl⟩
            rw [← hx] at hst hck
            have HCK := Lib.hid hck
            clear HKK hs hcl hck hx HR
            by_cases h3 : x = 0
            · subst h3
              rw [if_neg (by simp)] at hst
              have HT := Lib.hid hst
              clear hst
              go_wp2_with fail
              refine HCK.out.mono ?_
              rintro e w4 ⟨rfl, b4⟩
              have HB4 := Lib.hid (HB1.out.bt b4)
              clear b4
              go_wp2
              go_roundw
              case rel => exact ⟨k + 1, by go_num, by omega, HT, HB4⟩
              case measure => simp [intOf]; omega
            · rw [if_pos h3] at hst
              have HT := Lib.hid hst
              have h3' : (x != 0) = true := by simpa using h3
              clear hst h3
              go_wp2_with fail
              refine HCK.out.mono ?_
              rintro e w4 ⟨rfl, b4⟩
              have HW4 := Lib.hid (HB0.out.bt (HB1.out.bt b4))
              clear b4
              go_wp2
              go_ret
              exact ⟨by rw [HT.out]; rfl, HW4.out⟩
          · have hltz : ¬ (k : Int) < (n : Int) := by omega
            have hst := HKK.out
            rw [subsR_end (authE auth) (by have := HN.out; omega)] at hst
            clear HKK HR
            rcases authE_cases auth with ⟨a1, a9⟩ | ⟨a1, a2, a9⟩ | ⟨a1, a2, a9⟩
            all_goals
              rw [a9] at hst
              have HT := Lib.hid hst
              clear hst a9
              go_wp2
              go_ret
              exact ⟨by rw [HT.out]; rfl, HBW.out⟩
end Go.Proofs.YtkfjeolpbopcnaaGreatDoor
