/- The walks of fields on the program's side: codes, digits, subfields (layers 18, 16, 08). -/
import Derived.Test.YtkfjeolpbopcnaaGreatDoorMgr
import Derived.Test.YtkfjeolpbopcnaaGreatDoorPvl
import Derived.Test.YtkfjeolpbopcnaaGreatDoorMfq
namespace Go.Proofs.YtkfjeolpbopcnaaGreatDoor
open Go Go.RowKit

theorem coded_cases (c : Nat) : (97 ≤ c ∧ c ≤ 122 ∧ codeB c = true) ∨ (97 ≤ c ∧ 122 < c ∧ codeB c = false) ∨ (c < 97 ∧ 48 ≤ c ∧ c ≤ 57 ∧ codeB c = true) ∨ (c < 97 ∧ 48 ≤ c ∧ 57 < c ∧ codeB c = false) ∨ (c < 97 ∧ c < 48 ∧ codeB c = false) := by
  unfold codeB
  simp only [decide_eq_true_eq, decide_eq_false_iff_not]
  omega
set_option maxRecDepth 100000 in
set_option maxHeartbeats 1000000 in
theorem pCoded (c : Nat) (w : World) :
    Calls Tryz.prog 103 #[.int .u8 (c : Int)] w fun e w' => e = .returned (.bool (codeB c)) ∧ w' = w := by
  obtain ⟨C, hC⟩ : ∃ C, C = codeB c := ⟨_, rfl⟩
  have hcs := coded_cases c
  rw [← hC] at hcs
  rw [← hC]
  clear hC
  rcases hcs with ⟨h1, h2, rfl⟩ | ⟨h1, h2, rfl⟩ | ⟨h1, h2, h3, rfl⟩ | ⟨h1, h2, h3, rfl⟩ | ⟨h1, h2, rfl⟩
  · have a1 : (97 : Int) ≤ (c : Int) := by omega
    have a2 : (c : Int) ≤ 122 := by omega
    clear h1 h2
    go_enter Tryz.func103, Tryz.ntmps103
    go_wp2
    go_ret
    exact ⟨rfl, rfl⟩
  · have a1 : (97 : Int) ≤ (c : Int) := by omega
    have a2 : (122 : Int) < (c : Int) := by omega
    have a3 : (48 : Int) ≤ (c : Int) := by omega
    have a4 : (57 : Int) < (c : Int) := by omega
    clear h1 h2
    go_enter Tryz.func103, Tryz.ntmps103
    go_wp2
    go_ret
    exact ⟨retb (by rw [Bool.or_eq_false_iff]; exact ⟨decide_eq_false (by omega), decide_eq_false (by omega)⟩), rfl⟩
  · have a1 : (c : Int) < 97 := by omega
    have a2 : (48 : Int) ≤ (c : Int) := by omega
    have a3 : (c : Int) ≤ 57 := by omega
    clear h1 h2 h3
    go_enter Tryz.func103, Tryz.ntmps103
    go_wp2
    go_ret
    exact ⟨rfl, rfl⟩
  · have a1 : (c : Int) < 97 := by omega
    have a2 : (48 : Int) ≤ (c : Int) := by omega
    have a3 : (57 : Int) < (c : Int) := by omega
    clear h1 h2 h3
    go_enter Tryz.func103, Tryz.ntmps103
    go_wp2
    go_ret
    exact ⟨retb (decide_eq_false (by omega)), rfl⟩
  · have a1 : (c : Int) < 97 := by omega
    have a2 : (c : Int) < 48 := by omega
    clear h1 h2
    go_enter Tryz.func103, Tryz.ntmps103
    go_wp2
    go_ret
    exact ⟨rfl, rfl⟩

set_option maxRecDepth 100000 in
set_option maxHeartbeats 1000000 in
theorem pDigits (s : ByteArray) (w : World) (hs : s.size ≤ 4000000000) :
    Calls Tryz.prog 72 #[.string s] w fun e w' => e = .returned (.bool (s.data.toList.all dgB)) ∧ Below w.heap.size w w' := by
  have ht : Calls Tryz.prog 38 #[.string s, .string ⟨#[48, 49, 50, 51, 52, 53, 54, 55, 56, 57]⟩] w fun e w' => e = .returned (.string ⟨(Lib.trimS s.data.toList [48, 49, 50, 51, 52, 53, 54, 55, 56, 57]).toArray⟩) ∧ Below w.heap.size w w' :=
    Any.strings_Trim_laid Tryz.lays160 (by kernel_rfl) s ⟨#[48, 49, 50, 51, 52, 53, 54, 55, 56, 57]⟩ w (by omega) (by decide) (ascii_of_all (by decide))
  have hq : (⟨(Lib.trimS s.data.toList [48, 49, 50, 51, 52, 53, 54, 55, 56, 57]).toArray⟩ : ByteArray).toList.isEmpty = s.data.toList.all dgB := by
    rw [ByteArray.toList_eq]
    exact trim_set dig_set s.data.toList
  obtain ⟨T, hT⟩ : ∃ T : ByteArray, T = ⟨(Lib.trimS s.data.toList [48, 49, 50, 51, 52, 53, 54, 55, 56, 57]).toArray⟩ := ⟨_, rfl⟩
  rw [← hT] at ht hq
  obtain ⟨D, hD⟩ : ∃ D, D = s.data.toList.all dgB := ⟨_, rfl⟩
  rw [← hD] at hq ⊢
  have HT := Lib.hid ht
  clear ht hT hD
  cases D
  all_goals
    go_enter Tryz.func72, Tryz.ntmps72
    go_wp2_with fail
    refine HT.out.mono ?_
    rintro e w1 ⟨rfl, b1⟩
    go_wp2
    go_ret
    exact ⟨rfl, b1⟩
set_option maxRecDepth 100000 in
set_option maxHeartbeats 1000000 in
theorem pCheckSub (c : Nat) (v : ByteArray) (w : World) (hE : Env w) (hs : v.size ≤ 1000000) :
    Calls Tryz.prog 74 #[.agg #[.int .u8 (c : Int), .string v]] w fun e w' => e = .returned (.int .i64 (subErr (c, v))) ∧ Below w.heap.size w w' := by
  have hb0 : Below w.heap.size w (w.alloc (.cells #[.int .u8 (c : Int), .string v] 54)) := (Below.refl _ _).alloc (Nat.le_refl _) _
  have hcd := pCoded c (w.alloc (.cells #[.int .u8 (c : Int), .string v] 54))
  have hvl := pValid v (w.alloc (.cells #[.int .u8 (c : Int), .string v] 54)) (hE.below hb0) (by omega)
  have HB := Lib.hid hb0
  obtain ⟨R, hR⟩ : ∃ R, R = subErr (c, v) := ⟨_, rfl⟩
  rw [← hR]
  unfold subErr at hR
  simp only at hR
  have hz := empty_of v
  obtain ⟨C, hC⟩ : ∃ C, C = codeB c := ⟨_, rfl⟩
  rw [← hC] at hR hcd
  obtain ⟨T, hT⟩ : ∃ T, T = isText v.data.toList := ⟨_, rfl⟩
  rw [← hT] at hR hvl
  have HCD := Lib.hid hcd
  have HVL := Lib.hid hvl
  clear hC hT hcd hvl hb0
  cases C with
  | false =>
    have HR : Hid (R = 1) := Lib.hid (by rw [hR, if_pos rfl])
    clear hR hz
    go_enter Tryz.func74, Tryz.ntmps74
    go_wp2_with fail
    refine HCD.out.mono ?_
    rintro e w1 ⟨rfl, rfl⟩
    go_wp2
    go_ret
    exact ⟨by rw [HR.out]; rfl, HB.out⟩
  | true =>
    rw [if_neg (by simp)] at hR
    by_cases h0 : v.size = 0
    · rw [decide_eq_true h0] at hz
      have HR : Hid (R = 8) := Lib.hid (by rw [hR, if_pos h0])
      clear hR h0
      go_enter Tryz.func74, Tryz.ntmps74
      go_wp2_with fail
      refine HCD.out.mono ?_
      rintro e w1 ⟨rfl, rfl⟩
      go_wp2
      go_ret
      exact ⟨by rw [HR.out]; rfl, HB.out⟩
    · rw [decide_eq_false h0] at hz
      rw [if_neg h0] at hR
      clear h0
      cases T with
      | false =>
        have HR : Hid (R = 3) := Lib.hid (by rw [hR, if_pos rfl])
        clear hR
        go_enter Tryz.func74, Tryz.ntmps74
        go_wp2_with fail
        refine HCD.out.mono ?_
        rintro e w1 ⟨rfl, rfl⟩
        go_wp2_with fail
        refine HVL.out.mono ?_
        rintro e w2 ⟨rfl, b2⟩
        have HB2 := Lib.hid (HB.out.bt b2)
        clear b2
        go_wp2
        go_ret
        exact ⟨by rw [HR.out]; rfl, HB2.out⟩
      | true =>
        rw [if_neg (by simp)] at hR
        by_cases h4 : 200 < v.size
        · have HR : Hid (R = 4) := Lib.hid (by rw [hR, if_pos h4])
          have a4 : (200 : Int) < ((v.size : Nat) : Int) := by omega
          clear hR h4
          go_enter Tryz.func74, Tryz.ntmps74
          go_wp2_with fail
          refine HCD.out.mono ?_
          rintro e w1 ⟨rfl, rfl⟩
          go_wp2_with fail
          refine HVL.out.mono ?_
          rintro e w2 ⟨rfl, b2⟩
          have q1 := block_cells b2 1 (.string v) rfl
          have HB2 := Lib.hid (HB.out.bt b2)
          clear b2
          go_wp2
          go_ret
          exact ⟨by rw [HR.out]; rfl, HB2.out⟩
        · have HR : Hid (R = 0) := Lib.hid (by rw [hR, if_neg h4])
          have a4 : ((v.size : Nat) : Int) ≤ 200 := by omega
          clear hR h4
          go_enter Tryz.func74, Tryz.ntmps74
          go_wp2_with fail
          refine HCD.out.mono ?_
          rintro e w1 ⟨rfl, rfl⟩
          go_wp2_with fail
          refine HVL.out.mono ?_
          rintro e w2 ⟨rfl, b2⟩
          have q1 := block_cells b2 1 (.string v) rfl
          have HB2 := Lib.hid (HB.out.bt b2)
          clear b2
          go_wp2
          go_ret
          exact ⟨by rw [HR.out]; rfl, HB2.out⟩
end Go.Proofs.YtkfjeolpbopcnaaGreatDoor
