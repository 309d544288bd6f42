/- The walk of the program's Right of a record of a version (layer 18). -/
import Derived.Test.YtimecccphbgdeaaDoorMhr
namespace Go.Proofs.YtimecccphbgdeaaDoor
open Go Go.RowKit

def rightM (r : Rec) : Bool := decide (recErr r = 0) && conforms r.ver r.fields
theorem rightM_bad {r : Rec} (h : recErr r ≠ 0) : rightM r = false := by unfold rightM; simp [h]
theorem rightM_ok {r : Rec} (h : recErr r = 0) : rightM r = conforms r.ver r.fields := by unfold rightM; simp [h]

set_option maxRecDepth 100000 in
set_option maxHeartbeats 4000000 in
theorem pMRight (r : Rec) (a : Option Addr) (n0 c : Nat) (w : World) (hE : Env w) (hv : Flds w (.slice a n0 c) r.fields) (hs : r.small) :
    Calls Tryd.prog 11 #[.agg #[.int .i64 r.id, .int .i64 r.ver, .int .i64 r.kind, .string r.lang, .slice a n0 c]] w fun e w' => e = .returned (.bool (rightM r)) ∧ Below w.heap.size w w' := by
  obtain ⟨W0, hW0⟩ : ∃ W0, W0 = recW w r.id r.ver r.kind r.lang a n0 c := ⟨_, rfl⟩
  have hb0 : Below w.heap.size w W0 := by rw [hW0]; exact (Below.refl _ _).alloc (Nat.le_refl _) _
  have hrr := pRecRight r a n0 c W0 (hE.below hb0) (hv.below hb0 (Nat.le_refl _)) hs
  have HV : Hid (∀ W, Below W0.heap.size W0 W → Flds W (.slice a n0 c) r.fields) := Lib.hid (fun W h => hv.below (hb0.bt h) (Nat.le_refl _))
  have hl := hs.1
  obtain ⟨-, hn⟩ := hv.len
  rw [hW0] at hb0 hrr HV
  have HB0 := Lib.hid hb0
  clear hb0 hW0 W0 hv
  by_cases h0 : recErr r = 0
  · rw [rightM_ok h0]
    rw [h0] at hrr
    obtain ⟨-, hver, -, -, -, hfe⟩ := recErr_ok h0
    rw [← rightV_eq hver]
    have hind : ∀ f ∈ r.fields, f.ind.length = 2 := fun f hf => (fldsErr_ind hfe f hf).1
    have HRR := Lib.hid hrr
    have HIN := Lib.hid hind
    clear hrr hind h0 hfe hE hs
    obtain ⟨id, ver, kind, lang, l⟩ := r
    simp only at HB0 HRR HV HIN hver hl ⊢
    have CELLS : ∀ W, Below (recW w id ver kind lang a n0 c).heap.size (recW w id ver kind lang a n0 c) W → W.cell? ⟨w.heap.size, 0, none⟩ = some (.int .i64 id) ∧ W.cell? ⟨w.heap.size, 1, none⟩ = some (.int .i64 ver) ∧ W.cell? ⟨w.heap.size, 2, none⟩ = some (.int .i64 kind) ∧ W.cell? ⟨w.heap.size, 3, none⟩ = some (.string lang) ∧ W.cell? ⟨w.heap.size, 4, none⟩ = some (.slice a n0 c) :=
      fun W h => ⟨block_cells h 0 _ rfl, block_cells h 1 _ rfl, block_cells h 2 _ rfl, block_cells h 3 _ rfl, block_cells h 4 _ rfl⟩
    have HCL := Lib.hid CELLS
    clear CELLS
    rcases hver with rfl | rfl | rfl
    · obtain ⟨H, hH⟩ : ∃ H, H = hasTag [t264, t490, t830] l := ⟨_, rfl⟩
      have hhas : ∀ W, Below (recW w id 1 kind lang a n0 c).heap.size (recW w id 1 kind lang a n0 c) W → Calls Tryd.prog 30 #[.agg #[.int .i64 id, .int .i64 1, .int .i64 kind, .string lang, .slice a n0 c], .slice (some ⟨W.heap.size, 0, none⟩) 3 3] (W.alloc (.cells #[.string ⟨#[50, 54, 52]⟩, .string ⟨#[52, 57, 48]⟩, .string ⟨#[56, 51, 48]⟩] 9)) fun e w' => e = .returned (.bool H) ∧ Below W.heap.size W w' := fun W h => by
        have hb : Below W.heap.size W (W.alloc (.cells #[.string ⟨#[50, 54, 52]⟩, .string ⟨#[52, 57, 48]⟩, .string ⟨#[56, 51, 48]⟩] 9)) := (Below.refl _ _).alloc (Nat.le_refl _) _
        refine (pHas ⟨id, 1, kind, lang, l⟩ a n0 c _ [t264, t490, t830] (W.alloc (.cells #[.string ⟨#[50, 54, 52]⟩, .string ⟨#[52, 57, 48]⟩, .string ⟨#[56, 51, 48]⟩] 9)) ((HV.out W h).below hb (Nat.le_refl _)) hl (strs_laid W ([t264, t490, t830].map lb) 9) (by decide)).mono ?_
        rintro e w' ⟨rfl, b⟩
        exact ⟨retb hH.symm, hb.bt b⟩
      obtain ⟨A, hA⟩ : ∃ x, x = indicated t260 1 32 l := ⟨_, rfl⟩
      have hcA : ∀ W, Below (recW w id 1 kind lang a n0 c).heap.size (recW w id 1 kind lang a n0 c) W → Calls Tryd.prog 31 #[.agg #[.int .i64 id, .int .i64 1, .int .i64 kind, .string lang, .slice a n0 c], .string ⟨#[50, 54, 48]⟩, .int .i64 1, .int .u8 32] W fun e w' => e = .returned (.bool A) ∧ Below W.heap.size W w' := fun W h => by
        refine Calls.mono (pIndicated ⟨id, 1, kind, lang, l⟩ a n0 c t260 1 32 W (HV.out W h) hl (by decide) HIN.out) ?_
        rintro e w' ⟨rfl, b⟩
        exact ⟨retb hA.symm, b⟩
      obtain ⟨B, hB⟩ : ∃ x, x = indicated t440 0 32 l := ⟨_, rfl⟩
      have hcB : ∀ W, Below (recW w id 1 kind lang a n0 c).heap.size (recW w id 1 kind lang a n0 c) W → Calls Tryd.prog 31 #[.agg #[.int .i64 id, .int .i64 1, .int .i64 kind, .string lang, .slice a n0 c], .string ⟨#[52, 52, 48]⟩, .int .i64 0, .int .u8 32] W fun e w' => e = .returned (.bool B) ∧ Below W.heap.size W w' := fun W h => by
        refine Calls.mono (pIndicated ⟨id, 1, kind, lang, l⟩ a n0 c t440 0 32 W (HV.out W h) hl (by decide) HIN.out) ?_
        rintro e w' ⟨rfl, b⟩
        exact ⟨retb hB.symm, b⟩
      have hr : rightV 1 l = (!H && A && B) := by
        rw [hH, hA, hB]
        rfl
      obtain ⟨R, hR⟩ : ∃ R, R = rightV 1 l := ⟨_, rfl⟩
      rw [← hR] at hr ⊢
      have HR := Lib.hid hr
      have HH := Lib.hid hhas
      have HAA := Lib.hid hcA
      have HBB := Lib.hid hcB
      clear hR hr hhas hH hcA hA hcB hB
      cases H with
      | true =>
        go_enter Tryd.func11, Tryd.ntmps11
        go_wp2_with fail
        refine HRR.out.mono ?_
        rintro e w1 ⟨rfl, b1⟩
        obtain ⟨q0, q1, q2, q3, q4⟩ := HCL.out w1 b1
        have HB1 := Lib.hid b1
        clear b1
        go_wp2_with fail
        refine (HH.out w1 HB1.out).mono ?_
        rintro e w2 ⟨rfl, b⟩
        have HB2 := Lib.hid (HB1.out.bt b)
        obtain ⟨q0, q1, q2, q3, q4⟩ := HCL.out w2 HB2.out
        clear b
        go_wp2
        go_ret
        exact ⟨by rw [HR.out]; rfl, HB0.out.bt HB2.out⟩
      | false =>
        cases A with
        | false =>
          go_enter Tryd.func11, Tryd.ntmps11
          go_wp2_with fail
          refine HRR.out.mono ?_
          rintro e w1 ⟨rfl, b1⟩
          obtain ⟨q0, q1, q2, q3, q4⟩ := HCL.out w1 b1
          have HB1 := Lib.hid b1
          clear b1
          go_wp2_with fail
          refine (HH.out w1 HB1.out).mono ?_
          rintro e w2 ⟨rfl, b⟩
          have HB2 := Lib.hid (HB1.out.bt b)
          obtain ⟨q0, q1, q2, q3, q4⟩ := HCL.out w2 HB2.out
          clear b
          go_wp2_with fail
          refine (HAA.out w2 HB2.out).mono ?_
          rintro e w3 ⟨rfl, b⟩
          have HB3 := Lib.hid (HB2.out.bt b)
          obtain ⟨q0, q1, q2, q3, q4⟩ := HCL.out w3 HB3.out
          clear b
          go_wp2
          go_ret
          exact ⟨by rw [HR.out]; rfl, HB0.out.bt HB3.out⟩
        | true =>
          cases B with
          | false =>
            go_enter Tryd.func11, Tryd.ntmps11
            go_wp2_with fail
            refine HRR.out.mono ?_
            rintro e w1 ⟨rfl, b1⟩
            obtain ⟨q0, q1, q2, q3, q4⟩ := HCL.out w1 b1
            have HB1 := Lib.hid b1
            clear b1
            go_wp2_with fail
            refine (HH.out w1 HB1.out).mono ?_
            rintro e w2 ⟨rfl, b⟩
            have HB2 := Lib.hid (HB1.out.bt b)
            obtain ⟨q0, q1, q2, q3, q4⟩ := HCL.out w2 HB2.out
            clear b
            go_wp2_with fail
            refine (HAA.out w2 HB2.out).mono ?_
            rintro e w3 ⟨rfl, b⟩
            have HB3 := Lib.hid (HB2.out.bt b)
            obtain ⟨q0, q1, q2, q3, q4⟩ := HCL.out w3 HB3.out
            clear b
            go_wp2_with fail
            refine (HBB.out w3 HB3.out).mono ?_
            rintro e w4 ⟨rfl, b⟩
            have HB4 := Lib.hid (HB3.out.bt b)
            obtain ⟨q0, q1, q2, q3, q4⟩ := HCL.out w4 HB4.out
            clear b
            go_wp2
            go_ret
            exact ⟨by rw [HR.out]; rfl, HB0.out.bt HB4.out⟩
          | true =>
            go_enter Tryd.func11, Tryd.ntmps11
            go_wp2_with fail
            refine HRR.out.mono ?_
            rintro e w1 ⟨rfl, b1⟩
            obtain ⟨q0, q1, q2, q3, q4⟩ := HCL.out w1 b1
            have HB1 := Lib.hid b1
            clear b1
            go_wp2_with fail
            refine (HH.out w1 HB1.out).mono ?_
            rintro e w2 ⟨rfl, b⟩
            have HB2 := Lib.hid (HB1.out.bt b)
            obtain ⟨q0, q1, q2, q3, q4⟩ := HCL.out w2 HB2.out
            clear b
            go_wp2_with fail
            refine (HAA.out w2 HB2.out).mono ?_
            rintro e w3 ⟨rfl, b⟩
            have HB3 := Lib.hid (HB2.out.bt b)
            obtain ⟨q0, q1, q2, q3, q4⟩ := HCL.out w3 HB3.out
            clear b
            go_wp2_with fail
            refine (HBB.out w3 HB3.out).mono ?_
            rintro e w4 ⟨rfl, b⟩
            have HB4 := Lib.hid (HB3.out.bt b)
            obtain ⟨q0, q1, q2, q3, q4⟩ := HCL.out w4 HB4.out
            clear b
            go_wp2
            go_ret
            exact ⟨by rw [HR.out]; rfl, HB0.out.bt HB4.out⟩
    · obtain ⟨H, hH⟩ : ∃ H, H = hasTag [t260, t490, t830] l := ⟨_, rfl⟩
      have hhas : ∀ W, Below (recW w id 2 kind lang a n0 c).heap.size (recW w id 2 kind lang a n0 c) W → Calls Tryd.prog 30 #[.agg #[.int .i64 id, .int .i64 2, .int .i64 kind, .string lang, .slice a n0 c], .slice (some ⟨W.heap.size, 0, none⟩) 3 3] (W.alloc (.cells #[.string ⟨#[50, 54, 48]⟩, .string ⟨#[52, 57, 48]⟩, .string ⟨#[56, 51, 48]⟩] 9)) fun e w' => e = .returned (.bool H) ∧ Below W.heap.size W w' := fun W h => by
        have hb : Below W.heap.size W (W.alloc (.cells #[.string ⟨#[50, 54, 48]⟩, .string ⟨#[52, 57, 48]⟩, .string ⟨#[56, 51, 48]⟩] 9)) := (Below.refl _ _).alloc (Nat.le_refl _) _
        refine (pHas ⟨id, 2, kind, lang, l⟩ a n0 c _ [t260, t490, t830] (W.alloc (.cells #[.string ⟨#[50, 54, 48]⟩, .string ⟨#[52, 57, 48]⟩, .string ⟨#[56, 51, 48]⟩] 9)) ((HV.out W h).below hb (Nat.le_refl _)) hl (strs_laid W ([t260, t490, t830].map lb) 9) (by decide)).mono ?_
        rintro e w' ⟨rfl, b⟩
        exact ⟨retb hH.symm, hb.bt b⟩
      obtain ⟨A, hA⟩ : ∃ x, x = indicated t264 1 49 l := ⟨_, rfl⟩
      have hcA : ∀ W, Below (recW w id 2 kind lang a n0 c).heap.size (recW w id 2 kind lang a n0 c) W → Calls Tryd.prog 31 #[.agg #[.int .i64 id, .int .i64 2, .int .i64 kind, .string lang, .slice a n0 c], .string ⟨#[50, 54, 52]⟩, .int .i64 1, .int .u8 49] W fun e w' => e = .returned (.bool A) ∧ Below W.heap.size W w' := fun W h => by
        refine Calls.mono (pIndicated ⟨id, 2, kind, lang, l⟩ a n0 c t264 1 49 W (HV.out W h) hl (by decide) HIN.out) ?_
        rintro e w' ⟨rfl, b⟩
        exact ⟨retb hA.symm, b⟩
      obtain ⟨B, hB⟩ : ∃ x, x = indicated t440 0 32 l := ⟨_, rfl⟩
      have hcB : ∀ W, Below (recW w id 2 kind lang a n0 c).heap.size (recW w id 2 kind lang a n0 c) W → Calls Tryd.prog 31 #[.agg #[.int .i64 id, .int .i64 2, .int .i64 kind, .string lang, .slice a n0 c], .string ⟨#[52, 52, 48]⟩, .int .i64 0, .int .u8 32] W fun e w' => e = .returned (.bool B) ∧ Below W.heap.size W w' := fun W h => by
        refine Calls.mono (pIndicated ⟨id, 2, kind, lang, l⟩ a n0 c t440 0 32 W (HV.out W h) hl (by decide) HIN.out) ?_
        rintro e w' ⟨rfl, b⟩
        exact ⟨retb hB.symm, b⟩
      have hr : rightV 2 l = (!H && A && B) := by
        rw [hH, hA, hB]
        rfl
      obtain ⟨R, hR⟩ : ∃ R, R = rightV 2 l := ⟨_, rfl⟩
      rw [← hR] at hr ⊢
      have HR := Lib.hid hr
      have HH := Lib.hid hhas
      have HAA := Lib.hid hcA
      have HBB := Lib.hid hcB
      clear hR hr hhas hH hcA hA hcB hB
      cases H with
      | true =>
        go_enter Tryd.func11, Tryd.ntmps11
        go_wp2_with fail
        refine HRR.out.mono ?_
        rintro e w1 ⟨rfl, b1⟩
        obtain ⟨q0, q1, q2, q3, q4⟩ := HCL.out w1 b1
        have HB1 := Lib.hid b1
        clear b1
        go_wp2_with fail
        refine (HH.out w1 HB1.out).mono ?_
        rintro e w2 ⟨rfl, b⟩
        have HB2 := Lib.hid (HB1.out.bt b)
        obtain ⟨q0, q1, q2, q3, q4⟩ := HCL.out w2 HB2.out
        clear b
        go_wp2
        go_ret
        exact ⟨by rw [HR.out]; rfl, HB0.out.bt HB2.out⟩
      | false =>
        cases A with
        | false =>
          go_enter Tryd.func11, Tryd.ntmps11
          go_wp2_with fail
          refine HRR.out.mono ?_
          rintro e w1 ⟨rfl, b1⟩
          obtain ⟨q0, q1, q2, q3, q4⟩ := HCL.out w1 b1
          have HB1 := Lib.hid b1
          clear b1
          go_wp2_with fail
          refine (HH.out w1 HB1.out).mono ?_
          rintro e w2 ⟨rfl, b⟩
          have HB2 := Lib.hid (HB1.out.bt b)
          obtain ⟨q0, q1, q2, q3, q4⟩ := HCL.out w2 HB2.out
          clear b
          go_wp2_with fail
          refine (HAA.out w2 HB2.out).mono ?_
          rintro e w3 ⟨rfl, b⟩
          have HB3 := Lib.hid (HB2.out.bt b)
          obtain ⟨q0, q1, q2, q3, q4⟩ := HCL.out w3 HB3.out
          clear b
          go_wp2
          go_ret
          exact ⟨by rw [HR.out]; rfl, HB0.out.bt HB3.out⟩
        | true =>
          cases B with
          | false =>
            go_enter Tryd.func11, Tryd.ntmps11
            go_wp2_with fail
            refine HRR.out.mono ?_
            rintro e w1 ⟨rfl, b1⟩
            obtain ⟨q0, q1, q2, q3, q4⟩ := HCL.out w1 b1
            have HB1 := Lib.hid b1
            clear b1
            go_wp2_with fail
            refine (HH.out w1 HB1.out).mono ?_
            rintro e w2 ⟨rfl, b⟩
            have HB2 := Lib.hid (HB1.out.bt b)
            obtain ⟨q0, q1, q2, q3, q4⟩ := HCL.out w2 HB2.out
            clear b
            go_wp2_with fail
            refine (HAA.out w2 HB2.out).mono ?_
            rintro e w3 ⟨rfl, b⟩
            have HB3 := Lib.hid (HB2.out.bt b)
            obtain ⟨q0, q1, q2, q3, q4⟩ := HCL.out w3 HB3.out
            clear b
            go_wp2_with fail
            refine (HBB.out w3 HB3.out).mono ?_
            rintro e w4 ⟨rfl, b⟩
            have HB4 := Lib.hid (HB3.out.bt b)
            obtain ⟨q0, q1, q2, q3, q4⟩ := HCL.out w4 HB4.out
            clear b
            go_wp2
            go_ret
            exact ⟨by rw [HR.out]; rfl, HB0.out.bt HB4.out⟩
          | true =>
            go_enter Tryd.func11, Tryd.ntmps11
            go_wp2_with fail
            refine HRR.out.mono ?_
            rintro e w1 ⟨rfl, b1⟩
            obtain ⟨q0, q1, q2, q3, q4⟩ := HCL.out w1 b1
            have HB1 := Lib.hid b1
            clear b1
            go_wp2_with fail
            refine (HH.out w1 HB1.out).mono ?_
            rintro e w2 ⟨rfl, b⟩
            have HB2 := Lib.hid (HB1.out.bt b)
            obtain ⟨q0, q1, q2, q3, q4⟩ := HCL.out w2 HB2.out
            clear b
            go_wp2_with fail
            refine (HAA.out w2 HB2.out).mono ?_
            rintro e w3 ⟨rfl, b⟩
            have HB3 := Lib.hid (HB2.out.bt b)
            obtain ⟨q0, q1, q2, q3, q4⟩ := HCL.out w3 HB3.out
            clear b
            go_wp2_with fail
            refine (HBB.out w3 HB3.out).mono ?_
            rintro e w4 ⟨rfl, b⟩
            have HB4 := Lib.hid (HB3.out.bt b)
            obtain ⟨q0, q1, q2, q3, q4⟩ := HCL.out w4 HB4.out
            clear b
            go_wp2
            go_ret
            exact ⟨by rw [HR.out]; rfl, HB0.out.bt HB4.out⟩
    · obtain ⟨H, hH⟩ : ∃ H, H = hasTag [t260, t440] l := ⟨_, rfl⟩
      have hhas : ∀ W, Below (recW w id 3 kind lang a n0 c).heap.size (recW w id 3 kind lang a n0 c) W → Calls Tryd.prog 30 #[.agg #[.int .i64 id, .int .i64 3, .int .i64 kind, .string lang, .slice a n0 c], .slice (some ⟨W.heap.size, 0, none⟩) 2 2] (W.alloc (.cells #[.string ⟨#[50, 54, 48]⟩, .string ⟨#[52, 52, 48]⟩] 9)) fun e w' => e = .returned (.bool H) ∧ Below W.heap.size W w' := fun W h => by
        have hb : Below W.heap.size W (W.alloc (.cells #[.string ⟨#[50, 54, 48]⟩, .string ⟨#[52, 52, 48]⟩] 9)) := (Below.refl _ _).alloc (Nat.le_refl _) _
        refine (pHas ⟨id, 3, kind, lang, l⟩ a n0 c _ [t260, t440] (W.alloc (.cells #[.string ⟨#[50, 54, 48]⟩, .string ⟨#[52, 52, 48]⟩] 9)) ((HV.out W h).below hb (Nat.le_refl _)) hl (strs_laid W ([t260, t440].map lb) 9) (by decide)).mono ?_
        rintro e w' ⟨rfl, b⟩
        exact ⟨retb hH.symm, hb.bt b⟩
      obtain ⟨A, hA⟩ : ∃ x, x = indicated t264 1 49 l := ⟨_, rfl⟩
      have hcA : ∀ W, Below (recW w id 3 kind lang a n0 c).heap.size (recW w id 3 kind lang a n0 c) W → Calls Tryd.prog 31 #[.agg #[.int .i64 id, .int .i64 3, .int .i64 kind, .string lang, .slice a n0 c], .string ⟨#[50, 54, 52]⟩, .int .i64 1, .int .u8 49] W fun e w' => e = .returned (.bool A) ∧ Below W.heap.size W w' := fun W h => by
        refine Calls.mono (pIndicated ⟨id, 3, kind, lang, l⟩ a n0 c t264 1 49 W (HV.out W h) hl (by decide) HIN.out) ?_
        rintro e w' ⟨rfl, b⟩
        exact ⟨retb hA.symm, b⟩
      obtain ⟨B, hB⟩ : ∃ x, x = indicated t490 0 49 l := ⟨_, rfl⟩
      have hcB : ∀ W, Below (recW w id 3 kind lang a n0 c).heap.size (recW w id 3 kind lang a n0 c) W → Calls Tryd.prog 31 #[.agg #[.int .i64 id, .int .i64 3, .int .i64 kind, .string lang, .slice a n0 c], .string ⟨#[52, 57, 48]⟩, .int .i64 0, .int .u8 49] W fun e w' => e = .returned (.bool B) ∧ Below W.heap.size W w' := fun W h => by
        refine Calls.mono (pIndicated ⟨id, 3, kind, lang, l⟩ a n0 c t490 0 49 W (HV.out W h) hl (by decide) HIN.out) ?_
        rintro e w' ⟨rfl, b⟩
        exact ⟨retb hB.symm, b⟩
      obtain ⟨P, hP⟩ : ∃ x, x = paired l := ⟨_, rfl⟩
      have hcP : ∀ W, Below (recW w id 3 kind lang a n0 c).heap.size (recW w id 3 kind lang a n0 c) W → Calls Tryd.prog 32 #[.slice a n0 c] W fun e w' => e = .returned (.bool P) ∧ Below W.heap.size W w' := fun W h => by
        refine (pPaired (.slice a n0 c) l W (HV.out W h) hl).mono ?_
        rintro e w' ⟨rfl, rfl⟩
        exact ⟨retb hP.symm, Below.refl _ _⟩
      have hr : rightV 3 l = (!H && A && B && P) := by
        rw [hH, hA, hB, hP]
        rfl
      obtain ⟨R, hR⟩ : ∃ R, R = rightV 3 l := ⟨_, rfl⟩
      rw [← hR] at hr ⊢
      have HR := Lib.hid hr
      have HH := Lib.hid hhas
      have HAA := Lib.hid hcA
      have HBB := Lib.hid hcB
      have HPP := Lib.hid hcP
      clear hR hr hhas hH hcA hA hcB hB hcP hP
      cases H with
      | true =>
        go_enter Tryd.func11, Tryd.ntmps11
        go_wp2_with fail
        refine HRR.out.mono ?_
        rintro e w1 ⟨rfl, b1⟩
        obtain ⟨q0, q1, q2, q3, q4⟩ := HCL.out w1 b1
        have HB1 := Lib.hid b1
        clear b1
        go_wp2_with fail
        refine (HH.out w1 HB1.out).mono ?_
        rintro e w2 ⟨rfl, b⟩
        have HB2 := Lib.hid (HB1.out.bt b)
        obtain ⟨q0, q1, q2, q3, q4⟩ := HCL.out w2 HB2.out
        clear b
        go_wp2
        go_ret
        exact ⟨by rw [HR.out]; rfl, HB0.out.bt HB2.out⟩
      | false =>
        cases A with
        | false =>
          go_enter Tryd.func11, Tryd.ntmps11
          go_wp2_with fail
          refine HRR.out.mono ?_
          rintro e w1 ⟨rfl, b1⟩
          obtain ⟨q0, q1, q2, q3, q4⟩ := HCL.out w1 b1
          have HB1 := Lib.hid b1
          clear b1
          go_wp2_with fail
          refine (HH.out w1 HB1.out).mono ?_
          rintro e w2 ⟨rfl, b⟩
          have HB2 := Lib.hid (HB1.out.bt b)
          obtain ⟨q0, q1, q2, q3, q4⟩ := HCL.out w2 HB2.out
          clear b
          go_wp2_with fail
          refine (HAA.out w2 HB2.out).mono ?_
          rintro e w3 ⟨rfl, b⟩
          have HB3 := Lib.hid (HB2.out.bt b)
          obtain ⟨q0, q1, q2, q3, q4⟩ := HCL.out w3 HB3.out
          clear b
          go_wp2
          go_ret
          exact ⟨by rw [HR.out]; rfl, HB0.out.bt HB3.out⟩
        | true =>
          cases B with
          | false =>
            go_enter Tryd.func11, Tryd.ntmps11
            go_wp2_with fail
            refine HRR.out.mono ?_
            rintro e w1 ⟨rfl, b1⟩
            obtain ⟨q0, q1, q2, q3, q4⟩ := HCL.out w1 b1
            have HB1 := Lib.hid b1
            clear b1
            go_wp2_with fail
            refine (HH.out w1 HB1.out).mono ?_
            rintro e w2 ⟨rfl, b⟩
            have HB2 := Lib.hid (HB1.out.bt b)
            obtain ⟨q0, q1, q2, q3, q4⟩ := HCL.out w2 HB2.out
            clear b
            go_wp2_with fail
            refine (HAA.out w2 HB2.out).mono ?_
            rintro e w3 ⟨rfl, b⟩
            have HB3 := Lib.hid (HB2.out.bt b)
            obtain ⟨q0, q1, q2, q3, q4⟩ := HCL.out w3 HB3.out
            clear b
            go_wp2_with fail
            refine (HBB.out w3 HB3.out).mono ?_
            rintro e w4 ⟨rfl, b⟩
            have HB4 := Lib.hid (HB3.out.bt b)
            obtain ⟨q0, q1, q2, q3, q4⟩ := HCL.out w4 HB4.out
            clear b
            go_wp2
            go_ret
            exact ⟨by rw [HR.out]; rfl, HB0.out.bt HB4.out⟩
          | true =>
            cases P with
            | false =>
              go_enter Tryd.func11, Tryd.ntmps11
              go_wp2_with fail
              refine HRR.out.mono ?_
              rintro e w1 ⟨rfl, b1⟩
              obtain ⟨q0, q1, q2, q3, q4⟩ := HCL.out w1 b1
              have HB1 := Lib.hid b1
              clear b1
              go_wp2_with fail
              refine (HH.out w1 HB1.out).mono ?_
              rintro e w2 ⟨rfl, b⟩
              have HB2 := Lib.hid (HB1.out.bt b)
              obtain ⟨q0, q1, q2, q3, q4⟩ := HCL.out w2 HB2.out
              clear b
              go_wp2_with fail
              refine (HAA.out w2 HB2.out).mono ?_
              rintro e w3 ⟨rfl, b⟩
              have HB3 := Lib.hid (HB2.out.bt b)
              obtain ⟨q0, q1, q2, q3, q4⟩ := HCL.out w3 HB3.out
              clear b
              go_wp2_with fail
              refine (HBB.out w3 HB3.out).mono ?_
              rintro e w4 ⟨rfl, b⟩
              have HB4 := Lib.hid (HB3.out.bt b)
              obtain ⟨q0, q1, q2, q3, q4⟩ := HCL.out w4 HB4.out
              clear b
              go_wp2_with fail
              refine (HPP.out w4 HB4.out).mono ?_
              rintro e w5 ⟨rfl, b⟩
              have HB5 := Lib.hid (HB4.out.bt b)
              obtain ⟨q0, q1, q2, q3, q4⟩ := HCL.out w5 HB5.out
              clear b
              go_wp2
              go_ret
              exact ⟨by rw [HR.out]; rfl, HB0.out.bt HB5.out⟩
            | true =>
              go_enter Tryd.func11, Tryd.ntmps11
              go_wp2_with fail
              refine HRR.out.mono ?_
              rintro e w1 ⟨rfl, b1⟩
              obtain ⟨q0, q1, q2, q3, q4⟩ := HCL.out w1 b1
              have HB1 := Lib.hid b1
              clear b1
              go_wp2_with fail
              refine (HH.out w1 HB1.out).mono ?_
              rintro e w2 ⟨rfl, b⟩
              have HB2 := Lib.hid (HB1.out.bt b)
              obtain ⟨q0, q1, q2, q3, q4⟩ := HCL.out w2 HB2.out
              clear b
              go_wp2_with fail
              refine (HAA.out w2 HB2.out).mono ?_
              rintro e w3 ⟨rfl, b⟩
              have HB3 := Lib.hid (HB2.out.bt b)
              obtain ⟨q0, q1, q2, q3, q4⟩ := HCL.out w3 HB3.out
              clear b
              go_wp2_with fail
              refine (HBB.out w3 HB3.out).mono ?_
              rintro e w4 ⟨rfl, b⟩
              have HB4 := Lib.hid (HB3.out.bt b)
              obtain ⟨q0, q1, q2, q3, q4⟩ := HCL.out w4 HB4.out
              clear b
              go_wp2_with fail
              refine (HPP.out w4 HB4.out).mono ?_
              rintro e w5 ⟨rfl, b⟩
              have HB5 := Lib.hid (HB4.out.bt b)
              obtain ⟨q0, q1, q2, q3, q4⟩ := HCL.out w5 HB5.out
              clear b
              go_wp2
              go_ret
              exact ⟨by rw [HR.out]; rfl, HB0.out.bt HB5.out⟩
  · rw [rightM_bad h0]
    obtain ⟨x, hx⟩ : ∃ x, x = recErr r := ⟨_, rfl⟩
    rw [← hx] at hrr h0
    have hz : (x != 0) = true := by simpa using h0
    have HRR := Lib.hid hrr
    clear hrr hx h0 HV hE hs
    go_enter Tryd.func11, Tryd.ntmps11
    go_wp2_with fail
    refine HRR.out.mono ?_
    rintro e w1 ⟨rfl, b1⟩
    have HB1 := Lib.hid (HB0.out.bt b1)
    clear b1
    go_wp2
    go_ret
    exact ⟨rfl, HB1.out⟩
end Go.Proofs.YtimecccphbgdeaaDoor
