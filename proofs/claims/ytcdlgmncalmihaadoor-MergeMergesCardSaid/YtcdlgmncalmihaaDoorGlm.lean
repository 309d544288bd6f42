/- The law MergeMerges walked (layer 16). -/
import Derived.Test.YtcdlgmncalmihaaDoorGfr
namespace Go.Proofs.YtcdlgmncalmihaaDoor
open Go Go.RowKit

set_option maxRecDepth 100000 in
set_option maxHeartbeats 8000000 in
theorem law_MergeMerges (x y : Rcd) (vk : Value) (keeps : List (ByteArray × Int)) (w : World) (hE : Env w) (hx : RcdAt w x) (hy : RcdAt w y) (hk : Keeps w vk keeps) (hqx : ∀ f ∈ x.r.fields, ∀ s ∈ f.subs, s.1 < 256) (hqy : ∀ f ∈ y.r.fields, ∀ s ∈ f.subs, s.1 < 256) :
    Calls Tryd.prog 4 #[pairV x y vk] w fun e w' => e = .returned (.bool true) ∧ Below w.heap.size w w' := by
  have HAL : Hid (∀ W, Below w.heap.size w W → Calls Tryd.prog 7 #[] W fun e w' => e = .returned (.bool true) ∧ Below W.heap.size W w') := Lib.hid (fun W h => alive_any W (hE.below h))
  have HFA : Hid (∀ W, Below w.heap.size w W → Calls Tryd.prog 12 #[pairV x y vk] W fun e w' => e = .returned (.bool (fairB x y keeps)) ∧ Below W.heap.size W w') := Lib.hid (fun W h => lFair x y vk keeps W (hx.below h (Nat.le_refl _)) (hy.below h (Nat.le_refl _)) (Rows.below hk h (Nat.le_refl _)))
  have HPM : Hid (fairB x y keeps = true → ∀ W, Below w.heap.size w W → Calls Tryd.prog 13 #[recV5 x, recV5 y, vk] W (RetMerge W (mergeP x y keeps))) := Lib.hid (fun hf W h => by
    obtain ⟨h1, h2, h3⟩ := fair_split hf
    obtain ⟨s1, l1, -⟩ := little_small h1 hqx
    obtain ⟨s2, l2, -⟩ := little_small h2 hqy
    exact pMerge x y vk keeps W (hE.below h) (hx.below h (Nat.le_refl _)) (hy.below h (Nat.le_refl _)) (Rows.below hk h (Nat.le_refl _)) s1 s2 (by omega) (by omega) (by omega))
  have HRM : Hid (fairB x y keeps = true → ∀ W, Below w.heap.size w W → Calls Tryd.prog 14 #[recV5 x, recV5 y, vk] W (RetMerge W (mergeP x y keeps))) := Lib.hid (fun hf W h => by
    obtain ⟨h1, h2, h3⟩ := fair_split hf
    obtain ⟨s1, l1, -⟩ := little_small h1 hqx
    obtain ⟨s2, l2, -⟩ := little_small h2 hqy
    exact rMerge x y vk keeps W (hx.below h (Nat.le_refl _)) (hy.below h (Nat.le_refl _)) (Rows.below hk h (Nat.le_refl _)) s1 s2 (by omega) (by omega) (by omega))
  have HSML : Hid (fairB x y keeps = true → (mergeP x y keeps).1.small ∧ (mergeP x y keeps).2.1.frm.r.small ∧ (mergeP x y keeps).2.1.taken.length ≤ 20) := Lib.hid (fun hf => by
    obtain ⟨h1, h2, h3⟩ := fair_split hf
    obtain ⟨s1, l1, -⟩ := little_small h1 hqx
    obtain ⟨s2, l2, -⟩ := little_small h2 hqy
    obtain ⟨a, b, c, -⟩ := mergeP_small (keeps := keeps) s1 s2 l1 l2
    exact ⟨a, b, c⟩)
  obtain ⟨B, hB⟩ : ∃ B, B = fairB x y keeps := ⟨_, rfl⟩
  rw [← hB] at HFA HPM HRM HSML
  obtain ⟨⟨R, P, err⟩, hM⟩ : ∃ M, M = mergeP x y keeps := ⟨_, rfl⟩
  rw [← hM] at HPM HRM HSML
  obtain ⟨ka, kc, rfl, -⟩ := hk.shape
  clear hx hy hk hqx hqy hB hM hE
  unfold pairV at HFA ⊢
  unfold recV5 at HPM HRM
  obtain ⟨⟨id, ver, kind, lang, xf⟩, xa, xc⟩ := x
  obtain ⟨⟨id2, ver2, kind2, lang2, yf⟩, ya, yc⟩ := y
  simp only at HFA HPM HRM HSML ⊢
  obtain ⟨xn, hxn⟩ : ∃ n, n = xf.length := ⟨_, rfl⟩
  obtain ⟨yn, hyn⟩ : ∃ n, n = yf.length := ⟨_, rfl⟩
  obtain ⟨kn, hkn⟩ : ∃ n, n = keeps.length := ⟨_, rfl⟩
  rw [← hxn, ← hyn, ← hkn] at HFA HPM HRM ⊢
  clear hxn hyn hkn
  have HB0 : Hid (Below w.heap.size w (w.alloc (pairO id ver kind lang xa xn xc id2 ver2 kind2 lang2 ya yn yc (.slice ka kn kc)))) := Lib.hid ((Below.refl _ _).alloc (Nat.le_refl _) _)
  have HCE : Hid (∀ W, Below (w.alloc (pairO id ver kind lang xa xn xc id2 ver2 kind2 lang2 ya yn yc (.slice ka kn kc))).heap.size (w.alloc (pairO id ver kind lang xa xn xc id2 ver2 kind2 lang2 ya yn yc (.slice ka kn kc))) W → W.heap[w.heap.size]? = some (pairO id ver kind lang xa xn xc id2 ver2 kind2 lang2 ya yn yc (.slice ka kn kc))) := Lib.hid (fun W h => (h.block _ (by simp)).trans (alloc_at rfl))
  go_enter Tryd.func4, Tryd.ntmps4
  go_wp2_with fail
  refine (HFA.out _ HB0.out).mono ?_
  rintro e w1 ⟨rfl, b1⟩
  have HC1 := Lib.hid b1
  have HB1 := Lib.hid (HB0.out.bt b1)
  clear b1 HFA
  cases B with
  | false =>
    go_wp2_with fail
    refine (HAL.out _ HB1.out).mono ?_
    rintro e w2 ⟨rfl, b2⟩
    have HB2 := Lib.hid (HB1.out.bt b2)
    clear b2
    go_wp2
    go_ret
    exact ⟨rfl, HB2.out⟩
  | true =>
    obtain ⟨s1, s2, s3⟩ := HSML.out rfl
    have HS1 := Lib.hid s1
    have HS2 := Lib.hid s2
    have HS3 := Lib.hid s3
    clear s1 s2 s3 HSML
    have q := HCE.out w1 HC1.out
    have c0 := Lib.cell_of_heap q 0
    have c1 := Lib.cell_of_heap q 1
    have c2 := Lib.cell_of_heap q 2
    have c3 := Lib.cell_of_heap q 3
    have c4 := Lib.cell_of_heap q 4
    have c5 := Lib.cell_of_heap q 5
    have c6 := Lib.cell_of_heap q 6
    have c7 := Lib.cell_of_heap q 7
    have c8 := Lib.cell_of_heap q 8
    have c9 := Lib.cell_of_heap q 9
    have c10 := Lib.cell_of_heap q 10
    clear q
    go_wp2_with fail
    refine (HPM.out (by trivial) _ HB1.out).mono ?_
    rintro e w2 ⟨a, c, tv, rfl, r1, r2, r3, b2⟩
    obtain ⟨rid, rver, rkind, rlang, rf⟩ := R
    obtain ⟨pin, ⟨⟨fid, fver, fkind, flang, ff⟩, fa, fc⟩, tk⟩ := P
    obtain ⟨ta, tc, rfl, -⟩ := Rows.shape r3
    unfold recV5 partV RetMerge at *
    simp only at r1 r2 r3 HS1 HS2 HS3 HPM HRM ⊢
    obtain ⟨rn, hrn⟩ : ∃ n, n = rf.length := ⟨_, rfl⟩
    obtain ⟨fn, hfn⟩ : ∃ n, n = ff.length := ⟨_, rfl⟩
    obtain ⟨tn, htn⟩ : ∃ n, n = tk.length := ⟨_, rfl⟩
    rw [← hrn, ← hfn, ← htn]
    rw [← htn] at r3
    have hbb : Below w2.heap.size w2 ((w2.alloc (.cells #[.int .i64 rid, .int .i64 rver, .int .i64 rkind, .string rlang, .slice a rn c] 31)).alloc (.cells #[.int .i64 pin, .int .i64 fid, .int .i64 fver, .int .i64 fkind, .string flang, .slice fa fn fc, .slice ta tn tc] 36)) := (Below.refl _ _).alloc2 (Nat.le_refl _) _ _
    have HX : Hid (((w2.alloc (.cells #[.int .i64 rid, .int .i64 rver, .int .i64 rkind, .string rlang, .slice a rn c] 31)).alloc (.cells #[.int .i64 pin, .int .i64 fid, .int .i64 fver, .int .i64 fkind, .string flang, .slice fa fn fc, .slice ta tn tc] 36)).heap[w2.heap.size]? = some (.cells #[.int .i64 rid, .int .i64 rver, .int .i64 rkind, .string rlang, .slice a rn c] 31 (0, 0))) := Lib.hid ((alloc_old (by simp)).trans (alloc_at rfl))
    have HP : Hid (((w2.alloc (.cells #[.int .i64 rid, .int .i64 rver, .int .i64 rkind, .string rlang, .slice a rn c] 31)).alloc (.cells #[.int .i64 pin, .int .i64 fid, .int .i64 fver, .int .i64 fkind, .string flang, .slice fa fn fc, .slice ta tn tc] 36)).heap[w2.heap.size + 1]? = some (.cells #[.int .i64 pin, .int .i64 fid, .int .i64 fver, .int .i64 fkind, .string flang, .slice fa fn fc, .slice ta tn tc] 36 (0, 0))) := Lib.hid (alloc_at (by simp))
    have R1 := Lib.hid (r1.below hbb (Nat.le_refl _))
    have R2 := Lib.hid (r2.below hbb (Nat.le_refl _))
    have R3 := Lib.hid (Rows.below r3 hbb (Nat.le_refl _))
    have HB2 := Lib.hid ((HB1.out.bt b2).bt hbb)
    have HC2 := Lib.hid ((HC1.out.bt b2).bt hbb)
    have HRN := Lib.hid hrn
    have HFN := Lib.hid hfn
    have HTN := Lib.hid htn
    clear b2 hbb r1 r2 r3 hrn hfn htn c0 c1 c2 c3 c4 c5 c6 c7 c8 c9 c10
    go_upto_region 4 with fail
    generalize w2.heap.size + 1 = g2 at HP ⊢
    generalize w2.heap.size = g1 at HX ⊢
    generalize ((w2.alloc (.cells #[.int .i64 rid, .int .i64 rver, .int .i64 rkind, .string rlang, .slice a rn c] 31)).alloc (.cells #[.int .i64 pin, .int .i64 fid, .int .i64 fver, .int .i64 fkind, .string flang, .slice fa fn fc, .slice ta tn tc] 36)) = w3 at HX HP R1 R2 R3 HB2 HC2 ⊢
    have q := HCE.out w3 HC2.out
    have c0 := Lib.cell_of_heap q 0
    have c1 := Lib.cell_of_heap q 1
    have c2 := Lib.cell_of_heap q 2
    have c3 := Lib.cell_of_heap q 3
    have c4 := Lib.cell_of_heap q 4
    have c5 := Lib.cell_of_heap q 5
    have c6 := Lib.cell_of_heap q 6
    have c7 := Lib.cell_of_heap q 7
    have c8 := Lib.cell_of_heap q 8
    have c9 := Lib.cell_of_heap q 9
    have c10 := Lib.cell_of_heap q 10
    clear q
    go_wp2_with fail
    refine (HRM.out (by trivial) _ HB2.out).mono ?_
    rintro e w4 ⟨a', c', tv', rfl, r1, r2, r3, b4⟩
    obtain ⟨ta', tc', rfl, -⟩ := Rows.shape r3
    unfold recV5 partV
    simp only at r1 r2 r3 ⊢
    rw [← HRN.out, ← HFN.out, ← HTN.out]
    rw [← HTN.out] at r3
    have hbb : Below w4.heap.size w4 ((w4.alloc (.cells #[.int .i64 rid, .int .i64 rver, .int .i64 rkind, .string rlang, .slice a' rn c'] 31)).alloc (.cells #[.int .i64 pin, .int .i64 fid, .int .i64 fver, .int .i64 fkind, .string flang, .slice fa fn fc, .slice ta' tn tc'] 36)) := (Below.refl _ _).alloc2 (Nat.le_refl _) _ _
    have HX' : Hid (((w4.alloc (.cells #[.int .i64 rid, .int .i64 rver, .int .i64 rkind, .string rlang, .slice a' rn c'] 31)).alloc (.cells #[.int .i64 pin, .int .i64 fid, .int .i64 fver, .int .i64 fkind, .string flang, .slice fa fn fc, .slice ta' tn tc'] 36)).heap[w4.heap.size]? = some (.cells #[.int .i64 rid, .int .i64 rver, .int .i64 rkind, .string rlang, .slice a' rn c'] 31 (0, 0))) := Lib.hid ((alloc_old (by simp)).trans (alloc_at rfl))
    have HP' : Hid (((w4.alloc (.cells #[.int .i64 rid, .int .i64 rver, .int .i64 rkind, .string rlang, .slice a' rn c'] 31)).alloc (.cells #[.int .i64 pin, .int .i64 fid, .int .i64 fver, .int .i64 fkind, .string flang, .slice fa fn fc, .slice ta' tn tc'] 36)).heap[w4.heap.size + 1]? = some (.cells #[.int .i64 pin, .int .i64 fid, .int .i64 fver, .int .i64 fkind, .string flang, .slice fa fn fc, .slice ta' tn tc'] 36 (0, 0))) := Lib.hid (alloc_at (by simp))
    have hb := b4.bt hbb
    have Q1 := Lib.hid (r1.below hbb (Nat.le_refl _))
    have Q2 := Lib.hid (r2.below hbb (Nat.le_refl _))
    have Q3 := Lib.hid (Rows.below r3 hbb (Nat.le_refl _))
    have P1 := Lib.hid (R1.out.below hb (Nat.le_refl _))
    have P2 := Lib.hid (R2.out.below hb (Nat.le_refl _))
    have P3 := Lib.hid (Rows.below R3.out hb (Nat.le_refl _))
    have HX2 := Lib.hid ((hb.block _ (Array.getElem?_eq_some_iff.1 HX.out).1).trans HX.out)
    have HP2 := Lib.hid ((hb.block _ (Array.getElem?_eq_some_iff.1 HP.out).1).trans HP.out)
    have HB4 := Lib.hid (HB2.out.bt hb)
    clear b4 hb hbb r1 r2 r3 c0 c1 c2 c3 c4 c5 c6 c7 c8 c9 c10 HX HP R1 R2 R3 HB2 HC2 HC1 HB1 HB0 HCE HPM HRM
    go_upto_region 5 with fail
    generalize w4.heap.size + 1 = g4 at HP' ⊢
    generalize w4.heap.size = g3 at HX' ⊢
    generalize ((w4.alloc (.cells #[.int .i64 rid, .int .i64 rver, .int .i64 rkind, .string rlang, .slice a' rn c'] 31)).alloc (.cells #[.int .i64 pin, .int .i64 fid, .int .i64 fver, .int .i64 fkind, .string flang, .slice fa fn fc, .slice ta' tn tc'] 36)) = w5 at HX' HP' HX2 HP2 Q1 Q2 Q3 P1 P2 P3 HB4 ⊢
    go_wp2_with fail
    refine (HAL.out _ HB4.out).mono ?_
    rintro e w6 ⟨rfl, b6⟩
    have x1 := (b6.block _ (Array.getElem?_eq_some_iff.1 HX2.out).1).trans HX2.out
    have x2 := (b6.block _ (Array.getElem?_eq_some_iff.1 HX'.out).1).trans HX'.out
    have y1 := (b6.block _ (Array.getElem?_eq_some_iff.1 HP2.out).1).trans HP2.out
    have y2 := (b6.block _ (Array.getElem?_eq_some_iff.1 HP'.out).1).trans HP'.out
    have Y1 := Lib.hid y1
    have Y2 := Lib.hid y2
    have c0 := Lib.cell_of_heap x1 0
    have c1 := Lib.cell_of_heap x1 1
    have c2 := Lib.cell_of_heap x1 2
    have c3 := Lib.cell_of_heap x1 3
    have c4 := Lib.cell_of_heap x1 4
    have d0 := Lib.cell_of_heap x2 0
    have d1 := Lib.cell_of_heap x2 1
    have d2 := Lib.cell_of_heap x2 2
    have d3 := Lib.cell_of_heap x2 3
    have d4 := Lib.cell_of_heap x2 4
    have HB6 := Lib.hid (HB4.out.bt b6)
    have HSR : Hid (Calls Tryd.prog 15 #[.agg #[.int .i64 rid, .int .i64 rver, .int .i64 rkind, .string rlang, .slice a rn c], .agg #[.int .i64 rid, .int .i64 rver, .int .i64 rkind, .string rlang, .slice a' rn c']] w6 fun e w' => e = .returned (.bool true) ∧ Below w6.heap.size w6 w') := Lib.hid (by
      have h1 : Flds w6 (.slice a rn c) rf := by have := P1.out.below b6 (Nat.le_refl _); unfold RcdAt at this; rw [← HRN.out] at this; exact this
      have h2 : Flds w6 (.slice a' rn c') rf := by have := Q1.out.below b6 (Nat.le_refl _); unfold RcdAt at this; rw [← HRN.out] at this; exact this
      exact rSameRec ⟨rid, rver, rkind, rlang, rf⟩ ⟨rid, rver, rkind, rlang, rf⟩ a a' rn c rn c' w6 h1 h2 rfl rfl rfl rfl rfl HS1.out HS1.out)
    have HSP : Hid (∀ W, Below w6.heap.size w6 W → Calls Tryd.prog 16 #[.agg #[.int .i64 pin, .int .i64 fid, .int .i64 fver, .int .i64 fkind, .string flang, .slice fa fn fc, .slice ta tn tc], .agg #[.int .i64 pin, .int .i64 fid, .int .i64 fver, .int .i64 fkind, .string flang, .slice fa fn fc, .slice ta' tn tc']] W fun e w' => e = .returned (.bool true) ∧ Below W.heap.size W w') := Lib.hid (fun W hW => by
      have hb := b6.bt hW
      have := rSameP ⟨pin, ⟨⟨fid, fver, fkind, flang, ff⟩, fa, fc⟩, tk⟩ (.slice ta tn tc) (.slice ta' tn tc') W (P2.out.below hb (Nat.le_refl _)) (Rows.below P3.out hb (Nat.le_refl _)) (Rows.below Q3.out hb (Nat.le_refl _)) HS2.out (by have := HS3.out; show tk.length ≤ _; omega)
      unfold partV at this
      simp only at this
      rw [← HFN.out] at this
      exact this)
    clear x1 x2 y1 y2 b6 HX' HP' HX2 HP2 Q1 Q2 Q3 P1 P2 P3 HB4
    go_wp2_with fail
    refine HSR.out.mono ?_
    rintro e w7 ⟨rfl, b7⟩
    have y1 := (b7.block _ (Array.getElem?_eq_some_iff.1 Y1.out).1).trans Y1.out
    have y2 := (b7.block _ (Array.getElem?_eq_some_iff.1 Y2.out).1).trans Y2.out
    have HC7 := Lib.hid b7
    have HB7 := Lib.hid (HB6.out.bt b7)
    have p0 := Lib.cell_of_heap y1 0
    have p1 := Lib.cell_of_heap y1 1
    have p2 := Lib.cell_of_heap y1 2
    have p3 := Lib.cell_of_heap y1 3
    have p4 := Lib.cell_of_heap y1 4
    have p5 := Lib.cell_of_heap y1 5
    have p6 := Lib.cell_of_heap y1 6
    have q0 := Lib.cell_of_heap y2 0
    have q1 := Lib.cell_of_heap y2 1
    have q2 := Lib.cell_of_heap y2 2
    have q3 := Lib.cell_of_heap y2 3
    have q4 := Lib.cell_of_heap y2 4
    have q5 := Lib.cell_of_heap y2 5
    have q6 := Lib.cell_of_heap y2 6
    clear y1 y2 b7 c0 c1 c2 c3 c4 d0 d1 d2 d3 d4 Y1 Y2
    go_wp2_with fail
    refine (HSP.out _ HC7.out).mono ?_
    rintro e w8 ⟨rfl, b8⟩
    have HB8 := Lib.hid (HB7.out.bt b8)
    clear b8 p0 p1 p2 p3 p4 p5 p6 q0 q1 q2 q3 q4 q5 q6
    go_wp2
    go_ret
    exact ⟨rfl, HB8.out⟩
end Go.Proofs.YtcdlgmncalmihaaDoor
