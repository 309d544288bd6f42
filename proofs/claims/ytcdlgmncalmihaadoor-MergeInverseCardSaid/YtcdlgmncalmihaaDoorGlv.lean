/- The law MergeInverse walked (layer 16). -/
import Derived.Test.YtcdlgmncalmihaaDoorGpi
import Derived.Test.YtcdlgmncalmihaaDoorGap
namespace Go.Proofs.YtcdlgmncalmihaaDoor
open Go Go.RowKit

theorem Rows.len' {α : Type} {E : α → List Value} {k : Nat} {w : World} {a : Option Addr} {n c : Nat} {l : List α} (h : Rows E k w (.slice a n c) l) : n ≤ c := by
  obtain ⟨a', c', he, hc, -⟩ := h
  cases he
  exact hc
set_option maxRecDepth 100000 in
set_option maxHeartbeats 8000000 in
theorem law_MergeInverse (x y : Rcd) (vk : Value) (keeps : List (ByteArray × Int)) (f : Fld) (w : World) (hE : Env w) (hx : RcdAt w x) (hy : RcdAt w y) (hk : Keeps w vk keeps) (hqx : ∀ f ∈ x.r.fields, ∀ s ∈ f.subs, s.1 < 256) (hqy : ∀ f ∈ y.r.fields, ∀ s ∈ f.subs, s.1 < 256) (hf : FldAt w f) (_ : ∀ s ∈ f.subs, s.1 < 256) :
    Calls Tryd.prog 6 #[pairV x y vk, fldV f] w fun e w' => e = .returned (.bool true) ∧ Below w.heap.size w w' := by
  have HAL : Hid (∀ W, Below w.heap.size w W → Calls Tryd.prog 7 #[] W fun e w' => e = .returned (.bool true) ∧ Below W.heap.size W w') := Lib.hid (fun W h => alive_any W (hE.below h))
  have HFA : Hid (∀ W, Below w.heap.size w W → Calls Tryd.prog 12 #[pairV x y vk] W fun e w' => e = .returned (.bool (fairB x y keeps)) ∧ Below W.heap.size W w') := Lib.hid (fun W h => lFair x y vk keeps W (hx.below h (Nat.le_refl _)) (hy.below h (Nat.le_refl _)) (Rows.below hk h (Nat.le_refl _)))
  have HLI : Hid (∀ W, Below w.heap.size w W → Calls Tryd.prog 18 #[fldV f] W fun e w' => e = .returned (.bool (littleF f)) ∧ Below W.heap.size W w') := Lib.hid (fun W h => lLittle f W (hf.below h (Nat.le_refl _)))
  have HPM : Hid (fairB x y keeps = true → ∀ W, Below w.heap.size w W → Calls Tryd.prog 13 #[recV5 x, recV5 y, vk] W (RetMerge W (mergeP x y keeps))) := Lib.hid (fun hf W h => by
    obtain ⟨h1, h2, h3⟩ := fair_split hf
    obtain ⟨s1, l1, -⟩ := little_small h1 hqx
    obtain ⟨s2, l2, -⟩ := little_small h2 hqy
    exact pMerge x y vk keeps W (hE.below h) (hx.below h (Nat.le_refl _)) (hy.below h (Nat.le_refl _)) (Rows.below hk h (Nat.le_refl _)) s1 s2 (by omega) (by omega) (by omega))
  have HLF : Hid (fairB x y keeps = true → littleF f = true → ∀ R P, (R, P, (0 : Int)) = mergeP x y keeps → x.r.small ∧ y.r.small ∧ R.small ∧ R.fields.length ≤ 40 ∧ P.taken.length ≤ 20 ∧ f.subs.length ≤ 1000000 ∧ x.r.fields.length ≤ 20 ∧ y.r.fields.length ≤ 20) := Lib.hid (fun hf hl R P hM => by
    obtain ⟨h1, h2, h3⟩ := fair_split hf
    obtain ⟨s1, l1, k1⟩ := little_small h1 hqx
    obtain ⟨s2, l2, k2⟩ := little_small h2 hqy
    obtain ⟨sr, -, st, lr⟩ := mergeP_small (keeps := keeps) s1 s2 l1 l2
    rw [← hM] at sr lr st
    unfold littleF at hl
    simp only [Bool.and_eq_true, decide_eq_true_eq] at hl
    exact ⟨s1, s2, sr, lr, st, by omega, l1, l2⟩)
  obtain ⟨B, hB⟩ : ∃ B, B = fairB x y keeps := ⟨_, rfl⟩
  obtain ⟨L, hL⟩ : ∃ L, L = littleF f := ⟨_, rfl⟩
  rw [← hB] at HFA HPM HLF
  rw [← hL] at HLI HLF
  obtain ⟨⟨R, P, err⟩, hM⟩ : ∃ M, M = mergeP x y keeps := ⟨_, rfl⟩
  rw [← hM] at HPM
  have HM : Hid ((R, P, err) = mergeP x y keeps) := Lib.hid hM
  have HE : Hid (∀ W, Below w.heap.size w W → Env W) := Lib.hid (fun W h => hE.below h)
  have HX : Hid (∀ W, Below w.heap.size w W → RcdAt W x) := Lib.hid (fun W h => hx.below h (Nat.le_refl _))
  have HY : Hid (∀ W, Below w.heap.size w W → RcdAt W y) := Lib.hid (fun W h => hy.below h (Nat.le_refl _))
  have HF : Hid (∀ W, Below w.heap.size w W → FldAt W f) := Lib.hid (fun W h => hf.below h (Nat.le_refl _))
  obtain ⟨ka, kc, rfl, -⟩ := hk.shape
  obtain ⟨kn, hkn⟩ : ∃ n, n = keeps.length := ⟨_, rfl⟩
  rw [← hkn] at HFA HPM ⊢
  clear hx hy hk hqx hqy hB hL hM hE hkn hf
  unfold pairV fldV at *
  unfold recV5 at HPM
  have XC := Lib.hid (rcd_cells (HX.out w (Below.refl _ _)))
  have YC := Lib.hid (rcd_cells (HY.out w (Below.refl _ _)))
  have HTP := Lib.hid (fun (h : err = 0) => inverse_plain (x := x) (y := y) (keeps := keeps) (R := R) (P := P) (by rw [← HM.out, h]))
  have HBD := Lib.hid (fun (h : err ≠ 0) => mergeP_bad HM.out h)
  have HLF2 := Lib.hid (fun (h : err = 0) (hb : B = true) (hl : L = true) => HLF.out hb hl R P (by rw [← HM.out, h]))
  clear HM HLF
  obtain ⟨⟨id, ver, kind, lang, xf⟩, xa, xc⟩ := x
  obtain ⟨⟨id2, ver2, kind2, lang2, yf⟩, ya, yc⟩ := y
  simp only at HFA HPM HLF2 XC YC HTP ⊢
  obtain ⟨xn, hxn⟩ : ∃ n, n = xf.length := ⟨_, rfl⟩
  obtain ⟨yn, hyn⟩ : ∃ n, n = yf.length := ⟨_, rfl⟩
  obtain ⟨T, hT⟩ : ∃ T, T = lb f.tag := ⟨_, rfl⟩
  obtain ⟨I, hI⟩ : ∃ I, I = lb f.ind := ⟨_, rfl⟩
  obtain ⟨sn, hsn⟩ : ∃ sn, sn = f.subs.length := ⟨_, rfl⟩
  rw [← hxn, ← hyn] at HFA HPM ⊢
  rw [← hxn, ← hyn] at HLF2
  rw [← hT, ← hI, ← hsn] at HLI ⊢
  have HXN := Lib.hid hxn
  have HYN := Lib.hid hyn
  have HTT := Lib.hid hT
  have HII := Lib.hid hI
  have HSN := Lib.hid hsn
  clear hxn hyn hT hI hsn
  have HB0 : Hid (Below w.heap.size w ((w.alloc (pairO id ver kind lang xa xn xc id2 ver2 kind2 lang2 ya yn yc (.slice ka kn kc))).alloc ((.cells #[.string T, .string I, .slice f.sa sn f.sc, .int .i64 f.auth] 46)))) := Lib.hid ((Below.refl _ _).alloc2 (Nat.le_refl _) _ _)
  have HP0 : Hid (((w.alloc (pairO id ver kind lang xa xn xc id2 ver2 kind2 lang2 ya yn yc (.slice ka kn kc))).alloc ((.cells #[.string T, .string I, .slice f.sa sn f.sc, .int .i64 f.auth] 46))).heap[w.heap.size]? = some (pairO id ver kind lang xa xn xc id2 ver2 kind2 lang2 ya yn yc (.slice ka kn kc))) := Lib.hid ((alloc_old (by simp)).trans (alloc_at rfl))
  have HN0 : Hid (((w.alloc (pairO id ver kind lang xa xn xc id2 ver2 kind2 lang2 ya yn yc (.slice ka kn kc))).alloc ((.cells #[.string T, .string I, .slice f.sa sn f.sc, .int .i64 f.auth] 46))).heap[w.heap.size + 1]? = some (.cells #[.string T, .string I, .slice f.sa sn f.sc, .int .i64 f.auth] 46 (0, 0))) := Lib.hid (alloc_at (by simp))
  go_enter Tryd.func6, Tryd.ntmps6
  go_upto_region 1 with fail
  obtain ⟨nf, hnf⟩ : ∃ n, n = w.heap.size + 1 := ⟨_, rfl⟩
  have HNF : Hid (w.heap.size < nf) := Lib.hid (by omega)
  rw [← hnf] at HN0 ⊢
  clear hnf
  generalize ((w.alloc (pairO id ver kind lang xa xn xc id2 ver2 kind2 lang2 ya yn yc (.slice ka kn kc))).alloc ((.cells #[.string T, .string I, .slice f.sa sn f.sc, .int .i64 f.auth] 46))) = w2 at HP0 HN0 HB0 ⊢
  have c0 := Lib.cell_of_heap HP0.out 0
  have c1 := Lib.cell_of_heap HP0.out 1
  have c2 := Lib.cell_of_heap HP0.out 2
  have c3 := Lib.cell_of_heap HP0.out 3
  have c4 := Lib.cell_of_heap HP0.out 4
  have c5 := Lib.cell_of_heap HP0.out 5
  have c6 := Lib.cell_of_heap HP0.out 6
  have c7 := Lib.cell_of_heap HP0.out 7
  have c8 := Lib.cell_of_heap HP0.out 8
  have c9 := Lib.cell_of_heap HP0.out 9
  have c10 := Lib.cell_of_heap HP0.out 10
  go_wp2_with fail
  refine (HFA.out w2 HB0.out).mono ?_
  rintro e w3 ⟨rfl, b3⟩
  have HP3 : Hid (w3.heap[w.heap.size]? = _) := Lib.hid ((b3.block _ (Array.getElem?_eq_some_iff.1 HP0.out).1).trans HP0.out)
  have HN3 : Hid (w3.heap[nf]? = _) := Lib.hid ((b3.block _ (Array.getElem?_eq_some_iff.1 HN0.out).1).trans HN0.out)
  have HB3 := Lib.hid (HB0.out.bt b3)
  clear b3 c0 c1 c2 c3 c4 c5 c6 c7 c8 c9 c10 HP0 HN0 HB0 HFA
  cases B with
  | false =>
    go_wp2_with fail
    refine (HAL.out _ HB3.out).mono ?_
    rintro e w4 ⟨rfl, b4⟩
    have HB4 := Lib.hid (HB3.out.bt b4)
    clear b4
    go_wp2
    go_ret
    exact ⟨rfl, HB4.out⟩
  | true =>
    have d0 := Lib.cell_of_heap HN3.out 0
    have d1 := Lib.cell_of_heap HN3.out 1
    have d2 := Lib.cell_of_heap HN3.out 2
    have d3 := Lib.cell_of_heap HN3.out 3
    go_wp2_with fail
    refine (HLI.out w3 HB3.out).mono ?_
    rintro e w5 ⟨rfl, b5⟩
    have HP5 : Hid (w5.heap[w.heap.size]? = _) := Lib.hid ((b5.block _ (Array.getElem?_eq_some_iff.1 HP3.out).1).trans HP3.out)
    have HN5 : Hid (w5.heap[nf]? = _) := Lib.hid ((b5.block _ (Array.getElem?_eq_some_iff.1 HN3.out).1).trans HN3.out)
    have HB5 := Lib.hid (HB3.out.bt b5)
    clear b5 d0 d1 d2 d3 HP3 HN3 HB3 HLI
    cases L with
    | false =>
      go_wp2_with fail
      refine (HAL.out _ HB5.out).mono ?_
      rintro e w4 ⟨rfl, b4⟩
      have HB4 := Lib.hid (HB5.out.bt b4)
      clear b4
      go_wp2
      go_ret
      exact ⟨rfl, HB4.out⟩
    | true =>
      have c0 := Lib.cell_of_heap HP5.out 0
      have c1 := Lib.cell_of_heap HP5.out 1
      have c2 := Lib.cell_of_heap HP5.out 2
      have c3 := Lib.cell_of_heap HP5.out 3
      have c4 := Lib.cell_of_heap HP5.out 4
      have c5 := Lib.cell_of_heap HP5.out 5
      have c6 := Lib.cell_of_heap HP5.out 6
      have c7 := Lib.cell_of_heap HP5.out 7
      have c8 := Lib.cell_of_heap HP5.out 8
      have c9 := Lib.cell_of_heap HP5.out 9
      have c10 := Lib.cell_of_heap HP5.out 10
      go_wp2_with fail
      refine (HPM.out (by trivial) w5 HB5.out).mono ?_
      rintro e w4 ⟨a, c, tv, rfl, r1, -, r3, b4⟩
      obtain ⟨ta, tc, rfl, -⟩ := Rows.shape r3
      by_cases he : err = 0
      · subst he
        obtain ⟨t, hR, hp1, hp2, hp3, hp5, hp6, hp7⟩ := HTP.out rfl
        obtain ⟨pin, pfr, tk⟩ := P
        simp only at hp1 hp2 hp3 r3 hp6 hp7
        subst hR
        obtain ⟨hp1⟩ : PLift (id = pin) := ⟨hp1.symm⟩
        subst hp1
        subst hp2
        obtain ⟨sx, sy, sr, lr, st, fs, lx, ly⟩ := HLF2.out rfl (by trivial) (by trivial)
        clear HTP HLF2 HPM HBD
        unfold recV5 partV
        simp only at lr r1 st ⊢
        obtain ⟨rf, hrf⟩ : ∃ l, l = xf ++ t := ⟨_, rfl⟩
        rw [← hrf] at sr lr r1 ⊢
        obtain ⟨rn, hrn⟩ : ∃ n, n = rf.length := ⟨_, rfl⟩
        obtain ⟨tn, htn⟩ : ∃ n, n = tk.length := ⟨_, rfl⟩
        rw [← hrn] at lr ⊢
        rw [← HYN.out, ← htn]
        rw [← htn] at r3 hp3 st
        have HRF := Lib.hid hrf
        have HRN := Lib.hid hrn
        have HTN := Lib.hid htn
        have HT3 := Lib.hid hp3
        have HT5 := Lib.hid hp5
        have HT6 := Lib.hid hp6
        have HT7 := Lib.hid hp7
        have HSX := Lib.hid sx
        have HSY := Lib.hid sy
        have HSR := Lib.hid sr
        have HFS := Lib.hid fs
        have hbb : Below w4.heap.size w4 ((w4.alloc (.cells #[.int .i64 id, .int .i64 ver, .int .i64 kind, .string lang, .slice a rn c] 31)).alloc (.cells #[.int .i64 id, .int .i64 id2, .int .i64 ver2, .int .i64 kind2, .string lang2, .slice ya yn yc, .slice ta tn tc] 36)) := (Below.refl _ _).alloc2 (Nat.le_refl _) _ _
        have HN3 : Hid (((w4.alloc (.cells #[.int .i64 id, .int .i64 ver, .int .i64 kind, .string lang, .slice a rn c] 31)).alloc (.cells #[.int .i64 id, .int .i64 id2, .int .i64 ver2, .int .i64 kind2, .string lang2, .slice ya yn yc, .slice ta tn tc] 36)).heap[w4.heap.size]? = some (.cells #[.int .i64 id, .int .i64 ver, .int .i64 kind, .string lang, .slice a rn c] 31 (0, 0))) := Lib.hid ((alloc_old (by simp)).trans (alloc_at rfl))
        have HN4 : Hid (((w4.alloc (.cells #[.int .i64 id, .int .i64 ver, .int .i64 kind, .string lang, .slice a rn c] 31)).alloc (.cells #[.int .i64 id, .int .i64 id2, .int .i64 ver2, .int .i64 kind2, .string lang2, .slice ya yn yc, .slice ta tn tc] 36)).heap[w4.heap.size + 1]? = some (.cells #[.int .i64 id, .int .i64 id2, .int .i64 ver2, .int .i64 kind2, .string lang2, .slice ya yn yc, .slice ta tn tc] 36 (0, 0))) := Lib.hid (alloc_at (by simp))
        have HR1 := Lib.hid (r1.below hbb (Nat.le_refl _))
        have HR3 : Hid (IntsAt _ (.slice ta tn tc) tk) := Lib.hid (Rows.below r3 hbb (Nat.le_refl _))
        have hb := b4.bt hbb
        have HPB := Lib.hid ((hb.block _ (Array.getElem?_eq_some_iff.1 HP5.out).1).trans HP5.out)
        have HNB := Lib.hid ((hb.block _ (Array.getElem?_eq_some_iff.1 HN5.out).1).trans HN5.out)
        have HB6 := Lib.hid (HB5.out.bt hb)
        have HG3 : Hid (w.heap.size < w4.heap.size ∧ nf < w4.heap.size) := Lib.hid (by
          have h1 := (Array.getElem?_eq_some_iff.1 HN5.out).1
          have h2 := b4.size
          have h3 := HNF.out
          omega)
        have HTK : Hid (∀ W, Below w4.heap.size ((w4.alloc (.cells #[.int .i64 id, .int .i64 ver, .int .i64 kind, .string lang, .slice a rn c] 31)).alloc (.cells #[.int .i64 id, .int .i64 id2, .int .i64 ver2, .int .i64 kind2, .string lang2, .slice ya yn yc, .slice ta tn tc] 36)) W → IntsAt W (.slice ta tn tc) tk) := Lib.hid (fun W h => Rows.below r3 (hbb.trans h) (Nat.le_refl _))
        clear b4 hb hbb r1 r3 sx sy sr fs hp3 hp5 hp6 hp7 hrf hrn htn HP5 HN5 HB5 c0 c1 c2 c3 c4 c5 c6 c7 c8 c9 c10
        go_upto_region 6 with fail
        obtain ⟨n4, hn4⟩ : ∃ n, n = w4.heap.size + 1 := ⟨_, rfl⟩
        rw [← hn4] at HN4 ⊢
        have HN34 : Hid (w4.heap.size < n4) := Lib.hid (by omega)
        clear hn4
        generalize w4.heap.size = n3 at HN3 HG3 HTK HN34 ⊢
        generalize ((w4.alloc (.cells #[.int .i64 id, .int .i64 ver, .int .i64 kind, .string lang, .slice a rn c] 31)).alloc (.cells #[.int .i64 id, .int .i64 id2, .int .i64 ver2, .int .i64 kind2, .string lang2, .slice ya yn yc, .slice ta tn tc] 36)) = w6 at HN3 HN4 HR1 HR3 HTK HPB HNB HB6 ⊢
        have HCE : Hid (∀ W, Below w6.heap.size w6 W → W.heap[w.heap.size]? = some (pairO id ver kind lang xa xn xc id2 ver2 kind2 lang2 ya yn yc (.slice ka kn kc)) ∧ W.heap[n3]? = some (.cells #[.int .i64 id, .int .i64 ver, .int .i64 kind, .string lang, .slice a rn c] 31 (0, 0)) ∧ W.heap[n4]? = some (.cells #[.int .i64 id, .int .i64 id2, .int .i64 ver2, .int .i64 kind2, .string lang2, .slice ya yn yc, .slice ta tn tc] 36 (0, 0)) ∧ W.heap[nf]? = some (.cells #[.string T, .string I, .slice f.sa sn f.sc, .int .i64 f.auth] 46 (0, 0))) := Lib.hid (fun W h => ⟨(h.block _ (Array.getElem?_eq_some_iff.1 HPB.out).1).trans HPB.out, (h.block _ (Array.getElem?_eq_some_iff.1 HN3.out).1).trans HN3.out, (h.block _ (Array.getElem?_eq_some_iff.1 HN4.out).1).trans HN4.out, (h.block _ (Array.getElem?_eq_some_iff.1 HNB.out).1).trans HNB.out⟩)
        obtain ⟨hc1, hc2, hti⟩ := int_cells HR3.out
        have HTI := Lib.hid hti
        have HSM : Hid (∀ W (g : Fld), Below w6.heap.size w6 W → g ∈ yf → Calls Tryd.prog 19 #[fldV g, .agg #[.string T, .string I, .slice f.sa sn f.sc, .int .i64 f.auth]] W fun e w' => e = .returned (.bool (sameF g f)) ∧ Below W.heap.size W w') := Lib.hid (fun W g h hg => by
          have hb := HB6.out.bt h
          have := pSame07 g f W ((HY.out W hb).2 g hg) (HF.out W hb) ((HSY.out.2 g hg).subs)
          unfold fldV at this ⊢
          rw [← HTT.out, ← HII.out, ← HSN.out] at this
          exact this)
        clear HN3 HN4 HPB HNB hc1 hc2 hti
        go_wp2
        go_loopw [8] (fun vk wr => ∃ k : Nat, vk = .int .i64 k ∧ k ≤ tn ∧ Hid (∀ j i g, j < k → tk[j]? = some i → yf[i.toNat]? = some g → sameF g f = false) ∧ Hid (Below w6.heap.size w6 wr)) (fun vk _ => tn - (intOf vk).toNat)
        case atStart => exact ⟨0, rfl, by omega, Lib.hid (fun _ _ _ h => by omega), Lib.hid (Below.refl _ _)⟩
        case round =>
          obtain ⟨k, rfl, hk, HNO, HBR⟩ := hrel
          obtain ⟨wo, rfl⟩ : ∃ W, W = wr := ⟨_, rfl⟩
          obtain ⟨k0, k3, k4, k5⟩ := HCE.out wo HBR.out
          have g6 := Lib.cell_of_heap k4 6
          clear k0 k3 k4 k5
          by_cases hlt : k < tn
          · have hltz : (k : Int) < (tn : Int) := by omega
            obtain ⟨i, hi⟩ : ∃ i, tk[k]? = some i := ⟨_, List.getElem?_eq_getElem (by have := HTN.out; omega)⟩
            obtain ⟨i0, i1⟩ := HT5.out.rng i (List.mem_of_getElem? hi)
            have i1 : i < (yf.length : Int) := i1
            obtain ⟨j, rfl⟩ : ∃ j : Nat, i = (j : Int) := ⟨i.toNat, by omega⟩
            have hjn : (j : Int) < (yn : Int) := by have := HYN.out; omega
            obtain ⟨g, hg⟩ : ∃ g, yf[j]? = some g := ⟨_, List.getElem?_eq_getElem (by omega)⟩
            have hp : ∀ W, Below wo.heap.size wo W → W.heap[w.heap.size]? = some (pairO id ver kind lang xa xn xc id2 ver2 kind2 lang2 ya yn yc (.slice ka kn kc)) ∧ W.heap[n4]? = some (.cells #[.int .i64 id, .int .i64 id2, .int .i64 ver2, .int .i64 kind2, .string lang2, .slice ya yn yc, .slice ta tn tc] 36 (0, 0)) ∧ W.heap[nf]? = some (.cells #[.string T, .string I, .slice f.sa sn f.sc, .int .i64 f.auth] 46 (0, 0)) := fun W h => by
              obtain ⟨k0, k3, k4, k5⟩ := HCE.out W (HBR.out.bt h)
              exact ⟨k0, k4, k5⟩
            rcases HTI.out with h0 | ⟨b, o, rfl, hbl, hcl⟩
            · omega
            rcases YC.out with h0 | ⟨b2, o2, hya, hbl2, hcl2⟩
            · have h0 : yf = [] := h0
              rw [h0] at hg; cases hg
            obtain rfl : ya = some ⟨b2, o2, none⟩ := hya
            have hi4 := hcl k _ hi
            have hy4 := hcl2 j g hg
            have hcy : ∀ W, Below wo.heap.size wo W → Four W b2 (o2 + j * 4) g := fun W h => hy4.below (HB6.out.bt (HBR.out.bt h)) hbl2
            have hci : ∀ W, Below wo.heap.size wo W → W.cell? ⟨b, o + k, none⟩ = some (.int .i64 (j : Int)) := fun W h => ((HBR.out.bt h).cell (p := ⟨b, o + k, none⟩) hbl).trans hi4
            have hcall : ∀ W, Below wo.heap.size wo W → Calls Tryd.prog 19 #[fldV g, .agg #[.string T, .string I, .slice f.sa sn f.sc, .int .i64 f.auth]] W fun e w' => e = .returned (.bool (sameF g f)) ∧ Below W.heap.size W w' := fun W h => HSM.out W g (HBR.out.bt h) (List.mem_of_getElem? hg)
            have hone : ∀ i g', tk[k]? = some i → yf[i.toNat]? = some g' → g' = g := fun i g' h1 h2 => by
              rw [hi] at h1
              cases h1
              rw [Int.toNat_natCast, hg] at h2
              cases h2; rfl
            have HONE := Lib.hid hone
            obtain ⟨G, hG⟩ : ∃ G, G = sameF g f := ⟨_, rfl⟩
            obtain ⟨T2, hT⟩ : ∃ T, T = lb g.tag := ⟨_, rfl⟩
            obtain ⟨I2, hI⟩ : ∃ I, I = lb g.ind := ⟨_, rfl⟩
            obtain ⟨sn2, hsn⟩ : ∃ sn, sn = g.subs.length := ⟨_, rfl⟩
            rw [← hG] at hcall
            unfold fldV at hcall
            rw [← hT, ← hI, ← hsn] at hcall
            have hcy' : ∀ W, Below wo.heap.size wo W → W.cell? ⟨b2, o2 + j * 4, none⟩ = some (.string T2) ∧ W.cell? ⟨b2, o2 + j * 4 + 1, none⟩ = some (.string I2) ∧ W.cell? ⟨b2, o2 + j * 4 + 2, none⟩ = some (.slice g.sa sn2 g.sc) ∧ W.cell? ⟨b2, o2 + j * 4 + 3, none⟩ = some (.int .i64 g.auth) := fun W h => by
              obtain ⟨h0, h1, h2, h3⟩ := hcy W h
              rw [hT, hI, hsn]
              exact ⟨h0, h1, h2, h3⟩
            have HCS := Lib.hid hcall
            have HCY := Lib.hid hcy'
            have HCI := Lib.hid hci
            have HCP := Lib.hid hp
            have HGG := Lib.hid hG
            clear hcall hcy hcy' hci hp hi4 hy4 hcl hcl2 hi hg hT hI hsn hG i0 i1 hone
            go_wp2_with fail
            obtain ⟨C, hC⟩ : ∃ C : World → Prop, C = fun w' => Below wo.heap.size wo w' := ⟨_, rfl⟩
            have hCB : ∀ w', C w' → Below wo.heap.size wo w' := fun w' h => by rw [hC] at h; exact h
            have hC0 : C { wo with drawn := wo.drawn + 1 } := by rw [hC]; exact (Below.refl _ _).drew
            have hstep : ∀ w' w'', C w' → Below w'.heap.size w' w'' → C w'' := fun w' w'' h k => by rw [hC] at h ⊢; exact h.trans (k.mono h.size)
            have hcells : ∀ w', C w' → w'.cell? ⟨w.heap.size, 9, none⟩ = some (.slice (some ⟨b2, o2, none⟩) yn yc) ∧ w'.cell? ⟨n4, 6, none⟩ = some (.slice (some ⟨b, o, none⟩) tn tc) ∧ w'.cell? ⟨b, o + k, none⟩ = some (.int .i64 (j : Int)) ∧ w'.cell? ⟨b2, o2 + j * 4, none⟩ = some (.string T2) ∧ w'.cell? ⟨b2, o2 + j * 4 + 1, none⟩ = some (.string I2) ∧ w'.cell? ⟨b2, o2 + j * 4 + 2, none⟩ = some (.slice g.sa sn2 g.sc) ∧ w'.cell? ⟨b2, o2 + j * 4 + 3, none⟩ = some (.int .i64 g.auth) ∧ w'.cell? ⟨nf, 0, none⟩ = some (.string T) ∧ w'.cell? ⟨nf, 1, none⟩ = some (.string I) ∧ w'.cell? ⟨nf, 2, none⟩ = some (.slice f.sa sn f.sc) ∧ w'.cell? ⟨nf, 3, none⟩ = some (.int .i64 f.auth) := fun w' h => ⟨Lib.cell_of_heap (HCP.out w' (hCB w' h)).1 9, Lib.cell_of_heap (HCP.out w' (hCB w' h)).2.1 6, HCI.out w' (hCB w' h), (HCY.out w' (hCB w' h)).1, (HCY.out w' (hCB w' h)).2.1, (HCY.out w' (hCB w' h)).2.2.1, (HCY.out w' (hCB w' h)).2.2.2, Lib.cell_of_heap (HCP.out w' (hCB w' h)).2.2 0, Lib.cell_of_heap (HCP.out w' (hCB w' h)).2.2 1, Lib.cell_of_heap (HCP.out w' (hCB w' h)).2.2 2, Lib.cell_of_heap (HCP.out w' (hCB w' h)).2.2 3⟩
            clear hC
            refine wp_region_quiet (C := C) (by kernel_rfl) (by kernel_rfl) hC0 ?_
            show wpQuiet _ _ _ _ [_, _, _, _, _, _, _, _, _, _, _, _] _
            repeat
              with_reducible refine wpQuiet_step (fun K hK => ?_)
              go_simp
              first
                | (with_reducible refine hK _ ?_; clear hK K)
                | (apply Exists.intro
                   with_reducible refine ⟨fun w' hw' => ?_, hK _ ?_⟩
                   · first
                     | with_reducible rfl
                     | (obtain ⟨q0, q1, q2, q3, q4, q5, q6, q7, q8, q9, q10⟩ := hcells w' hw'; go_simp; with_reducible rfl)
                     | ((first
                         | with_reducible refine (HCS.out w' (hCB w' hw')).mono ?_)
                        exact fun e w'' ⟨he, hb⟩ => ⟨he, hstep w' w'' hw' hb⟩)
                   clear hK K)
            refine wpQuiet_nil ?_
            intro wz hw2
            have HB7 := Lib.hid (HBR.out.bt (hCB wz hw2))
            clear hcells hCB hstep hw2
            cases G with
            | true =>
              go_wp2_with fail
              refine (HAL.out _ (HB6.out.bt HB7.out)).mono ?_
              rintro e w8 ⟨rfl, b8⟩
              have HB8 := Lib.hid ((HB6.out.bt HB7.out).bt b8)
              clear b8
              go_wp2
              go_ret
              exact ⟨rfl, HB8.out⟩
            | false =>
              have HNO2 : Hid (∀ j i g, j < k + 1 → tk[j]? = some i → yf[i.toNat]? = some g → sameF g f = false) := Lib.hid (fun j' i' g' h1 h2 h3 => by
                by_cases hj : j' < k
                · exact HNO.out j' i' g' hj h2 h3
                · obtain rfl : j' = k := by omega
                  rw [HONE.out i' g' h2 h3]
                  exact HGG.out.symm)
              go_wp2
              go_roundw
              case rel => exact ⟨k + 1, by go_num, by omega, HNO2, HB7⟩
              case measure => simp [intOf]; omega
          · have hltz : ¬ (k : Int) < (tn : Int) := by omega
            obtain rfl : k = tn := by omega
            clear hlt hk
            go_upto_region 11 with fail
            obtain ⟨k0, k3, k4, k5⟩ := HCE.out wo HBR.out
            have hrow : Flds wo (.slice a rn c) rf := by
              have := HR1.out.below HBR.out (Nat.le_refl _)
              unfold RcdAt at this
              simp only at this
              rw [← HRN.out] at this
              exact this
            have z4 : wo.frozen? ⟨n3, 4, none⟩ = false := Lib.frozen_of_heap k3 4
            refine append_region n3 nf rn c a rf f T I sn HTT.out HII.out HSN.out HRN.out (by omega) hrow (Lib.cell_of_heap k3 4) z4 k5 (by kernel_rfl) (by kernel_rfl) (by kernel_rfl) (by kernel_rfl) (by kernel_rfl) (by kernel_rfl) (by kernel_rfl) (by kernel_rfl) (by kernel_rfl) (by kernel_rfl) (by kernel_rfl) (by kernel_rfl) (by kernel_rfl) (by kernel_rfl) (by kernel_rfl) (by kernel_rfl) ?_
            intro xs W' g cap hb ho
            have hnr := HRF.out
            have HXO : Hid (Below w.heap.size w (W'.setCell ⟨n3, 4, none⟩ (Sl g (rn + 1) cap))) := Lib.hid (((HB6.out.bt HBR.out).bt hb).setCell (p := ⟨n3, 4, none⟩) (by have := HG3.out.1; show _ ≤ n3; omega) _)
            have HN6 : Hid (n3 < w6.heap.size) := Lib.hid (by
              obtain ⟨-, h, -⟩ := HCE.out w6 (Below.refl _ _)
              exact (Array.getElem?_eq_some_iff.1 h).1)
            have hb6 : Below n3 w6 (W'.setCell ⟨n3, 4, none⟩ (Sl g (rn + 1) cap)) := (Below.mono (B' := n3) (HBR.out.bt hb) (Nat.le_of_lt HN6.out)).setCell (p := ⟨n3, 4, none⟩) (Nat.le_refl n3) _
            have HTK2 : Hid (IntsAt (W'.setCell ⟨n3, 4, none⟩ (Sl g (rn + 1) cap)) (.slice ta k tc) tk) := Lib.hid (HTK.out _ hb6)
            obtain ⟨k0', k3', k4', k5'⟩ := HCE.out W' (HBR.out.bt hb)
            have e0 : (W'.setCell ⟨n3, 4, none⟩ (Sl g (rn + 1) cap)).heap[w.heap.size]? = _ := (set_block W' ⟨n3, 4, none⟩ _ w.heap.size (by have := HG3.out.1; show n3 ≠ _; omega)).trans k0'
            have e4 : (W'.setCell ⟨n3, 4, none⟩ (Sl g (rn + 1) cap)).heap[n4]? = _ := (set_block W' ⟨n3, 4, none⟩ _ n4 (by have := HN34.out; show n3 ≠ _; omega)).trans k4'
            have e5 : (W'.setCell ⟨n3, 4, none⟩ (Sl g (rn + 1) cap)).heap[nf]? = _ := (set_block W' ⟨n3, 4, none⟩ _ nf (by have := HG3.out.2; show n3 ≠ _; omega)).trans k5'
            have e3 : (W'.setCell ⟨n3, 4, none⟩ (Sl g (rn + 1) cap)).heap[n3]? = some (.cells #[.int .i64 id, .int .i64 ver, .int .i64 kind, .string lang, Sl g (rn + 1) cap] 31 (0, 0)) := heap_setCell_same W' n3 4 _ _ (Sl g (rn + 1) cap) k3'
            have hmem : ∀ f' ∈ rf ++ [f], FldAt (W'.setCell ⟨n3, 4, none⟩ (Sl g (rn + 1) cap)) f' ∧ f'.subs.length ≤ 1000000 := fun f' hf' => by
              rcases List.mem_append.1 hf' with h | h
              · have hs := (HSR.out.2 f' h).subs
                rw [HRF.out] at h
                rcases List.mem_append.1 h with h | h
                · exact ⟨(HX.out _ HXO.out).2 f' h, hs⟩
                · exact ⟨(HY.out _ HXO.out).2 f' (HT7.out f' h), hs⟩
              · cases List.mem_singleton.1 h
                exact ⟨HF.out _ HXO.out, HFS.out⟩
            have hrows : Rows fldE 4 (W'.setCell ⟨n3, 4, none⟩ (Sl g (rn + 1) cap)) (Sl g (rn + 1) cap) (rf ++ [f]) := OwnE.rows fldE_len (OwnE.set ho k3' (by decide) 4 (Sl g (rn + 1) cap))
            have hlen : (rf ++ [f]).length = rn + 1 := by rw [List.length_append, List.length_singleton, ← HRN.out]
            have hrcd : RcdAt (W'.setCell ⟨n3, 4, none⟩ (Sl g (rn + 1) cap)) ⟨⟨id, ver, kind, lang, rf ++ [f]⟩, some ⟨g, 0, none⟩, cap⟩ := by
              unfold RcdAt
              simp only [hlen]
              exact ⟨hrows, fun f' h => (hmem f' h).1⟩
            have hdiff : ∀ s ∈ t, sameF s f = false := fun s hs => by
              obtain ⟨j, hj, rfl⟩ := List.getElem_of_mem hs
              have hjk : j < k := by have := HT3.out; omega
              obtain ⟨i, hi⟩ : ∃ i, tk[j]? = some i := ⟨_, List.getElem?_eq_getElem (by have := HTN.out; omega)⟩
              exact HNO.out j i t[j] hjk hi (HT6.out j i t[j] hi (List.getElem?_eq_getElem hj))
            have hpin : PartIn (W'.setCell ⟨n3, 4, none⟩ (Sl g (rn + 1) cap)) ⟨⟨id, ver, kind, lang, rf ++ [f]⟩, some ⟨g, 0, none⟩, cap⟩ ⟨id, ⟨⟨id2, ver2, kind2, lang2, yf⟩, ya, yc⟩, tk⟩ (.slice ta k tc) t (xf ++ [f]) := {
              hx := hrcd
              hf := HY.out _ HXO.out
              ht := HTK2.out
              hs := HSY.out
              hsx := fun f' h => (hmem f' h).2
              hok := HT5.out
              hid := rfl
              htl := by have := HT3.out; have := HTN.out; show t.length = tk.length; omega
              htf := HT6.out
              hparts := by
                have := parts_back f t.reverse xf (fun s hs => hdiff s (List.mem_reverse.1 hs))
                rw [List.reverse_reverse, ← HRF.out] at this
                exact this
              hl := by have := HTN.out; show tk.length ≤ 1000; omega
              hfl := by have := HYN.out; show yf.length ≤ 1000; omega
              hxl := by show (rf ++ [f]).length ≤ 1000; rw [hlen]; omega }
            have HPI := Lib.hid hpin
            have HE0 := Lib.hid e0
            have HE3 := Lib.hid e3
            have HE4 := Lib.hid e4
            have HE5 := Lib.hid e5
            have HLEN := Lib.hid hlen
            clear hnr hb6 HTK2 k0 k3 k4 k5 k0' k3' k4' k5' e0 e3 e4 e5 hmem hrows hlen hrcd hdiff hpin hb ho hrow z4 HNO HCE HN6 HTK
            go_upto_region 12 with fail
            generalize (W'.setCell ⟨n3, 4, none⟩ (Sl g (rn + 1) cap)) = wz at HPI HE0 HE3 HE4 HE5 HXO ⊢
            have r0 := Lib.cell_of_heap HE3.out 0
            have r1 := Lib.cell_of_heap HE3.out 1
            have r2 := Lib.cell_of_heap HE3.out 2
            have r3 := Lib.cell_of_heap HE3.out 3
            have r4 := Lib.cell_of_heap HE3.out 4
            have p0 := Lib.cell_of_heap HE4.out 0
            have p1 := Lib.cell_of_heap HE4.out 1
            have p2 := Lib.cell_of_heap HE4.out 2
            have p3 := Lib.cell_of_heap HE4.out 3
            have p4 := Lib.cell_of_heap HE4.out 4
            have p5 := Lib.cell_of_heap HE4.out 5
            have p6 := Lib.cell_of_heap HE4.out 6
            obtain ⟨xm, hxm⟩ : ∃ m, m = xn + 1 := ⟨_, rfl⟩
            have HXM := Lib.hid hxm
            have hlx : (xf ++ [f]).length = xm := by rw [List.length_append, List.length_singleton, ← HXN.out, HXM.out]
            clear hxm
            have hsp := pSplit (HE.out wz HXO.out) HPI.out
            unfold recV5 partV outR at hsp
            simp only [HLEN.out, hlx] at hsp
            rw [← HYN.out] at hsp
            have HSP := Lib.hid hsp
            clear hsp
            go_wp2_with fail
            refine Calls.mono HSP.out ?_
            rintro e w7 ⟨a', c', rfl, hr, b7⟩
            have hbb : Below w7.heap.size w7 ((w7.alloc (.cells #[.int .i64 id, .int .i64 ver, .int .i64 kind, .string lang, .slice a' xm c'] 31)).alloc (.cells #[.int .i64 id2, .int .i64 ver2, .int .i64 kind2, .string lang2, .slice ya yn yc] 31)) := (Below.refl _ _).alloc2 (Nat.le_refl _) _ _
            have HN9 : Hid (((w7.alloc (.cells #[.int .i64 id, .int .i64 ver, .int .i64 kind, .string lang, .slice a' xm c'] 31)).alloc (.cells #[.int .i64 id2, .int .i64 ver2, .int .i64 kind2, .string lang2, .slice ya yn yc] 31)).heap[w7.heap.size]? = some (.cells #[.int .i64 id, .int .i64 ver, .int .i64 kind, .string lang, .slice a' xm c'] 31 (0, 0))) := Lib.hid ((alloc_old (by simp)).trans (alloc_at rfl))
            have HN10 : Hid (((w7.alloc (.cells #[.int .i64 id, .int .i64 ver, .int .i64 kind, .string lang, .slice a' xm c'] 31)).alloc (.cells #[.int .i64 id2, .int .i64 ver2, .int .i64 kind2, .string lang2, .slice ya yn yc] 31)).heap[w7.heap.size + 1]? = some (.cells #[.int .i64 id2, .int .i64 ver2, .int .i64 kind2, .string lang2, .slice ya yn yc] 31 (0, 0))) := Lib.hid (alloc_at (by simp))
            have hb := b7.bt hbb
            have HR7 := Lib.hid (hr.below hbb (Nat.le_refl _))
            have HPI7 := Lib.hid (HPI.out.below hb)
            have HZ0 := Lib.hid ((hb.block _ (Array.getElem?_eq_some_iff.1 HE0.out).1).trans HE0.out)
            have HZ3 := Lib.hid ((hb.block _ (Array.getElem?_eq_some_iff.1 HE3.out).1).trans HE3.out)
            have HZ4 := Lib.hid ((hb.block _ (Array.getElem?_eq_some_iff.1 HE4.out).1).trans HE4.out)
            have HZ5 := Lib.hid ((hb.block _ (Array.getElem?_eq_some_iff.1 HE5.out).1).trans HE5.out)
            have HX7 := Lib.hid (HXO.out.bt hb)
            have HG9 : Hid (w.heap.size < w7.heap.size) := Lib.hid (Nat.lt_of_lt_of_le (Array.getElem?_eq_some_iff.1 HE0.out).1 b7.size)
            have HRK : Hid (∀ W, Below w7.heap.size ((w7.alloc (.cells #[.int .i64 id, .int .i64 ver, .int .i64 kind, .string lang, .slice a' xm c'] 31)).alloc (.cells #[.int .i64 id2, .int .i64 ver2, .int .i64 kind2, .string lang2, .slice ya yn yc] 31)) W → RcdAt W ⟨⟨id, ver, kind, lang, xf ++ [f]⟩, a', c'⟩) := Lib.hid (fun W h => hr.below (hbb.trans h) (Nat.le_refl _))
            have HLX := Lib.hid hlx
            clear b7 hbb hb hr hlx HPI HE0 HE3 HE4 HE5 HXO r0 r1 r2 r3 r4 p0 p1 p2 p3 p4 p5 p6
            go_upto_region 13 with fail
            obtain ⟨n10, hn10⟩ : ∃ n, n = w7.heap.size + 1 := ⟨_, rfl⟩
            rw [← hn10] at HN10 ⊢
            have HNE : Hid (w7.heap.size < n10) := Lib.hid (by omega)
            clear hn10
            generalize w7.heap.size = n9 at HN9 HG9 HRK HNE ⊢
            generalize ((w7.alloc (.cells #[.int .i64 id, .int .i64 ver, .int .i64 kind, .string lang, .slice a' xm c'] 31)).alloc (.cells #[.int .i64 id2, .int .i64 ver2, .int .i64 kind2, .string lang2, .slice ya yn yc] 31)) = w8 at HN9 HN10 HRK HR7 HPI7 HZ0 HZ3 HZ4 HZ5 HX7 ⊢
            have x4 := Lib.cell_of_heap HZ0.out 4
            obtain ⟨b', o', ha', hbl', hcl'⟩ : ∃ b o, a' = some ⟨b, o, none⟩ ∧ b < w8.heap.size ∧ ∀ j f', (xf ++ [f])[j]? = some f' → Four w8 b (o + j * 4) f' := by
              rcases rcd_cells HR7.out with h0 | ⟨b, o, e, hb, hcl⟩
              · exact absurd h0 (by simp)
              · exact ⟨b, o, e, hb, hcl⟩
            subst ha'
            have hf4 : Four w8 b' (o' + xn * 4) f := hcl' xn f (by rw [HXN.out, List.getElem?_append_right (Nat.le_refl _), Nat.sub_self]; rfl)
            have hcf : ∀ W, Below w8.heap.size w8 W → W.cell? ⟨b', o' + xn * 4, none⟩ = some (.string T) ∧ W.cell? ⟨b', o' + xn * 4 + 1, none⟩ = some (.string I) ∧ W.cell? ⟨b', o' + xn * 4 + 2, none⟩ = some (.slice f.sa sn f.sc) ∧ W.cell? ⟨b', o' + xn * 4 + 3, none⟩ = some (.int .i64 f.auth) := fun W h => by
              obtain ⟨h0, h1, h2, h3⟩ := hf4.below h hbl'
              rw [HTT.out, HII.out, HSN.out]
              exact ⟨h0, h1, h2, h3⟩
            have hbk : ∀ W, Below w8.heap.size w8 W → W.heap[n3]? = some (.cells #[.int .i64 id, .int .i64 ver, .int .i64 kind, .string lang, Sl g (rn + 1) cap] 31 (0, 0)) ∧ W.heap[n4]? = some (.cells #[.int .i64 id, .int .i64 id2, .int .i64 ver2, .int .i64 kind2, .string lang2, .slice ya yn yc, .slice ta k tc] 36 (0, 0)) ∧ W.heap[nf]? = some (.cells #[.string T, .string I, .slice f.sa sn f.sc, .int .i64 f.auth] 46 (0, 0)) ∧ W.heap[n9]? = some (.cells #[.int .i64 id, .int .i64 ver, .int .i64 kind, .string lang, .slice (some ⟨b', o', none⟩) xm c'] 31 (0, 0)) := fun W h => ⟨(h.block _ (Array.getElem?_eq_some_iff.1 HZ3.out).1).trans HZ3.out, (h.block _ (Array.getElem?_eq_some_iff.1 HZ4.out).1).trans HZ4.out, (h.block _ (Array.getElem?_eq_some_iff.1 HZ5.out).1).trans HZ5.out, (h.block _ (Array.getElem?_eq_some_iff.1 HN9.out).1).trans HN9.out⟩
            have hwh : ∀ W, Below w8.heap.size w8 W → Calls Tryd.prog 21 #[.agg #[.int .i64 id, .int .i64 ver, .int .i64 kind, .string lang, Sl g (rn + 1) cap], .agg #[.int .i64 id, .int .i64 id2, .int .i64 ver2, .int .i64 kind2, .string lang2, .slice ya yn yc, .slice ta k tc]] W fun e w' => e = .returned (.bool true) ∧ Below W.heap.size W w' := fun W h => by
              have := pWhole (HE.out W (HX7.out.bt h)) (HPI7.out.below h)
              unfold recV5 partV at this
              simp only [HLEN.out] at this
              rw [← HYN.out] at this
              exact this
            have hsf : ∀ W, Below w8.heap.size w8 W → Calls Tryd.prog 19 #[.agg #[.string T, .string I, .slice f.sa sn f.sc, .int .i64 f.auth], .agg #[.string T, .string I, .slice f.sa sn f.sc, .int .i64 f.auth]] W fun e w' => e = .returned (.bool true) ∧ Below W.heap.size W w' := fun W h => by
              have := pSame07 f f W (HF.out W (HX7.out.bt h)) (HF.out W (HX7.out.bt h)) HFS.out
              unfold fldV at this
              rw [sameF_refl, ← HTT.out, ← HII.out, ← HSN.out] at this
              exact this
            have HWH := Lib.hid hwh
            have HSF := Lib.hid hsf
            have HCF := Lib.hid hcf
            have HBK := Lib.hid hbk
            clear hwh hsf hcf hbk hf4 hcl'
            have hxx : (xn : Int) < (xm : Int) := by have := HXM.out; omega
            have hwx : IntKind.i64.wrap ((xn : Int) + 1) = (xm : Int) := by rw [IntKind.wrap_i64]; have := HXM.out; omega
            go_upto_region 14 with fail
            obtain ⟨C, hC⟩ : ∃ C : World → Prop, C = fun w' => Below w8.heap.size w8 w' := ⟨_, rfl⟩
            have hCB : ∀ w', C w' → Below w8.heap.size w8 w' := fun w' h => by rw [hC] at h; exact h
            have hC0 : C { w8 with drawn := w8.drawn + 1 } := by rw [hC]; exact (Below.refl _ _).drew
            have hstep : ∀ w' w'', C w' → Below w'.heap.size w' w'' → C w'' := fun w' w'' h k => by rw [hC] at h ⊢; exact h.trans (k.mono h.size)
            have hcells : ∀ w', C w' → w'.cell? ⟨n3, 0, none⟩ = some (.int .i64 id) ∧ w'.cell? ⟨n3, 1, none⟩ = some (.int .i64 ver) ∧ w'.cell? ⟨n3, 2, none⟩ = some (.int .i64 kind) ∧ w'.cell? ⟨n3, 3, none⟩ = some (.string lang) ∧ w'.cell? ⟨n3, 4, none⟩ = some (Sl g (rn + 1) cap) ∧ w'.cell? ⟨n4, 0, none⟩ = some (.int .i64 id) ∧ w'.cell? ⟨n4, 1, none⟩ = some (.int .i64 id2) ∧ w'.cell? ⟨n4, 2, none⟩ = some (.int .i64 ver2) ∧ w'.cell? ⟨n4, 3, none⟩ = some (.int .i64 kind2) ∧ w'.cell? ⟨n4, 4, none⟩ = some (.string lang2) ∧ w'.cell? ⟨n4, 5, none⟩ = some (.slice ya yn yc) ∧ w'.cell? ⟨n4, 6, none⟩ = some (.slice ta k tc) ∧ w'.cell? ⟨nf, 0, none⟩ = some (.string T) ∧ w'.cell? ⟨nf, 1, none⟩ = some (.string I) ∧ w'.cell? ⟨nf, 2, none⟩ = some (.slice f.sa sn f.sc) ∧ w'.cell? ⟨nf, 3, none⟩ = some (.int .i64 f.auth) ∧ w'.cell? ⟨n9, 4, none⟩ = some (.slice (some ⟨b', o', none⟩) xm c') ∧ w'.cell? ⟨b', o' + xn * 4, none⟩ = some (.string T) ∧ w'.cell? ⟨b', o' + xn * 4 + 1, none⟩ = some (.string I) ∧ w'.cell? ⟨b', o' + xn * 4 + 2, none⟩ = some (.slice f.sa sn f.sc) ∧ w'.cell? ⟨b', o' + xn * 4 + 3, none⟩ = some (.int .i64 f.auth) := fun w' h => ⟨Lib.cell_of_heap (HBK.out w' (hCB w' h)).1 0, Lib.cell_of_heap (HBK.out w' (hCB w' h)).1 1, Lib.cell_of_heap (HBK.out w' (hCB w' h)).1 2, Lib.cell_of_heap (HBK.out w' (hCB w' h)).1 3, Lib.cell_of_heap (HBK.out w' (hCB w' h)).1 4, Lib.cell_of_heap (HBK.out w' (hCB w' h)).2.1 0, Lib.cell_of_heap (HBK.out w' (hCB w' h)).2.1 1, Lib.cell_of_heap (HBK.out w' (hCB w' h)).2.1 2, Lib.cell_of_heap (HBK.out w' (hCB w' h)).2.1 3, Lib.cell_of_heap (HBK.out w' (hCB w' h)).2.1 4, Lib.cell_of_heap (HBK.out w' (hCB w' h)).2.1 5, Lib.cell_of_heap (HBK.out w' (hCB w' h)).2.1 6, Lib.cell_of_heap (HBK.out w' (hCB w' h)).2.2.1 0, Lib.cell_of_heap (HBK.out w' (hCB w' h)).2.2.1 1, Lib.cell_of_heap (HBK.out w' (hCB w' h)).2.2.1 2, Lib.cell_of_heap (HBK.out w' (hCB w' h)).2.2.1 3, Lib.cell_of_heap (HBK.out w' (hCB w' h)).2.2.2 4, (HCF.out w' (hCB w' h)).1, (HCF.out w' (hCB w' h)).2.1, (HCF.out w' (hCB w' h)).2.2.1, (HCF.out w' (hCB w' h)).2.2.2⟩
            clear hC
            refine wp_region_quiet (C := C) (by kernel_rfl) (by kernel_rfl) hC0 ?_
            show wpQuiet _ _ _ _ [_, _, _, _, _, _, _, _, _, _, _, _, _, _, _, _, _, _, _, _, _, _, _, _, _, _] _
            repeat
              with_reducible refine wpQuiet_step (fun K hK => ?_)
              go_simp
              first
                | (with_reducible refine hK _ ?_; clear hK K)
                | (apply Exists.intro
                   with_reducible refine ⟨fun w' hw' => ?_, hK _ ?_⟩
                   · first
                     | with_reducible rfl
                     | (obtain ⟨q0, q1, q2, q3, q4, q5, q6, q7, q8, q9, q10, q11, q12, q13, q14, q15, q16, q17, q18, q19, q20⟩ := hcells w' hw'; go_simp; with_reducible rfl)
                     | ((first
                         | with_reducible refine (HWH.out w' (hCB w' hw')).mono ?_
                         | with_reducible refine (HSF.out w' (hCB w' hw')).mono ?_)
                        exact fun e w'' ⟨he, hb⟩ => ⟨he, hstep w' w'' hw' hb⟩)
                   clear hK K)
            refine wpQuiet_nil ?_
            intro wq hw2
            have HC9 := Lib.hid (hCB wq hw2)
            clear hcells hCB hstep hw2
            obtain ⟨-, -, -, k9⟩ := HBK.out wq HC9.out
            have hcap : xm ≤ c' := by
              have := (HR7.out.1).len'
              simp only [HLX.out] at this
              exact this
            have hcapn : xn ≤ c' := by have := HXM.out; omega
            have hcz : (xn : Int) ≤ (c' : Int) := by omega
            have hx0 : (0 : Int) ≤ (xn : Int) := by omega
            have H98 : Hid (n9 < w8.heap.size) := Lib.hid (Array.getElem?_eq_some_iff.1 HN9.out).1
            have hb9 : Below n9 w8 (wq.setCell ⟨n9, 4, none⟩ (.slice (some ⟨b', o', none⟩) xn c')) := (Below.mono (B' := n9) HC9.out (Nat.le_of_lt H98.out)).setCell (p := ⟨n9, 4, none⟩) (Nat.le_refl n9) _
            have HY9 : Hid ((wq.setCell ⟨n9, 4, none⟩ (.slice (some ⟨b', o', none⟩) xn c')).heap[n9]? = some (.cells #[.int .i64 id, .int .i64 ver, .int .i64 kind, .string lang, .slice (some ⟨b', o', none⟩) xn c'] 31 (0, 0))) := Lib.hid (heap_setCell_same wq n9 4 _ _ _ k9)
            have HY10 := Lib.hid ((set_block wq ⟨n9, 4, none⟩ (.slice (some ⟨b', o', none⟩) xn c') n10 (by have := HNE.out; show n9 ≠ n10; omega)).trans ((HC9.out.block _ (Array.getElem?_eq_some_iff.1 HN10.out).1).trans HN10.out))
            have HY0 := Lib.hid ((set_block wq ⟨n9, 4, none⟩ (.slice (some ⟨b', o', none⟩) xn c') w.heap.size (by have := HG9.out; show n9 ≠ w.heap.size; omega)).trans ((HC9.out.block _ (Array.getElem?_eq_some_iff.1 HZ0.out).1).trans HZ0.out))
            have HXY : Hid (Below w.heap.size w (wq.setCell ⟨n9, 4, none⟩ (.slice (some ⟨b', o', none⟩) xn c'))) := Lib.hid ((HX7.out.bt HC9.out).setCell (p := ⟨n9, 4, none⟩) (by have := HG9.out; show _ ≤ n9; omega) _)
            have HAR : Hid (Flds (wq.setCell ⟨n9, 4, none⟩ (.slice (some ⟨b', o', none⟩) xn c')) (.slice (some ⟨b', o', none⟩) xn c') xf) := Lib.hid (by
              have h1 := HRK.out _ hb9
              unfold RcdAt at h1
              simp only [HLX.out] at h1
              have h2 := Rows.take h1.1 (m := xn) (by have := HXM.out; omega)
              have ht : (xf ++ [f]).take xn = xf := by rw [HXN.out]; exact List.take_left
              rw [ht] at h2
              exact ⟨h2, fun f' hf' => h1.2 f' (List.mem_append_left _ hf')⟩)
            have q4 := Lib.cell_of_heap k9 4
            have qf := Lib.frozen_of_heap k9 4
            clear k9 hb9 hcap
            go_upto_region 17 with fail
            generalize (wq.setCell ⟨n9, 4, none⟩ (.slice (some ⟨b', o', none⟩) xn c')) = wy at HY9 HY10 HY0 HXY HAR ⊢
            clear q4 qf
            go_wp2_with fail
            refine (HAL.out wy HXY.out).mono ?_
            rintro e wx ⟨rfl, b1⟩
            have HD9 : Hid (∀ W, Below wx.heap.size wx W → W.heap[n9]? = _) := Lib.hid (fun W h => ((b1.bt h).block _ (Array.getElem?_eq_some_iff.1 HY9.out).1).trans HY9.out)
            have HD10 := Lib.hid (fun W (h : Below wx.heap.size wx W) => ((b1.bt h).block _ (Array.getElem?_eq_some_iff.1 HY10.out).1).trans HY10.out)
            have HD0 := Lib.hid (fun W (h : Below wx.heap.size wx W) => ((b1.bt h).block _ (Array.getElem?_eq_some_iff.1 HY0.out).1).trans HY0.out)
            have HXX := Lib.hid (HXY.out.bt b1)
            have HS1 : Hid (Calls Tryd.prog 22 #[.agg #[.int .i64 id, .int .i64 ver, .int .i64 kind, .string lang, .slice (some ⟨b', o', none⟩) xn c'], .agg #[.int .i64 id, .int .i64 ver, .int .i64 kind, .string lang, .slice xa xn xc]] wx fun e w' => e = .returned (.bool true) ∧ Below wx.heap.size wx w') := Lib.hid (by
              have hx2 := HX.out wx (HXY.out.bt b1)
              unfold RcdAt at hx2
              simp only at hx2
              rw [← HXN.out] at hx2
              exact pSameRec ⟨id, ver, kind, lang, xf⟩ ⟨id, ver, kind, lang, xf⟩ _ _ xn c' xn xc wx (HAR.out.below b1 (Nat.le_refl _)) hx2 rfl rfl rfl rfl rfl HSX.out)
            have HS2 : Hid (∀ W, Below wx.heap.size wx W → Calls Tryd.prog 22 #[.agg #[.int .i64 id2, .int .i64 ver2, .int .i64 kind2, .string lang2, .slice ya yn yc], .agg #[.int .i64 id2, .int .i64 ver2, .int .i64 kind2, .string lang2, .slice ya yn yc]] W fun e w' => e = .returned (.bool true) ∧ Below W.heap.size W w') := Lib.hid (fun W h => by
              have hy2 := HY.out W ((HXY.out.bt b1).bt h)
              unfold RcdAt at hy2
              simp only at hy2
              rw [← HYN.out] at hy2
              exact pSameRec ⟨id2, ver2, kind2, lang2, yf⟩ ⟨id2, ver2, kind2, lang2, yf⟩ _ _ yn yc yn yc W hy2 hy2 rfl rfl rfl rfl rfl HSY.out)
            have z9 := HD9.out wx (Below.refl _ _)
            have z0 := HD0.out wx (Below.refl _ _)
            have r0 := Lib.cell_of_heap z9 0
            have r1 := Lib.cell_of_heap z9 1
            have r2 := Lib.cell_of_heap z9 2
            have r3 := Lib.cell_of_heap z9 3
            have r4 := Lib.cell_of_heap z9 4
            have s0 := Lib.cell_of_heap z0 0
            have s1 := Lib.cell_of_heap z0 1
            have s2 := Lib.cell_of_heap z0 2
            have s3 := Lib.cell_of_heap z0 3
            have s4 := Lib.cell_of_heap z0 4
            clear b1 z9 z0 HY9 HY10 HY0 HXY HAR
            go_wp2_with fail
            refine HS1.out.mono ?_
            rintro e wu ⟨rfl, b2⟩
            have z10 := HD10.out wu b2
            have z0 := HD0.out wu b2
            have HBU := Lib.hid b2
            have HXU := Lib.hid (HXX.out.bt b2)
            clear r0 r1 r2 r3 r4 s0 s1 s2 s3 s4 b2
            have r0 := Lib.cell_of_heap z10 0
            have r1 := Lib.cell_of_heap z10 1
            have r2 := Lib.cell_of_heap z10 2
            have r3 := Lib.cell_of_heap z10 3
            have r4 := Lib.cell_of_heap z10 4
            have s5 := Lib.cell_of_heap z0 5
            have s6 := Lib.cell_of_heap z0 6
            have s7 := Lib.cell_of_heap z0 7
            have s8 := Lib.cell_of_heap z0 8
            have s9 := Lib.cell_of_heap z0 9
            clear z10 z0
            go_wp2_with fail
            refine (HS2.out wu HBU.out).mono ?_
            rintro e wt ⟨rfl, b3⟩
            have HXT := Lib.hid (HXU.out.bt b3)
            clear b3 r0 r1 r2 r3 r4 s5 s6 s7 s8 s9
            go_wp2
            go_ret
            exact ⟨rfl, HXT.out⟩
      · have hz : (err != 0) = true := by simpa using he
        obtain ⟨rfl, rfl⟩ := HBD.out he
        have HB4 := Lib.hid ((HB5.out.bt b4).bt ((Below.refl _ _).alloc2 (Nat.le_refl _) (.cells #[.int .i64 0, .int .i64 0, .int .i64 0, .string ⟨#[]⟩, .slice a 0 c] 31) (.cells #[.int .i64 0, .int .i64 0, .int .i64 0, .int .i64 0, .string ⟨#[]⟩, .slice none 0 0, .slice ta 0 tc] 36)))
        have HN3 : Hid (((w4.alloc (.cells #[.int .i64 0, .int .i64 0, .int .i64 0, .string ⟨#[]⟩, .slice a 0 c] 31)).alloc (.cells #[.int .i64 0, .int .i64 0, .int .i64 0, .int .i64 0, .string ⟨#[]⟩, .slice none 0 0, .slice ta 0 tc] 36)).heap[w4.heap.size]? = some (.cells #[.int .i64 0, .int .i64 0, .int .i64 0, .string ⟨#[]⟩, .slice a 0 c] 31 (0, 0))) := Lib.hid ((alloc_old (by simp)).trans (alloc_at rfl))
        have HN4 : Hid (((w4.alloc (.cells #[.int .i64 0, .int .i64 0, .int .i64 0, .string ⟨#[]⟩, .slice a 0 c] 31)).alloc (.cells #[.int .i64 0, .int .i64 0, .int .i64 0, .int .i64 0, .string ⟨#[]⟩, .slice none 0 0, .slice ta 0 tc] 36)).heap[w4.heap.size + 1]? = some (.cells #[.int .i64 0, .int .i64 0, .int .i64 0, .int .i64 0, .string ⟨#[]⟩, .slice none 0 0, .slice ta 0 tc] 36 (0, 0))) := Lib.hid (alloc_at (by simp))
        unfold recV5 partV rec0 part0 rcd0 rec0
        simp only [List.length_nil]
        clear he r1 r3 b4 c0 c1 c2 c3 c4 c5 c6 c7 c8 c9 c10 HTP HLF2 HBD HPM HP5 HN5 HB5 HX HY XC YC HXN HYN
        go_upto_region 5 with fail
        generalize w4.heap.size + 1 = n4 at HN4 ⊢
        generalize w4.heap.size = n3 at HN3 ⊢
        generalize ((w4.alloc (.cells #[.int .i64 0, .int .i64 0, .int .i64 0, .string ⟨#[]⟩, .slice a 0 c] 31)).alloc (.cells #[.int .i64 0, .int .i64 0, .int .i64 0, .int .i64 0, .string ⟨#[]⟩, .slice none 0 0, .slice ta 0 tc] 36)) = w6 at HN3 HN4 HB4 ⊢
        go_wp2_with fail
        refine (HAL.out _ HB4.out).mono ?_
        rintro e w7 ⟨rfl, b5⟩
        have HB7 := Lib.hid (HB4.out.bt b5)
        have z3 := (b5.block _ (Array.getElem?_eq_some_iff.1 HN3.out).1).trans HN3.out
        have z4 := (b5.block _ (Array.getElem?_eq_some_iff.1 HN4.out).1).trans HN4.out
        have r4 := Lib.cell_of_heap z3 4
        have p6 := Lib.cell_of_heap z4 6
        clear b5 z3 z4
        go_wp2
        go_ret
        exact ⟨rfl, HB7.out⟩
end Go.Proofs.YtcdlgmncalmihaaDoor
