/- The walk of the program's To (layer 18). -/
import Derived.Test.YtimecccphbgdeaaDoorMtp
import Derived.Test.YtimecccphbgdeaaDoorMpv
import Derived.Test.YtimecccphbgdeaaDoorMpd
namespace Go.Proofs.YtimecccphbgdeaaDoor
open Go Go.RowKit

theorem five_res {w : World} {b : Nat} {id ver kind : Int} {lang : ByteArray} {s : Value} (h : ResAt w b id ver kind lang s) : Five w (b + 1) 0 0 0 ⟨#[]⟩ (.slice none 0 0) := by
  refine ⟨?_, ?_, ?_, ?_, ?_⟩ <;> (rw [Lib.cell_of_heap h.res]; rfl)
theorem five_below {w w' : World} {g : Nat} {id ver kind : Int} {lang : ByteArray} {s : Value} (h : Five w g id ver kind lang s) {B : Nat} (hb : Below B w w') (hB : g < B) : Five w' g id ver kind lang s :=
  ⟨(hb.cell (p := ⟨g, 0, none⟩) hB).trans h.c0, (hb.cell (p := ⟨g, 1, none⟩) hB).trans h.c1, (hb.cell (p := ⟨g, 2, none⟩) hB).trans h.c2, (hb.cell (p := ⟨g, 3, none⟩) hB).trans h.c3, (hb.cell (p := ⟨g, 4, none⟩) hB).trans h.c4⟩

set_option maxRecDepth 100000 in
set_option maxHeartbeats 8000000 in
theorem pTo (r : Rec) (a : Option Addr) (n0 c : Nat) (v : Int) (w : World) (hE : Env w) (hv : Flds w (.slice a n0 c) r.fields) (hs : r.small) :
    Calls Tryd.prog 18 #[.agg #[.int .i64 r.id, .int .i64 r.ver, .int .i64 r.kind, .string r.lang, .slice a n0 c], .int .i64 v] w (RetRec w (toP r v)) := by
  have hb0 : Below w.heap.size w (resW w r.id r.ver r.kind r.lang a n0 c) := ((Below.refl _ _).alloc (Nat.le_refl _) _).alloc (by simp) _
  have HB0 := Lib.hid hb0
  have HRES : Hid (∀ W, Below (resW w r.id r.ver r.kind r.lang a n0 c).heap.size (resW w r.id r.ver r.kind r.lang a n0 c) W → ResAt W w.heap.size r.id r.ver r.kind r.lang (.slice a n0 c)) := Lib.hid (fun W h => resAt_of h)
  by_cases g1 : v < 1
  · have hu : toP r v = (rec0, 20) := by unfold toP; rw [if_pos (.inl g1)]
    rw [hu]
    obtain ⟨id, ver, kind, lang, l⟩ := r
    simp only at HB0 HRES ⊢
    have hra0 := HRES.out _ (Below.refl _ _)
    clear hu hv hs hE hb0
    go_enter Tryd.func18, Tryd.ntmps18
    go_wp2
    (try simp only [Exit.inBlock, Exit.then])
    exact bodyPost_ret (results_rec rfl _ _ (w.heap.size + 1) 0 0 0 ⟨#[]⟩ (.slice none 0 0) rfl (five_res hra0)) rfl ⟨_, rfl, recV_zero _, HB0.out⟩
  by_cases g2 : 3 < v
  · have hu : toP r v = (rec0, 20) := by unfold toP; rw [if_pos (.inr g2)]
    rw [hu]
    obtain ⟨id, ver, kind, lang, l⟩ := r
    simp only at HB0 HRES ⊢
    have g1' : 1 ≤ v := by omega
    have HLT : Hid (∀ W, Calls Tryd.prog 27 #[] W fun e w' => e = .returned (.int .i64 3) ∧ Dr W w') := Lib.hid latest_ret
    clear hu hv hs hE hb0 g1
    go_enter Tryd.func18, Tryd.ntmps18
    go_wp2_with fail
    refine (HLT.out _).mono ?_
    rintro e w1 ⟨rfl, d1⟩
    have hb1 := d1.below (resW w id ver kind lang a n0 c).heap.size
    have HW1 := Lib.hid (HB0.out.trans (d1.below _))
    have hra := HRES.out w1 hb1
    have HRA := Lib.hid hra
    obtain ⟨q0, q1, q2, q3, q4⟩ := hra.five
    have f0 := Lib.frozen_of_heap hra.par 0
    have f1 := Lib.frozen_of_heap hra.par 1
    have f4 := Lib.frozen_of_heap hra.par 4
    have g0 := Lib.frozen_of_heap hra.res 0
    have g1 := Lib.frozen_of_heap hra.res 1
    have g2 := Lib.frozen_of_heap hra.res 2
    have g3 := Lib.frozen_of_heap hra.res 3
    have g4 := Lib.frozen_of_heap hra.res 4
    have c0 := Lib.cell_of_heap hra.res 0
    have c1 := Lib.cell_of_heap hra.res 1
    have c2 := Lib.cell_of_heap hra.res 2
    have c3 := Lib.cell_of_heap hra.res 3
    have c4 := Lib.cell_of_heap hra.res 4
    clear hra
    clear d1 hb1
    go_wp2
    (try simp only [Exit.inBlock, Exit.then])
    have S5 := five_put (id := 0) (ver := 0) (kind := 0) (lang := ⟨#[]⟩) (s := .slice none 0 0) HRA.out.some
    have B5 : Below w.heap.size w (put5 w1 (w.heap.size + 1) 0 0 0 ⟨#[]⟩ (.slice none 0 0)) := below_put5 HW1.out (Nat.le_succ _)
    change bodyPost _ _ _ _ _ (put5 w1 (w.heap.size + 1) 0 0 0 ⟨#[]⟩ (.slice none 0 0))
    generalize put5 w1 (w.heap.size + 1) 0 0 0 ⟨#[]⟩ (.slice none 0 0) = w9 at S5 B5 ⊢
    exact bodyPost_ret (results_rec rfl _ w9 (w.heap.size + 1) 0 0 0 ⟨#[]⟩ (.slice none 0 0) rfl S5) rfl ⟨_, rfl, recV_zero w9, B5⟩
  have g1' : 1 ≤ v := by omega
  have g2' : v ≤ 3 := by omega
  have HE : Hid (∀ W, Below w.heap.size w W → Env W) := Lib.hid (fun W h => hE.below h)
  have HLT : Hid (∀ W, Calls Tryd.prog 27 #[] W fun e w' => e = .returned (.int .i64 3) ∧ Dr W w') := Lib.hid latest_ret
  have HV : Hid (∀ W, Below w.heap.size w W → Flds W (.slice a n0 c) r.fields) := Lib.hid (fun W h => hv.below h (Nat.le_refl _))
  have HS := Lib.hid hs
  have HRR : Hid (∀ W, Below w.heap.size w W → Calls Tryd.prog 11 #[.agg #[.int .i64 r.id, .int .i64 r.ver, .int .i64 r.kind, .string r.lang, .slice a n0 c]] W fun e w' => e = .returned (.bool (rightM r)) ∧ Below W.heap.size W w') := Lib.hid (fun W h => pMRight r a n0 c W (hE.below h) (hv.below h (Nat.le_refl _)) hs)
  have ht : toP r v = if rightM r = false then (rec0, 12) else toN 3 r v := by unfold toP; rw [if_neg (by omega)]
  obtain ⟨R, hR⟩ : ∃ R, R = toP r v := ⟨_, rfl⟩
  rw [← hR] at ht ⊢
  have HT := Lib.hid ht
  clear hb0 ht hR hv hs hE g1 g2
  cases hM : rightM r with
  | false =>
    have HXE : Hid (R = (rec0, 12)) := Lib.hid (by rw [HT.out, hM]; rfl)
    rw [hM] at HRR
    clear hM
    go_enter Tryd.func18, Tryd.ntmps18
    go_wp2_with fail
    refine (HLT.out _).mono ?_
    rintro e w0 ⟨rfl, d0⟩
    have hb1 := d0.below (resW w r.id r.ver r.kind r.lang a n0 c).heap.size
    have HW0 := Lib.hid (HB0.out.trans (d0.below _))
    have HB1 := Lib.hid hb1
    have hra := HRES.out w0 hb1
    have HRA := Lib.hid hra
    obtain ⟨q0, q1, q2, q3, q4⟩ := hra.five
    have f0 := Lib.frozen_of_heap hra.par 0
    have f1 := Lib.frozen_of_heap hra.par 1
    have f4 := Lib.frozen_of_heap hra.par 4
    have g0 := Lib.frozen_of_heap hra.res 0
    have g1 := Lib.frozen_of_heap hra.res 1
    have g2 := Lib.frozen_of_heap hra.res 2
    have g3 := Lib.frozen_of_heap hra.res 3
    have g4 := Lib.frozen_of_heap hra.res 4
    have c0 := Lib.cell_of_heap hra.res 0
    have c1 := Lib.cell_of_heap hra.res 1
    have c2 := Lib.cell_of_heap hra.res 2
    have c3 := Lib.cell_of_heap hra.res 3
    have c4 := Lib.cell_of_heap hra.res 4
    clear hra
    clear d0 hb1
    go_wp2_with fail
    refine (HRR.out _ HW0.out).mono ?_
    rintro e w1 ⟨rfl, b1⟩
    have hbb := Below.trans HB1.out (b1.mono HB1.out.size)
    have HW1 := Lib.hid (HB0.out.bt hbb)
    clear q0 q1 q2 q3 q4 f0 f1 f4 g0 g1 g2 g3 g4 c0 c1 c2 c3 c4 HRA
    have hra := HRES.out w1 hbb
    have HRA := Lib.hid hra
    obtain ⟨q0, q1, q2, q3, q4⟩ := hra.five
    have f0 := Lib.frozen_of_heap hra.par 0
    have f1 := Lib.frozen_of_heap hra.par 1
    have f4 := Lib.frozen_of_heap hra.par 4
    have g0 := Lib.frozen_of_heap hra.res 0
    have g1 := Lib.frozen_of_heap hra.res 1
    have g2 := Lib.frozen_of_heap hra.res 2
    have g3 := Lib.frozen_of_heap hra.res 3
    have g4 := Lib.frozen_of_heap hra.res 4
    have c0 := Lib.cell_of_heap hra.res 0
    have c1 := Lib.cell_of_heap hra.res 1
    have c2 := Lib.cell_of_heap hra.res 2
    have c3 := Lib.cell_of_heap hra.res 3
    have c4 := Lib.cell_of_heap hra.res 4
    clear hra
    clear b1 hbb
    go_wp2
    (try simp only [Exit.inBlock, Exit.then])
    have S5 := five_put (id := 0) (ver := 0) (kind := 0) (lang := ⟨#[]⟩) (s := .slice none 0 0) HRA.out.some
    have B5 : Below w.heap.size w (put5 w1 (w.heap.size + 1) 0 0 0 ⟨#[]⟩ (.slice none 0 0)) := below_put5 HW1.out (Nat.le_succ _)
    change bodyPost _ _ _ _ _ (put5 w1 (w.heap.size + 1) 0 0 0 ⟨#[]⟩ (.slice none 0 0))
    generalize put5 w1 (w.heap.size + 1) 0 0 0 ⟨#[]⟩ (.slice none 0 0) = w9 at S5 B5 ⊢
    rw [HXE.out]
    exact bodyPost_ret (results_rec rfl _ w9 (w.heap.size + 1) 0 0 0 ⟨#[]⟩ (.slice none 0 0) rfl S5) rfl ⟨_, rfl, recV_zero w9, B5⟩
  | true =>
    have hvr := rightM_ver hM
    have HXE : Hid (R = toN 3 r v) := Lib.hid (by rw [HT.out, hM]; rfl)
    rw [hM] at HRR
    clear hM HT
    go_enter Tryd.func18, Tryd.ntmps18
    go_wp2_with fail
    refine (HLT.out _).mono ?_
    rintro e w0 ⟨rfl, d0⟩
    have hb1 := d0.below (resW w r.id r.ver r.kind r.lang a n0 c).heap.size
    have HW0 := Lib.hid (HB0.out.trans (d0.below _))
    have HB1 := Lib.hid hb1
    have hra := HRES.out w0 hb1
    have HRA := Lib.hid hra
    obtain ⟨q0, q1, q2, q3, q4⟩ := hra.five
    have f0 := Lib.frozen_of_heap hra.par 0
    have f1 := Lib.frozen_of_heap hra.par 1
    have f4 := Lib.frozen_of_heap hra.par 4
    have g0 := Lib.frozen_of_heap hra.res 0
    have g1 := Lib.frozen_of_heap hra.res 1
    have g2 := Lib.frozen_of_heap hra.res 2
    have g3 := Lib.frozen_of_heap hra.res 3
    have g4 := Lib.frozen_of_heap hra.res 4
    have c0 := Lib.cell_of_heap hra.res 0
    have c1 := Lib.cell_of_heap hra.res 1
    have c2 := Lib.cell_of_heap hra.res 2
    have c3 := Lib.cell_of_heap hra.res 3
    have c4 := Lib.cell_of_heap hra.res 4
    clear hra
    clear d0 hb1
    go_wp2_with fail
    refine (HRR.out _ HW0.out).mono ?_
    rintro e w1 ⟨rfl, b1⟩
    have hbb := Below.trans HB1.out (b1.mono HB1.out.size)
    have HW1 := Lib.hid (HB0.out.bt hbb)
    clear q0 q1 q2 q3 q4 f0 f1 f4 g0 g1 g2 g3 g4 c0 c1 c2 c3 c4 HRA
    have hra := HRES.out w1 hbb
    have HRA := Lib.hid hra
    obtain ⟨q0, q1, q2, q3, q4⟩ := hra.five
    have f0 := Lib.frozen_of_heap hra.par 0
    have f1 := Lib.frozen_of_heap hra.par 1
    have f4 := Lib.frozen_of_heap hra.par 4
    have g0 := Lib.frozen_of_heap hra.res 0
    have g1 := Lib.frozen_of_heap hra.res 1
    have g2 := Lib.frozen_of_heap hra.res 2
    have g3 := Lib.frozen_of_heap hra.res 3
    have g4 := Lib.frozen_of_heap hra.res 4
    have c0 := Lib.cell_of_heap hra.res 0
    have c1 := Lib.cell_of_heap hra.res 1
    have c2 := Lib.cell_of_heap hra.res 2
    have c3 := Lib.cell_of_heap hra.res 3
    have c4 := Lib.cell_of_heap hra.res 4
    clear hra
    clear b1 hbb
    have HAT := Lib.hid HRA.out
    clear HRA
    go_wp2
    go_loopw [] (fun wr => ∃ (m : Nat) (t : Rec) (ta : Option Addr) (tn tc : Nat), 1 ≤ t.ver ∧ t.ver ≤ 3 ∧ (t.ver - v).natAbs ≤ m ∧ Hid (R = toN m t v) ∧ Hid t.small ∧ Hid (ResAt wr w.heap.size t.id t.ver t.kind t.lang (.slice ta tn tc)) ∧ Hid (Flds wr (.slice ta tn tc) t.fields) ∧ Hid (Below w.heap.size w wr)) (fun wr => (intAt wr ⟨w.heap.size, 1, none⟩ - v).natAbs)
    case atStart => exact ⟨3, r, a, n0, c, hvr.1, hvr.2, by omega, HXE, HS, HAT, Lib.hid (HV.out _ HW1.out), HW1⟩
    case round =>
      obtain ⟨m, t, ta, tn, tc, hv1, hv2, hm, HR, HSM, HRA, HF, HBW⟩ := hrel
      clear q0 q1 q2 q3 q4 f0 f1 f4 g0 g1 g2 g3 g4 c0 c1 c2 c3 c4
      obtain ⟨q0, q1, q2, q3, q4⟩ := HRA.out.five
      have hra := HRA.out
      have f0 := Lib.frozen_of_heap hra.par 0
      have f1 := Lib.frozen_of_heap hra.par 1
      have f4 := Lib.frozen_of_heap hra.par 4
      have g0 := Lib.frozen_of_heap hra.res 0
      have g1 := Lib.frozen_of_heap hra.res 1
      have g2 := Lib.frozen_of_heap hra.res 2
      have g3 := Lib.frozen_of_heap hra.res 3
      have g4 := Lib.frozen_of_heap hra.res 4
      have c0 := Lib.cell_of_heap hra.res 0
      have c1 := Lib.cell_of_heap hra.res 1
      have c2 := Lib.cell_of_heap hra.res 2
      have c3 := Lib.cell_of_heap hra.res 3
      have c4 := Lib.cell_of_heap hra.res 4
      have hlt : w.heap.size + 1 < wr.heap.size := (Array.getElem?_eq_some_iff.1 hra.res).1
      have hmeas := intAt_of q1
      clear hra
      by_cases he : t.ver = v
      · have HX := Lib.hid (show R = (t, 0) by rw [HR.out, toN_end he])
        have hez : (t.ver == v) = true := by simpa using he
        have hezn : (t.ver != v) = false := by rw [bne, hez]; rfl
        clear HR hm hmeas
        obtain ⟨id, ver, kind, lang, l⟩ := t
        simp only at q0 q1 q2 q3 q4 HX HRA HF hez hezn he hv1 hv2 HSM
        subst he
        clear hez
        go_wp2
        (try simp only [Exit.inBlock, Exit.then])
        have S5 := five_put (id := id) (ver := ver) (kind := kind) (lang := lang) (s := .slice ta tn tc) HRA.out.some
        have B5 : Below w.heap.size w (put5 wr (w.heap.size + 1) id ver kind lang (.slice ta tn tc)) := below_put5 HBW.out (Nat.le_succ _)
        have F5 : Flds (put5 wr (w.heap.size + 1) id ver kind lang (.slice ta tn tc)) (.slice ta tn tc) l := HF.out.away HRA.out.res (Nat.le_of_eq put5_size.symm) (fun b hb => put5_other hb)
        change bodyPost _ _ _ _ _ (put5 wr (w.heap.size + 1) id ver kind lang (.slice ta tn tc))
        generalize put5 wr (w.heap.size + 1) id ver kind lang (.slice ta tn tc) = w9 at S5 B5 F5 ⊢
        rw [HX.out]
        exact bodyPost_ret (results_rec rfl _ w9 (w.heap.size + 1) id ver kind lang (.slice ta tn tc) rfl S5) rfl ⟨_, rfl, ⟨ta, tn, tc, rfl, F5⟩, B5⟩
      · have hez : (t.ver == v) = false := by simpa using he
        have hezn : (t.ver != v) = true := by rw [bne, hez]; rfl
        obtain ⟨m', rfl, hst⟩ := toN_step he hm
        rw [← HR.out] at hst
        have HST := Lib.hid hst
        clear hst HR
        by_cases hg : v < t.ver
        · have HC := Lib.hid (pDown t ta tn tc wr (HE.out _ HBW.out) HF.out HSM.out)
          have hsm := downP_small HSM.out
          have hvv : (downP t).2 = 0 → (downP t).1.ver = t.ver - 1 ∧ 1 ≤ (downP t).1.ver ∧ (downP t).1.ver ≤ 3 := fun h => by
            obtain ⟨h1, h2, d, -, e⟩ := downP_ok h
            have := rightM_ver h1
            rw [e]
            exact ⟨rfl, by show 1 ≤ t.ver - 1; omega, by show t.ver - 1 ≤ 3; omega⟩
          have hst := HST.out
          rw [if_pos hg] at hst
          obtain ⟨p, hp⟩ : ∃ p, p = downP t := ⟨_, rfl⟩
          rw [← hp] at hst hsm hvv HC
          have HVV := Lib.hid hvv
          have HSP := Lib.hid hsm
          clear hsm hp hvv HST
          obtain ⟨id, ver, kind, lang, l⟩ := t
          simp only at q0 q1 q2 q3 q4 HRA HF hez hezn he hv1 hv2 hm hmeas HVV HC hg HSM
          go_wp2_with fail
          refine HC.out.mono ?_
          rintro e w2 ⟨xv, rfl, hrv, b2⟩
          obtain ⟨xa, xn, xc, rfl, hxf⟩ := hrv
          have HB2 := Lib.hid (HBW.out.bt b2)
          have HA2 : Hid (ResAt w2 w.heap.size id ver kind lang (.slice ta tn tc)) := Lib.hid (HRA.out.below b2 hlt)
          have HXF := Lib.hid hxf
          have hlt2 : w.heap.size + 1 < w2.heap.size := Nat.lt_of_lt_of_le hlt b2.size
          clear hxf b2 q0 q1 q2 q3 q4 f0 f1 f4 g0 g1 g2 g3 g4 c0 c1 c2 c3 c4 HRA
          obtain ⟨xr, xe⟩ := p
          obtain ⟨xid, xver, xkind, xlang, xl⟩ := xr
          simp only at HVV HXF HSP hst ⊢
          by_cases hx : xe = 0
          · have hxz : (xe == 0) = true := by simpa using hx
            have hxn : (xe != 0) = false := by rw [bne, hxz]; rfl
            rw [if_neg (by simpa using hx)] at hst
            have HST := Lib.hid hst
            have HV3 := Lib.hid (HVV.out hx)
            subst hx
            clear hst HVV hxz
            have hra := HA2.out
            obtain ⟨q0, q1, q2, q3, q4⟩ := hra.five
            have f0 := Lib.frozen_of_heap hra.par 0
            have f1 := Lib.frozen_of_heap hra.par 1
            have f2 := Lib.frozen_of_heap hra.par 2
            have f3 := Lib.frozen_of_heap hra.par 3
            have f4 := Lib.frozen_of_heap hra.par 4
            clear hra
            have hlt3 : w.heap.size < w2.heap.size := Nat.lt_of_succ_lt hlt2
            go_wp2
            have HF5 := Lib.hid ((HXF.out.away (g := w.heap.size) (w' := put5 w2 w.heap.size xid xver xkind xlang (.slice xa xn xc)) HA2.out.par (Nat.le_of_eq put5_size.symm) (fun b hb => put5_other hb)).below (Below.alloc (Below.refl (put5 w2 w.heap.size xid xver xkind xlang (.slice xa xn xc)).heap.size _) (Nat.le_refl _) (.cells #[.int .i64 xid, .int .i64 xver, .int .i64 xkind, .string xlang, .slice xa xn xc] 24)) (Nat.le_refl _))
            have HB5 := Lib.hid ((below_put5 (g := w.heap.size) (id := xid) (ver := xver) (kind := xkind) (lang := xlang) (s := .slice xa xn xc) HB2.out (Nat.le_refl _)).alloc (by rw [put5_size]; exact HB2.out.size) (.cells #[.int .i64 xid, .int .i64 xver, .int .i64 xkind, .string xlang, .slice xa xn xc] 24))
            have HA5 := Lib.hid ((HA2.out.put (id' := xid) (ver' := xver) (kind' := xkind) (lang' := xlang) (s' := .slice xa xn xc)).below (Below.alloc (Below.refl (put5 w2 w.heap.size xid xver xkind xlang (.slice xa xn xc)).heap.size _) (Nat.le_refl _) (.cells #[.int .i64 xid, .int .i64 xver, .int .i64 xkind, .string xlang, .slice xa xn xc] 24)) (by rw [put5_size]; exact hlt2))
            have hm5 := intAt_of HA5.out.five.c1
            go_roundw
            case rel => exact ⟨m', ⟨xid, xver, xkind, xlang, xl⟩, xa, xn, xc, HV3.out.2.1, HV3.out.2.2, by have h9 := HV3.out.1; (try simp only at h9 ⊢); omega, HST, HSP, HA5, HF5, HB5⟩
            case measure =>
              have h9 := HV3.out.1
              (try simp only at h9)
              rw [hmeas]
              show (intAt ((put5 w2 w.heap.size xid xver xkind xlang (.slice xa xn xc)).alloc (.cells #[.int .i64 xid, .int .i64 xver, .int .i64 xkind, .string xlang, .slice xa xn xc] 24)) ⟨w.heap.size, 1, none⟩ - v).natAbs < _
              rw [hm5]
              omega
          · have hxz : (xe == 0) = false := by simpa using hx
            have hxn : (xe != 0) = true := by rw [bne, hxz]; rfl
            rw [if_pos (by simpa using hx)] at hst
            have HXE := Lib.hid hst
            clear hst HVV hx
            have hra := HA2.out
            obtain ⟨q0, q1, q2, q3, q4⟩ := hra.five
            have f0 := Lib.frozen_of_heap hra.par 0
            have f1 := Lib.frozen_of_heap hra.par 1
            have f2 := Lib.frozen_of_heap hra.par 2
            have f3 := Lib.frozen_of_heap hra.par 3
            have f4 := Lib.frozen_of_heap hra.par 4
            have g0 := Lib.frozen_of_heap hra.res 0
            have g1 := Lib.frozen_of_heap hra.res 1
            have g2 := Lib.frozen_of_heap hra.res 2
            have g3 := Lib.frozen_of_heap hra.res 3
            have g4 := Lib.frozen_of_heap hra.res 4
            have c0 := Lib.cell_of_heap hra.res 0
            have c1 := Lib.cell_of_heap hra.res 1
            have c2 := Lib.cell_of_heap hra.res 2
            have c3 := Lib.cell_of_heap hra.res 3
            have c4 := Lib.cell_of_heap hra.res 4
            clear hra
            have hlt3 : w.heap.size < w2.heap.size := Nat.lt_of_succ_lt hlt2
            go_wp2
            (try simp only [Exit.inBlock, Exit.then])
            have S5 := five_below (five_put (id := 0) (ver := 0) (kind := 0) (lang := ⟨#[]⟩) (s := .slice none 0 0) HA2.out.some) (Below.alloc (Below.refl (put5 w2 (w.heap.size + 1) 0 0 0 ⟨#[]⟩ (.slice none 0 0)).heap.size _) (Nat.le_refl _) (.cells #[.int .i64 xid, .int .i64 xver, .int .i64 xkind, .string xlang, .slice xa xn xc] 24)) (by rw [put5_size]; exact hlt2)
            have B5 := (below_put5 (g := w.heap.size + 1) (id := 0) (ver := 0) (kind := 0) (lang := ⟨#[]⟩) (s := .slice none 0 0) HB2.out (Nat.le_succ _)).alloc (by rw [put5_size]; exact HB2.out.size) (.cells #[.int .i64 xid, .int .i64 xver, .int .i64 xkind, .string xlang, .slice xa xn xc] 24)
            change bodyPost _ _ _ _ _ ((put5 w2 (w.heap.size + 1) 0 0 0 ⟨#[]⟩ (.slice none 0 0)).alloc (.cells #[.int .i64 xid, .int .i64 xver, .int .i64 xkind, .string xlang, .slice xa xn xc] 24))
            generalize (put5 w2 (w.heap.size + 1) 0 0 0 ⟨#[]⟩ (.slice none 0 0)).alloc (.cells #[.int .i64 xid, .int .i64 xver, .int .i64 xkind, .string xlang, .slice xa xn xc] 24) = w9 at S5 B5 ⊢
            rw [HXE.out]
            exact bodyPost_ret (results_rec rfl _ w9 (w.heap.size + 1) 0 0 0 ⟨#[]⟩ (.slice none 0 0) rfl S5) rfl ⟨_, rfl, recV_zero w9, B5⟩
        · have hg' : t.ver < v := by omega
          have HC := Lib.hid (pUp t ta tn tc wr (HE.out _ HBW.out) HF.out HSM.out)
          have hsm := upP_small HSM.out
          have hvv : (upP t).2 = 0 → (upP t).1.ver = t.ver + 1 ∧ 1 ≤ (upP t).1.ver ∧ (upP t).1.ver ≤ 3 := fun h => by
            obtain ⟨h1, h2, e, -⟩ := upP_ok h
            have := rightM_ver h1
            rw [e]
            exact ⟨rfl, by show 1 ≤ t.ver + 1; omega, by show t.ver + 1 ≤ 3; omega⟩
          have hst := HST.out
          rw [if_neg hg] at hst
          obtain ⟨p, hp⟩ : ∃ p, p = upP t := ⟨_, rfl⟩
          rw [← hp] at hst hsm hvv HC
          have HVV := Lib.hid hvv
          have HSP := Lib.hid hsm
          clear hsm hp hvv HST
          obtain ⟨id, ver, kind, lang, l⟩ := t
          simp only at q0 q1 q2 q3 q4 HRA HF hez hezn he hv1 hv2 hm hmeas HVV HC hg hg' HSM
          clear hg
          go_wp2_with fail
          refine HC.out.mono ?_
          rintro e w2 ⟨xv, rfl, hrv, b2⟩
          obtain ⟨xa, xn, xc, rfl, hxf⟩ := hrv
          have HB2 := Lib.hid (HBW.out.bt b2)
          have HA2 : Hid (ResAt w2 w.heap.size id ver kind lang (.slice ta tn tc)) := Lib.hid (HRA.out.below b2 hlt)
          have HXF := Lib.hid hxf
          have hlt2 : w.heap.size + 1 < w2.heap.size := Nat.lt_of_lt_of_le hlt b2.size
          clear hxf b2 q0 q1 q2 q3 q4 f0 f1 f4 g0 g1 g2 g3 g4 c0 c1 c2 c3 c4 HRA
          obtain ⟨xr, xe⟩ := p
          obtain ⟨xid, xver, xkind, xlang, xl⟩ := xr
          simp only at HVV HXF HSP hst ⊢
          by_cases hx : xe = 0
          · have hxz : (xe == 0) = true := by simpa using hx
            have hxn : (xe != 0) = false := by rw [bne, hxz]; rfl
            rw [if_neg (by simpa using hx)] at hst
            have HST := Lib.hid hst
            have HV3 := Lib.hid (HVV.out hx)
            subst hx
            clear hst HVV hxz
            have hra := HA2.out
            obtain ⟨q0, q1, q2, q3, q4⟩ := hra.five
            have f0 := Lib.frozen_of_heap hra.par 0
            have f1 := Lib.frozen_of_heap hra.par 1
            have f2 := Lib.frozen_of_heap hra.par 2
            have f3 := Lib.frozen_of_heap hra.par 3
            have f4 := Lib.frozen_of_heap hra.par 4
            clear hra
            have hlt3 : w.heap.size < w2.heap.size := Nat.lt_of_succ_lt hlt2
            go_wp2
            have HF5 := Lib.hid ((HXF.out.away (g := w.heap.size) (w' := put5 w2 w.heap.size xid xver xkind xlang (.slice xa xn xc)) HA2.out.par (Nat.le_of_eq put5_size.symm) (fun b hb => put5_other hb)).below (Below.alloc (Below.refl (put5 w2 w.heap.size xid xver xkind xlang (.slice xa xn xc)).heap.size _) (Nat.le_refl _) (.cells #[.int .i64 xid, .int .i64 xver, .int .i64 xkind, .string xlang, .slice xa xn xc] 24)) (Nat.le_refl _))
            have HB5 := Lib.hid ((below_put5 (g := w.heap.size) (id := xid) (ver := xver) (kind := xkind) (lang := xlang) (s := .slice xa xn xc) HB2.out (Nat.le_refl _)).alloc (by rw [put5_size]; exact HB2.out.size) (.cells #[.int .i64 xid, .int .i64 xver, .int .i64 xkind, .string xlang, .slice xa xn xc] 24))
            have HA5 := Lib.hid ((HA2.out.put (id' := xid) (ver' := xver) (kind' := xkind) (lang' := xlang) (s' := .slice xa xn xc)).below (Below.alloc (Below.refl (put5 w2 w.heap.size xid xver xkind xlang (.slice xa xn xc)).heap.size _) (Nat.le_refl _) (.cells #[.int .i64 xid, .int .i64 xver, .int .i64 xkind, .string xlang, .slice xa xn xc] 24)) (by rw [put5_size]; exact hlt2))
            have hm5 := intAt_of HA5.out.five.c1
            go_roundw
            case rel => exact ⟨m', ⟨xid, xver, xkind, xlang, xl⟩, xa, xn, xc, HV3.out.2.1, HV3.out.2.2, by have h9 := HV3.out.1; (try simp only at h9 ⊢); omega, HST, HSP, HA5, HF5, HB5⟩
            case measure =>
              have h9 := HV3.out.1
              (try simp only at h9)
              rw [hmeas]
              show (intAt ((put5 w2 w.heap.size xid xver xkind xlang (.slice xa xn xc)).alloc (.cells #[.int .i64 xid, .int .i64 xver, .int .i64 xkind, .string xlang, .slice xa xn xc] 24)) ⟨w.heap.size, 1, none⟩ - v).natAbs < _
              rw [hm5]
              omega
          · have hxz : (xe == 0) = false := by simpa using hx
            have hxn : (xe != 0) = true := by rw [bne, hxz]; rfl
            rw [if_pos (by simpa using hx)] at hst
            have HXE := Lib.hid hst
            clear hst HVV hx
            have hra := HA2.out
            obtain ⟨q0, q1, q2, q3, q4⟩ := hra.five
            have f0 := Lib.frozen_of_heap hra.par 0
            have f1 := Lib.frozen_of_heap hra.par 1
            have f2 := Lib.frozen_of_heap hra.par 2
            have f3 := Lib.frozen_of_heap hra.par 3
            have f4 := Lib.frozen_of_heap hra.par 4
            have g0 := Lib.frozen_of_heap hra.res 0
            have g1 := Lib.frozen_of_heap hra.res 1
            have g2 := Lib.frozen_of_heap hra.res 2
            have g3 := Lib.frozen_of_heap hra.res 3
            have g4 := Lib.frozen_of_heap hra.res 4
            have c0 := Lib.cell_of_heap hra.res 0
            have c1 := Lib.cell_of_heap hra.res 1
            have c2 := Lib.cell_of_heap hra.res 2
            have c3 := Lib.cell_of_heap hra.res 3
            have c4 := Lib.cell_of_heap hra.res 4
            clear hra
            have hlt3 : w.heap.size < w2.heap.size := Nat.lt_of_succ_lt hlt2
            go_wp2
            (try simp only [Exit.inBlock, Exit.then])
            have S5 := five_below (five_put (id := 0) (ver := 0) (kind := 0) (lang := ⟨#[]⟩) (s := .slice none 0 0) HA2.out.some) (Below.alloc (Below.refl (put5 w2 (w.heap.size + 1) 0 0 0 ⟨#[]⟩ (.slice none 0 0)).heap.size _) (Nat.le_refl _) (.cells #[.int .i64 xid, .int .i64 xver, .int .i64 xkind, .string xlang, .slice xa xn xc] 24)) (by rw [put5_size]; exact hlt2)
            have B5 := (below_put5 (g := w.heap.size + 1) (id := 0) (ver := 0) (kind := 0) (lang := ⟨#[]⟩) (s := .slice none 0 0) HB2.out (Nat.le_succ _)).alloc (by rw [put5_size]; exact HB2.out.size) (.cells #[.int .i64 xid, .int .i64 xver, .int .i64 xkind, .string xlang, .slice xa xn xc] 24)
            change bodyPost _ _ _ _ _ ((put5 w2 (w.heap.size + 1) 0 0 0 ⟨#[]⟩ (.slice none 0 0)).alloc (.cells #[.int .i64 xid, .int .i64 xver, .int .i64 xkind, .string xlang, .slice xa xn xc] 24))
            generalize (put5 w2 (w.heap.size + 1) 0 0 0 ⟨#[]⟩ (.slice none 0 0)).alloc (.cells #[.int .i64 xid, .int .i64 xver, .int .i64 xkind, .string xlang, .slice xa xn xc] 24) = w9 at S5 B5 ⊢
            rw [HXE.out]
            exact bodyPost_ret (results_rec rfl _ w9 (w.heap.size + 1) 0 0 0 ⟨#[]⟩ (.slice none 0 0) rfl S5) rfl ⟨_, rfl, recV_zero w9, B5⟩
end Go.Proofs.YtimecccphbgdeaaDoor
