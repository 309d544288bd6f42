/- The walk of the program's Up (layer 18). -/
import Derived.Test.YtimecccphbgdeaaDoorMpu
namespace Go.Proofs.YtimecccphbgdeaaDoor
open Go Go.RowKit

theorem latest_ret (w : World) : Calls Tryd.prog 27 #[] w fun e w' => e = .returned (.int .i64 3) ∧ Dr w w' := by
  go_enter Tryd.func27, Tryd.ntmps27
  go_wp2
  go_ret
  exact ⟨rfl, Dr.refl _⟩

set_option maxRecDepth 100000 in
set_option maxHeartbeats 8000000 in
theorem pUp (r : Rec) (a : Option Addr) (n0 c : Nat) (w : World) (hE : Env w) (hv : Flds w (.slice a n0 c) r.fields) (hs : r.small) :
    Calls Tryd.prog 13 #[.agg #[.int .i64 r.id, .int .i64 r.ver, .int .i64 r.kind, .string r.lang, .slice a n0 c]] w (RetRec w (upP r)) := by
  have hb0 : Below w.heap.size w (resW w r.id r.ver r.kind r.lang a n0 c) := ((Below.refl _ _).alloc (Nat.le_refl _) _).alloc (by simp) _
  have hrr := pMRight r a n0 c (resW w r.id r.ver r.kind r.lang a n0 c) (hE.below hb0) (hv.below hb0 (Nat.le_refl _)) hs
  have HFL : Hid (∀ f ∈ r.fields, FldAt w f) := Lib.hid hv.2
  have HV : Hid (∀ W, Below (resW w r.id r.ver r.kind r.lang a n0 c).heap.size (resW w r.id r.ver r.kind r.lang a n0 c) W → Flds W (.slice a n0 c) r.fields) := Lib.hid (fun W h => hv.below (hb0.bt h) (Nat.le_refl _))
  obtain ⟨hn, hn2⟩ := hv.len
  have hss := hs
  obtain ⟨hl, -⟩ := hs
  have HB0 := Lib.hid hb0
  have HRES : Hid (∀ W, Below (resW w r.id r.ver r.kind r.lang a n0 c).heap.size (resW w r.id r.ver r.kind r.lang a n0 c) W → ResAt W w.heap.size r.id r.ver r.kind r.lang (.slice a n0 c)) := Lib.hid (fun W h => resAt_of h)
  clear hb0 hE
  cases hM : rightM r with
  | false =>
    have hu : upP r = (rec0, 12) := by unfold upP; rw [hM, if_pos rfl]
    rw [hu]
    rw [hM] at hrr
    have HRR := Lib.hid hrr
    obtain ⟨id, ver, kind, lang, l⟩ := r
    simp only at HB0 HRES HRR ⊢
    clear hrr hM hu HV HFL hv hss hl hn hn2
    go_enter Tryd.func13, Tryd.ntmps13
    go_wp2_with fail
    refine HRR.out.mono ?_
    rintro e w1 ⟨rfl, b1⟩
    have HB1 := Lib.hid b1
    have HW1 := Lib.hid (HB0.out.bt b1)
    have hra := HRES.out w1 b1
    have HRA := Lib.hid hra
    obtain ⟨q0, q1, q2, q3, q4⟩ := hra.five
    have f0 := Lib.frozen_of_heap hra.par 0
    have f1 := Lib.frozen_of_heap hra.par 1
    have f4 := Lib.frozen_of_heap hra.par 4
    have g0 := Lib.frozen_of_heap hra.res 0
    have g1 := Lib.frozen_of_heap hra.res 1
    have g2 := Lib.frozen_of_heap hra.res 2
    have g3 := Lib.frozen_of_heap hra.res 3
    have g4 := Lib.frozen_of_heap hra.res 4
    have c0 := Lib.cell_of_heap hra.res 0
    have c1 := Lib.cell_of_heap hra.res 1
    have c2 := Lib.cell_of_heap hra.res 2
    have c3 := Lib.cell_of_heap hra.res 3
    have c4 := Lib.cell_of_heap hra.res 4
    clear hra
    clear b1
    go_wp2
    (try simp only [Exit.inBlock, Exit.then])
    have S5 := five_put (id := 0) (ver := 0) (kind := 0) (lang := ⟨#[]⟩) (s := .slice none 0 0) HRA.out.some
    have B5 : Below w.heap.size w (put5 w1 (w.heap.size + 1) 0 0 0 ⟨#[]⟩ (.slice none 0 0)) := below_put5 HW1.out (Nat.le_succ _)
    change bodyPost _ _ _ _ _ (put5 w1 (w.heap.size + 1) 0 0 0 ⟨#[]⟩ (.slice none 0 0))
    generalize put5 w1 (w.heap.size + 1) 0 0 0 ⟨#[]⟩ (.slice none 0 0) = w9 at S5 B5 ⊢
    exact bodyPost_ret (results_rec rfl _ w9 (w.heap.size + 1) 0 0 0 ⟨#[]⟩ (.slice none 0 0) rfl S5) rfl ⟨_, rfl, recV_zero w9, B5⟩
  | true =>
    rw [hM] at hrr
    have HRR := Lib.hid hrr
    have h0 : recErr r = 0 := by
      by_cases h : recErr r = 0
      · exact h
      · rw [rightM_bad h] at hM; cases hM
    obtain ⟨-, hver, -, -, h64, hfe⟩ := recErr_ok h0
    have hind : ∀ f ∈ r.fields, f.ind.length = 2 := fun f hf => (fldsErr_ind hfe f hf).1
    clear hrr h0 hfe hss
    by_cases h3 : r.ver = 3
    · have hu : upP r = (rec0, 20) := by unfold upP; rw [hM, if_neg (by simp), if_pos h3]
      rw [hu]
      obtain ⟨id, ver, kind, lang, l⟩ := r
      simp only at HB0 HRES HRR h3 ⊢
      subst h3
      have HLT := Lib.hid latest_ret
      clear hM hu HV HFL hv hl hn hn2 hind h64 hver
      go_enter Tryd.func13, Tryd.ntmps13
      go_wp2_with fail
      refine HRR.out.mono ?_
      rintro e w1 ⟨rfl, b1⟩
      have HB1 := Lib.hid b1
      have HW1 := Lib.hid (HB0.out.bt b1)
      have hra := HRES.out w1 b1
      have HRA := Lib.hid hra
      obtain ⟨q0, q1, q2, q3, q4⟩ := hra.five
      have f0 := Lib.frozen_of_heap hra.par 0
      have f1 := Lib.frozen_of_heap hra.par 1
      have f4 := Lib.frozen_of_heap hra.par 4
      have g0 := Lib.frozen_of_heap hra.res 0
      have g1 := Lib.frozen_of_heap hra.res 1
      have g2 := Lib.frozen_of_heap hra.res 2
      have g3 := Lib.frozen_of_heap hra.res 3
      have g4 := Lib.frozen_of_heap hra.res 4
      have c0 := Lib.cell_of_heap hra.res 0
      have c1 := Lib.cell_of_heap hra.res 1
      have c2 := Lib.cell_of_heap hra.res 2
      have c3 := Lib.cell_of_heap hra.res 3
      have c4 := Lib.cell_of_heap hra.res 4
      clear hra
      clear b1
      go_wp2_with fail
      go_quiet (first | (go_at_call 27; exact Calls.quiet_of (HLT.out _)))
      generalize hw2 : w1.drewN _ = w2
      have b2 : Below w1.heap.size w1 w2 := by rw [← hw2]; exact Dr.below ⟨_, rfl⟩ _
      have HW2 := Lib.hid (HW1.out.bt b2)
      have hb2 := HB1.out.bt b2
      clear hw2 b2 q0 q1 q2 q3 q4 f0 f1 f4 g0 g1 g2 g3 g4 c0 c1 c2 c3 c4 HRA
      have hra := HRES.out w2 hb2
      have HRA := Lib.hid hra
      obtain ⟨q0, q1, q2, q3, q4⟩ := hra.five
      have f0 := Lib.frozen_of_heap hra.par 0
      have f1 := Lib.frozen_of_heap hra.par 1
      have f4 := Lib.frozen_of_heap hra.par 4
      have g0 := Lib.frozen_of_heap hra.res 0
      have g1 := Lib.frozen_of_heap hra.res 1
      have g2 := Lib.frozen_of_heap hra.res 2
      have g3 := Lib.frozen_of_heap hra.res 3
      have g4 := Lib.frozen_of_heap hra.res 4
      have c0 := Lib.cell_of_heap hra.res 0
      have c1 := Lib.cell_of_heap hra.res 1
      have c2 := Lib.cell_of_heap hra.res 2
      have c3 := Lib.cell_of_heap hra.res 3
      have c4 := Lib.cell_of_heap hra.res 4
      clear hra
      go_wp2
      (try simp only [Exit.inBlock, Exit.then])
      have S5 := five_put (id := 0) (ver := 0) (kind := 0) (lang := ⟨#[]⟩) (s := .slice none 0 0) HRA.out.some
      have B5 : Below w.heap.size w (put5 w2 (w.heap.size + 1) 0 0 0 ⟨#[]⟩ (.slice none 0 0)) := below_put5 HW2.out (Nat.le_succ _)
      change bodyPost _ _ _ _ _ (put5 w2 (w.heap.size + 1) 0 0 0 ⟨#[]⟩ (.slice none 0 0))
      generalize put5 w2 (w.heap.size + 1) 0 0 0 ⟨#[]⟩ (.slice none 0 0) = w9 at S5 B5 ⊢
      exact bodyPost_ret (results_rec rfl _ w9 (w.heap.size + 1) 0 0 0 ⟨#[]⟩ (.slice none 0 0) rfl S5) rfl ⟨_, rfl, recV_zero w9, B5⟩
    · have hv12 : r.ver = 1 ∨ r.ver = 2 := by omega
      have hn64 : n0 ≤ 64 := by omega
      obtain ⟨id, ver, kind, lang, l⟩ := r
      simp only at HB0 HRES HRR HV HFL hv12 hn hind ⊢
      have hu : upP ⟨id, ver, kind, lang, l⟩ = if 64 < (upL ver l).length then (rec0, 13) else (⟨id, ver + 1, kind, lang, upL ver l⟩, 0) := by
        unfold upP
        rw [hM, if_neg (by simp), if_neg h3]
      rw [hu]
      clear hu
      have HLT := Lib.hid latest_ret
      have HIN := Lib.hid hind
      have HN := Lib.hid hn
      have HCL : Hid (n0 = 0 ∨ ∃ b o, a = some ⟨b, o, none⟩ ∧ b < w.heap.size ∧ ∀ j f, l[j]? = some f → Four w b (o + j * 4) f) := Lib.hid (by
        obtain ⟨⟨a', c', he, -, hx⟩, -⟩ := hv
        cases he
        rcases hx with h | ⟨b, o, ha, hb, hx⟩
        · exact .inl (by rw [h]; rfl)
        · exact .inr ⟨b, o, ha, hb, fun j f hj => four_of (hx j f hj)⟩)
      obtain ⟨U, hU⟩ : ∃ U, U = upL ver l := ⟨_, rfl⟩
      rw [← hU]
      have HU := Lib.hid hU
      have HUF : Hid (∀ f ∈ U, FldAt w f) := Lib.hid (by rw [hU]; exact upL_at HFL.out)
      obtain ⟨X, hX⟩ : ∃ X : Rec × Int, X = if 64 < U.length then (rec0, 13) else (⟨id, ver + 1, kind, lang, U⟩, 0) := ⟨_, rfl⟩
      rw [← hX]
      have HX := Lib.hid hX
      clear hM hv hl hn hind h64 hver h3 hU HFL HV hX
      rcases hv12 with rfl | rfl
      · go_enter Tryd.func13, Tryd.ntmps13
        go_wp2_with fail
        refine HRR.out.mono ?_
        rintro e w1 ⟨rfl, b1⟩
        have HB1 := Lib.hid b1
        have HW1 := Lib.hid (HB0.out.bt b1)
        have hra := HRES.out w1 b1
        have HRA := Lib.hid hra
        obtain ⟨q0, q1, q2, q3, q4⟩ := hra.five
        have f0 := Lib.frozen_of_heap hra.par 0
        have f1 := Lib.frozen_of_heap hra.par 1
        have f4 := Lib.frozen_of_heap hra.par 4
        have g0 := Lib.frozen_of_heap hra.res 0
        have g1 := Lib.frozen_of_heap hra.res 1
        have g2 := Lib.frozen_of_heap hra.res 2
        have g3 := Lib.frozen_of_heap hra.res 3
        have g4 := Lib.frozen_of_heap hra.res 4
        have c0 := Lib.cell_of_heap hra.res 0
        have c1 := Lib.cell_of_heap hra.res 1
        have c2 := Lib.cell_of_heap hra.res 2
        have c3 := Lib.cell_of_heap hra.res 3
        have c4 := Lib.cell_of_heap hra.res 4
        clear hra
        clear b1
        go_wp2_with fail
        go_quiet (first | (go_at_call 27; exact Calls.quiet_of (HLT.out _)))
        generalize hw2 : w1.drewN _ = w2
        have b2 : Below w1.heap.size w1 w2 := by rw [← hw2]; exact Dr.below ⟨_, rfl⟩ _
        have HW2 := Lib.hid (HW1.out.bt b2)
        have hb2 := HB1.out.bt b2
        clear hw2 b2 q0 q1 q2 q3 q4 f0 f1 f4 g0 g1 g2 g3 g4 c0 c1 c2 c3 c4 HRA
        have hra := HRES.out w2 hb2
        have HRA := Lib.hid hra
        obtain ⟨q0, q1, q2, q3, q4⟩ := hra.five
        have f0 := Lib.frozen_of_heap hra.par 0
        have f1 := Lib.frozen_of_heap hra.par 1
        have f4 := Lib.frozen_of_heap hra.par 4
        have g0 := Lib.frozen_of_heap hra.res 0
        have g1 := Lib.frozen_of_heap hra.res 1
        have g2 := Lib.frozen_of_heap hra.res 2
        have g3 := Lib.frozen_of_heap hra.res 3
        have g4 := Lib.frozen_of_heap hra.res 4
        have c0 := Lib.cell_of_heap hra.res 0
        have c1 := Lib.cell_of_heap hra.res 1
        have c2 := Lib.cell_of_heap hra.res 2
        have c3 := Lib.cell_of_heap hra.res 3
        have c4 := Lib.cell_of_heap hra.res 4
        clear hra
        have HR2 := Lib.hid HRA.out
        have HS2 : Hid (w.heap.size + 1 < w2.heap.size) := Lib.hid (by have := hb2.size; have h2 := resW_size w id 1 kind lang a n0 c; omega)
        clear hb2 HRA
        go_wp2
        go_loopw [4, 21] (fun vl vk wr => ∃ (k : Nat) (out : List Fld), vk = .int .i64 k ∧ k ≤ n0 ∧ out.length ≤ 2 * k ∧ Hid (U = out ++ upL 1 (l.drop k)) ∧ Hid (OwnF wr w2.heap.size vl out) ∧ Hid (Below w2.heap.size w2 wr)) (fun _ vk _ => n0 - (intOf vk).toNat)
        case atStart => exact ⟨0, [], rfl, by omega, by simp, Lib.hid (by rw [HU.out]; simp), Lib.hid (OwnF.nil _ _), Lib.hid (Below.refl _ _)⟩
        case round =>
          obtain ⟨k, out, rfl, hk, hol, HK, HO, HB⟩ := hrel
          have HBW := Lib.hid (HW2.out.bt HB.out)
          have hra := HR2.out.below HB.out HS2.out
          obtain ⟨q0, q1, q2, q3, q4⟩ := hra.five
          have HRA := Lib.hid hra
          clear hra
          by_cases hlt : k < n0
          · have hltz : (k : Int) < (n0 : Int) := by omega
            obtain ⟨f, hf⟩ : ∃ f, l[k]? = some f := ⟨_, List.getElem?_eq_getElem (by have := HN.out; omega)⟩
            rcases HCL.out with h0 | ⟨b, o, rfl, hbl, hcl⟩
            · omega
            obtain ⟨p0, p1, p2, p3⟩ := (hcl k f hf).below HBW.out hbl
            have hst := HK.out
            rw [upL_step 1 hf, ← List.append_assoc] at hst
            have e1 := lb_beq f.tag t440
            rw [lb_list t440] at e1
            have HRZ := Lib.hid (fun W => pRaised f W (HIN.out f (List.mem_of_getElem? hf)))
            have HFR := Lib.hid (Below.alloc (Below.refl wr.heap.size wr) (Nat.le_refl _) (.cells #[.string (lb f.tag), .string (lb f.ind), .slice f.sa f.subs.length f.sc, .int .i64 f.auth] 41))
            have HBA : Hid (Below w2.heap.size w2 (fldW wr (lb f.tag) (lb f.ind) f.sa f.subs.length f.sc f.auth)) := Lib.hid (HB.out.alloc HB.out.size _)
            have HOA : Hid (OwnF (fldW wr (lb f.tag) (lb f.ind) f.sa f.subs.length f.sc f.auth) w2.heap.size u4 out) := Lib.hid (HO.out.below HFR.out)
            have hrl := raise_len 1 f
            obtain ⟨N, hN⟩ : ∃ N, N = raise 1 f := ⟨_, rfl⟩
            rw [← hN] at hst hrl
            have HST := Lib.hid hst
            have HF4 : Hid (∀ (x y : ByteArray) (O : Obj), x = lb f.tag → y = lb f.ind → ∀ sn, sn = f.subs.length → ∀ j u, (flatE fldE [f])[j]? = some u → ((wr.alloc O).alloc (.cells #[.string x, .string y, .slice f.sa sn f.sc, .int .i64 f.auth] 41)).cell? ((⟨wr.heap.size + 1, 0, none⟩ : Addr).add j) = some u) := Lib.hid (fun x y O hx hy sn hs => cells_one (four_new2 wr O _ f x y hx hy sn hs))
            obtain ⟨T, hT⟩ : ∃ T, T = lb f.tag := ⟨_, rfl⟩
            obtain ⟨I, hI⟩ : ∃ I, I = lb f.ind := ⟨_, rfl⟩
            obtain ⟨sn, hsn⟩ : ∃ sn, sn = f.subs.length := ⟨_, rfl⟩
            rw [← hT] at p0 e1 HOA HRZ HFR HBA
            rw [← hI] at p1 HOA HRZ HFR HBA
            rw [← hsn] at p2 HOA HRZ HFR HBA
            have HTI := Lib.hid (And.intro hT (And.intro hI hsn))
            obtain ⟨r0, r1, r2, r3, r4⟩ := (HR2.out.below HBA.out HS2.out).five
            by_cases a1 : f.tag = t440
            · have b1 : (T.toList == [52, 52, 48]) = true := e1.trans (by rw [a1]; simp)
              have hN1 : N = [f] := by rw [hN]; unfold raise; rw [if_neg (by rw [a1]; decide), if_neg (by rw [a1]; decide)]
              have HN1 := Lib.hid hN1
              clear hst hcl hf e1 a1 hN hN1 hT hI hsn HRZ HK HFR
              go_wp2_with (at_builtin; refine append_flds rfl _ _ rfl w2.heap.size u4 out rfl (HOA.out.below ((Below.refl _ _).alloc (Nat.le_refl _) _)) ⟨wr.heap.size + 1, 0, none⟩ 1 1 [f] rfl rfl (HF4.out T I _ HTI.out.1 HTI.out.2.1 sn HTI.out.2.2) (by omega) (by have := HBA.out.size; simp at this ⊢; omega) ?_)
              intro v3 w3 hown hb3
              have HO3 : Hid (OwnF w3 w2.heap.size v3 (out ++ N)) := Lib.hid (by rw [HN1.out]; exact hown)
              have HB3 : Hid (Below w2.heap.size w2 w3) := Lib.hid ((HBA.out.alloc HBA.out.size _).trans hb3)
              clear hown hb3
              go_wp2
              go_roundw
              case rel => exact ⟨k + 1, out ++ N, by go_num, by omega, by rw [List.length_append]; omega, HST, HO3, HB3⟩
              case measure => simp [intOf]; omega
            · have b1 : (T.toList == [52, 52, 48]) = false := e1.trans (by simpa using a1)
              have hN1 : N = raiseL f := by
                rw [hN]
                unfold raise raiseL
                by_cases a2 : f.tag = t260
                · rw [if_pos ⟨rfl, a2⟩, if_pos a2]
                · rw [if_neg (fun h => a2 h.2), if_neg (fun h => by cases h.1), if_neg a2, if_neg a1]
              rw [← hN1] at HRZ
              clear hst hcl hf e1 a1 hN hN1 hT hI hsn HK HFR
              go_wp2_with fail
              refine (HRZ.out _).mono ?_
              rintro e w3 ⟨b3, c3, rfl, hc3, hb3⟩
              have HB3 : Hid (Below w2.heap.size w2 w3) := Lib.hid (HBA.out.trans (hb3.mono HBA.out.size))
              have HO3 : Hid (OwnF w3 w2.heap.size u4 out) := Lib.hid (HOA.out.below hb3)
              have HC3 := Lib.hid hc3
              clear hc3 hb3
              go_wp2_with (at_builtin; refine append_flds rfl _ _ rfl w2.heap.size u4 out rfl HO3.out ⟨b3, 0, none⟩ N.length c3 N rfl rfl HC3.out (by omega) HB3.out.size ?_)
              intro v4 w4 hown hb4
              have HO4 := Lib.hid hown
              have HB4 : Hid (Below w2.heap.size w2 w4) := Lib.hid (HB3.out.trans hb4)
              clear hown hb4
              go_wp2
              go_roundw
              case rel => exact ⟨k + 1, out ++ N, by go_num, by omega, by rw [List.length_append]; omega, HST, HO4, HB4⟩
              case measure => simp [intOf]; omega
          · have hltz : ¬ (k : Int) < (n0 : Int) := by omega
            have hUo : U = out := by
              rw [HK.out, List.drop_eq_nil_of_le (by have := HN.out; omega)]
              simp [upL]
            obtain ⟨va, vc, rfl⟩ := HO.out.val
            have HUO := Lib.hid hUo
            have hra := HRA.out
            have f1 := Lib.frozen_of_heap hra.par 1
            have f4 := Lib.frozen_of_heap hra.par 4
            have g0 := Lib.frozen_of_heap hra.res 0
            have g1 := Lib.frozen_of_heap hra.res 1
            have g2 := Lib.frozen_of_heap hra.res 2
            have g3 := Lib.frozen_of_heap hra.res 3
            have g4 := Lib.frozen_of_heap hra.res 4
            have c0 := Lib.cell_of_heap hra.res 0
            have c1 := Lib.cell_of_heap hra.res 1
            have c2 := Lib.cell_of_heap hra.res 2
            have c3 := Lib.cell_of_heap hra.res 3
            have c4 := Lib.cell_of_heap hra.res 4
            obtain ⟨m, hm⟩ : ∃ m, m = out.length := ⟨_, rfl⟩
            have HMM := Lib.hid hm
            rw [← hm]
            by_cases h64 : 64 < m
            · have h64z : (64 : Int) < (m : Int) := by omega
              have hX := HX.out
              rw [if_pos (by rw [hUo, ← hm]; exact h64)] at hX
              have HXE := Lib.hid hX
              clear hUo hm hra HK hX
              go_wp2
              (try simp only [Exit.inBlock, Exit.then])
              have S5 := five_put (id := 0) (ver := 0) (kind := 0) (lang := ⟨#[]⟩) (s := .slice none 0 0) HRA.out.some
              have B5 : Below w.heap.size w (put5 wr (w.heap.size + 1) 0 0 0 ⟨#[]⟩ (.slice none 0 0)) := below_put5 HBW.out (Nat.le_succ _)
              change bodyPost _ _ _ _ _ (put5 wr (w.heap.size + 1) 0 0 0 ⟨#[]⟩ (.slice none 0 0))
              generalize put5 wr (w.heap.size + 1) 0 0 0 ⟨#[]⟩ (.slice none 0 0) = w9 at S5 B5 ⊢
              rw [HXE.out]
              exact bodyPost_ret (results_rec rfl _ w9 (w.heap.size + 1) 0 0 0 ⟨#[]⟩ (.slice none 0 0) rfl S5) rfl ⟨_, rfl, recV_zero w9, B5⟩
            · have h64z : (m : Int) ≤ 64 := by omega
              have hX := HX.out
              rw [if_neg (by rw [hUo, ← hm]; exact h64)] at hX
              have HXE := Lib.hid hX
              clear hUo hm hra HK hX
              go_wp2
              (try simp only [Exit.inBlock, Exit.then])
              obtain ⟨w7, hw7⟩ : ∃ w7, w7 = (wr.setCell ⟨w.heap.size, 4, none⟩ (.slice va m vc)).setCell ⟨w.heap.size, 1, none⟩ (.int .i64 2) := ⟨_, rfl⟩
              have hs7 : w7.heap.size = wr.heap.size := by rw [hw7]; simp [World.setCell]
              have hc7 : ∀ g i, w.heap.size + 1 < g → (put5 w7 (w.heap.size + 1) id 2 kind lang (.slice va m vc)).cell? ⟨g, i, none⟩ = wr.cell? ⟨g, i, none⟩ := fun g i h => by
                rw [put5_away (by omega), hw7, cell_away (by omega), cell_away (by omega)]
              have hsm : ∀ j, j < 5 → (w7.cell? ⟨w.heap.size + 1, j, none⟩).isSome = true := fun j hj => by
                rw [hw7, cell_away (by omega), cell_away (by omega)]
                exact HRA.out.some j hj
              have B7 : Below w.heap.size w w7 := by
                rw [hw7]
                exact (HBW.out.setCell (p := ⟨w.heap.size, 4, none⟩) (Nat.le_refl _) _).setCell (p := ⟨w.heap.size, 1, none⟩) (Nat.le_refl _) _
              have S5 := five_put (id := id) (ver := 2) (kind := kind) (lang := lang) (s := .slice va m vc) hsm
              have B5 : Below w.heap.size w (put5 w7 (w.heap.size + 1) id 2 kind lang (.slice va m vc)) := below_put5 B7 (Nat.le_succ _)
              have F5 : Flds (put5 w7 (w.heap.size + 1) id 2 kind lang (.slice va m vc)) (.slice va m vc) U := by
                rw [HUO.out]
                have hu := HUF.out
                rw [HUO.out] at hu
                have ho := HO.out
                rw [← HMM.out] at ho
                refine flds_own ho (by rw [put5_size, hs7]; exact Nat.le_refl _) (fun g i h => hc7 g i ?_) hu B5
                have := HS2.out
                omega
              rw [← hw7]
              change bodyPost _ _ _ _ _ (put5 w7 (w.heap.size + 1) id 2 kind lang (.slice va m vc))
              generalize put5 w7 (w.heap.size + 1) id 2 kind lang (.slice va m vc) = w9 at S5 B5 F5 ⊢
              rw [HXE.out]
              exact bodyPost_ret (results_rec rfl _ w9 (w.heap.size + 1) id 2 kind lang (.slice va m vc) rfl S5) rfl ⟨_, rfl, ⟨va, m, vc, rfl, F5⟩, B5⟩
      · go_enter Tryd.func13, Tryd.ntmps13
        go_wp2_with fail
        refine HRR.out.mono ?_
        rintro e w1 ⟨rfl, b1⟩
        have HB1 := Lib.hid b1
        have HW1 := Lib.hid (HB0.out.bt b1)
        have hra := HRES.out w1 b1
        have HRA := Lib.hid hra
        obtain ⟨q0, q1, q2, q3, q4⟩ := hra.five
        have f0 := Lib.frozen_of_heap hra.par 0
        have f1 := Lib.frozen_of_heap hra.par 1
        have f4 := Lib.frozen_of_heap hra.par 4
        have g0 := Lib.frozen_of_heap hra.res 0
        have g1 := Lib.frozen_of_heap hra.res 1
        have g2 := Lib.frozen_of_heap hra.res 2
        have g3 := Lib.frozen_of_heap hra.res 3
        have g4 := Lib.frozen_of_heap hra.res 4
        have c0 := Lib.cell_of_heap hra.res 0
        have c1 := Lib.cell_of_heap hra.res 1
        have c2 := Lib.cell_of_heap hra.res 2
        have c3 := Lib.cell_of_heap hra.res 3
        have c4 := Lib.cell_of_heap hra.res 4
        clear hra
        clear b1
        go_wp2_with fail
        go_quiet (first | (go_at_call 27; exact Calls.quiet_of (HLT.out _)))
        generalize hw2 : w1.drewN _ = w2
        have b2 : Below w1.heap.size w1 w2 := by rw [← hw2]; exact Dr.below ⟨_, rfl⟩ _
        have HW2 := Lib.hid (HW1.out.bt b2)
        have hb2 := HB1.out.bt b2
        clear hw2 b2 q0 q1 q2 q3 q4 f0 f1 f4 g0 g1 g2 g3 g4 c0 c1 c2 c3 c4 HRA
        have hra := HRES.out w2 hb2
        have HRA := Lib.hid hra
        obtain ⟨q0, q1, q2, q3, q4⟩ := hra.five
        have f0 := Lib.frozen_of_heap hra.par 0
        have f1 := Lib.frozen_of_heap hra.par 1
        have f4 := Lib.frozen_of_heap hra.par 4
        have g0 := Lib.frozen_of_heap hra.res 0
        have g1 := Lib.frozen_of_heap hra.res 1
        have g2 := Lib.frozen_of_heap hra.res 2
        have g3 := Lib.frozen_of_heap hra.res 3
        have g4 := Lib.frozen_of_heap hra.res 4
        have c0 := Lib.cell_of_heap hra.res 0
        have c1 := Lib.cell_of_heap hra.res 1
        have c2 := Lib.cell_of_heap hra.res 2
        have c3 := Lib.cell_of_heap hra.res 3
        have c4 := Lib.cell_of_heap hra.res 4
        clear hra
        have HR2 := Lib.hid HRA.out
        have HS2 : Hid (w.heap.size + 1 < w2.heap.size) := Lib.hid (by have := hb2.size; have h2 := resW_size w id 2 kind lang a n0 c; omega)
        clear hb2 HRA
        go_wp2
        go_loopw [4, 21] (fun vl vk wr => ∃ (k : Nat) (out : List Fld), vk = .int .i64 k ∧ k ≤ n0 ∧ out.length ≤ 2 * k ∧ Hid (U = out ++ upL 2 (l.drop k)) ∧ Hid (OwnF wr w2.heap.size vl out) ∧ Hid (Below w2.heap.size w2 wr)) (fun _ vk _ => n0 - (intOf vk).toNat)
        case atStart => exact ⟨0, [], rfl, by omega, by simp, Lib.hid (by rw [HU.out]; simp), Lib.hid (OwnF.nil _ _), Lib.hid (Below.refl _ _)⟩
        case round =>
          obtain ⟨k, out, rfl, hk, hol, HK, HO, HB⟩ := hrel
          have HBW := Lib.hid (HW2.out.bt HB.out)
          have hra := HR2.out.below HB.out HS2.out
          obtain ⟨q0, q1, q2, q3, q4⟩ := hra.five
          have HRA := Lib.hid hra
          clear hra
          by_cases hlt : k < n0
          · have hltz : (k : Int) < (n0 : Int) := by omega
            obtain ⟨f, hf⟩ : ∃ f, l[k]? = some f := ⟨_, List.getElem?_eq_getElem (by have := HN.out; omega)⟩
            rcases HCL.out with h0 | ⟨b, o, rfl, hbl, hcl⟩
            · omega
            obtain ⟨p0, p1, p2, p3⟩ := (hcl k f hf).below HBW.out hbl
            have hst := HK.out
            rw [upL_step 2 hf, ← List.append_assoc] at hst
            have e1 := lb_beq f.tag t260
            rw [lb_list t260] at e1
            have HRZ := Lib.hid (fun W => pRaised f W (HIN.out f (List.mem_of_getElem? hf)))
            have HFR := Lib.hid (Below.alloc (Below.refl wr.heap.size wr) (Nat.le_refl _) (.cells #[.string (lb f.tag), .string (lb f.ind), .slice f.sa f.subs.length f.sc, .int .i64 f.auth] 41))
            have HBA : Hid (Below w2.heap.size w2 (fldW wr (lb f.tag) (lb f.ind) f.sa f.subs.length f.sc f.auth)) := Lib.hid (HB.out.alloc HB.out.size _)
            have HOA : Hid (OwnF (fldW wr (lb f.tag) (lb f.ind) f.sa f.subs.length f.sc f.auth) w2.heap.size u4 out) := Lib.hid (HO.out.below HFR.out)
            have hrl := raise_len 2 f
            obtain ⟨N, hN⟩ : ∃ N, N = raise 2 f := ⟨_, rfl⟩
            rw [← hN] at hst hrl
            have HST := Lib.hid hst
            have HF4 : Hid (∀ (x y : ByteArray) (O : Obj), x = lb f.tag → y = lb f.ind → ∀ sn, sn = f.subs.length → ∀ j u, (flatE fldE [f])[j]? = some u → ((wr.alloc O).alloc (.cells #[.string x, .string y, .slice f.sa sn f.sc, .int .i64 f.auth] 41)).cell? ((⟨wr.heap.size + 1, 0, none⟩ : Addr).add j) = some u) := Lib.hid (fun x y O hx hy sn hs => cells_one (four_new2 wr O _ f x y hx hy sn hs))
            obtain ⟨T, hT⟩ : ∃ T, T = lb f.tag := ⟨_, rfl⟩
            obtain ⟨I, hI⟩ : ∃ I, I = lb f.ind := ⟨_, rfl⟩
            obtain ⟨sn, hsn⟩ : ∃ sn, sn = f.subs.length := ⟨_, rfl⟩
            rw [← hT] at p0 e1 HOA HRZ HFR HBA
            rw [← hI] at p1 HOA HRZ HFR HBA
            rw [← hsn] at p2 HOA HRZ HFR HBA
            have HTI := Lib.hid (And.intro hT (And.intro hI hsn))
            obtain ⟨r0, r1, r2, r3, r4⟩ := (HR2.out.below HBA.out HS2.out).five
            by_cases a1 : f.tag = t260
            · have b1 : (T.toList == [50, 54, 48]) = true := e1.trans (by rw [a1]; simp)
              have hN1 : N = [f] := by rw [hN]; unfold raise; rw [if_neg (by rw [a1]; decide), if_neg (by rw [a1]; decide)]
              have HN1 := Lib.hid hN1
              clear hst hcl hf e1 a1 hN hN1 hT hI hsn HRZ HK HFR
              go_wp2_with (at_builtin; refine append_flds rfl _ _ rfl w2.heap.size u4 out rfl (HOA.out.below ((Below.refl _ _).alloc (Nat.le_refl _) _)) ⟨wr.heap.size + 1, 0, none⟩ 1 1 [f] rfl rfl (HF4.out T I _ HTI.out.1 HTI.out.2.1 sn HTI.out.2.2) (by omega) (by have := HBA.out.size; simp at this ⊢; omega) ?_)
              intro v3 w3 hown hb3
              have HO3 : Hid (OwnF w3 w2.heap.size v3 (out ++ N)) := Lib.hid (by rw [HN1.out]; exact hown)
              have HB3 : Hid (Below w2.heap.size w2 w3) := Lib.hid ((HBA.out.alloc HBA.out.size _).trans hb3)
              clear hown hb3
              go_wp2
              go_roundw
              case rel => exact ⟨k + 1, out ++ N, by go_num, by omega, by rw [List.length_append]; omega, HST, HO3, HB3⟩
              case measure => simp [intOf]; omega
            · have b1 : (T.toList == [50, 54, 48]) = false := e1.trans (by simpa using a1)
              have hN1 : N = raiseL f := by
                rw [hN]
                unfold raise raiseL
                by_cases a2 : f.tag = t440
                · rw [if_neg (fun h => by cases h.1), if_pos ⟨rfl, a2⟩, if_neg a1, if_pos a2]
                · rw [if_neg (fun h => by cases h.1), if_neg (fun h => a2 h.2), if_neg a1, if_neg a2]
              rw [← hN1] at HRZ
              clear hst hcl hf e1 a1 hN hN1 hT hI hsn HK HFR
              go_wp2_with fail
              refine (HRZ.out _).mono ?_
              rintro e w3 ⟨b3, c3, rfl, hc3, hb3⟩
              have HB3 : Hid (Below w2.heap.size w2 w3) := Lib.hid (HBA.out.trans (hb3.mono HBA.out.size))
              have HO3 : Hid (OwnF w3 w2.heap.size u4 out) := Lib.hid (HOA.out.below hb3)
              have HC3 := Lib.hid hc3
              clear hc3 hb3
              go_wp2_with (at_builtin; refine append_flds rfl _ _ rfl w2.heap.size u4 out rfl HO3.out ⟨b3, 0, none⟩ N.length c3 N rfl rfl HC3.out (by omega) HB3.out.size ?_)
              intro v4 w4 hown hb4
              have HO4 := Lib.hid hown
              have HB4 : Hid (Below w2.heap.size w2 w4) := Lib.hid (HB3.out.trans hb4)
              clear hown hb4
              go_wp2
              go_roundw
              case rel => exact ⟨k + 1, out ++ N, by go_num, by omega, by rw [List.length_append]; omega, HST, HO4, HB4⟩
              case measure => simp [intOf]; omega
          · have hltz : ¬ (k : Int) < (n0 : Int) := by omega
            have hUo : U = out := by
              rw [HK.out, List.drop_eq_nil_of_le (by have := HN.out; omega)]
              simp [upL]
            obtain ⟨va, vc, rfl⟩ := HO.out.val
            have HUO := Lib.hid hUo
            have hra := HRA.out
            have f1 := Lib.frozen_of_heap hra.par 1
            have f4 := Lib.frozen_of_heap hra.par 4
            have g0 := Lib.frozen_of_heap hra.res 0
            have g1 := Lib.frozen_of_heap hra.res 1
            have g2 := Lib.frozen_of_heap hra.res 2
            have g3 := Lib.frozen_of_heap hra.res 3
            have g4 := Lib.frozen_of_heap hra.res 4
            have c0 := Lib.cell_of_heap hra.res 0
            have c1 := Lib.cell_of_heap hra.res 1
            have c2 := Lib.cell_of_heap hra.res 2
            have c3 := Lib.cell_of_heap hra.res 3
            have c4 := Lib.cell_of_heap hra.res 4
            obtain ⟨m, hm⟩ : ∃ m, m = out.length := ⟨_, rfl⟩
            have HMM := Lib.hid hm
            rw [← hm]
            by_cases h64 : 64 < m
            · have h64z : (64 : Int) < (m : Int) := by omega
              have hX := HX.out
              rw [if_pos (by rw [hUo, ← hm]; exact h64)] at hX
              have HXE := Lib.hid hX
              clear hUo hm hra HK hX
              go_wp2
              (try simp only [Exit.inBlock, Exit.then])
              have S5 := five_put (id := 0) (ver := 0) (kind := 0) (lang := ⟨#[]⟩) (s := .slice none 0 0) HRA.out.some
              have B5 : Below w.heap.size w (put5 wr (w.heap.size + 1) 0 0 0 ⟨#[]⟩ (.slice none 0 0)) := below_put5 HBW.out (Nat.le_succ _)
              change bodyPost _ _ _ _ _ (put5 wr (w.heap.size + 1) 0 0 0 ⟨#[]⟩ (.slice none 0 0))
              generalize put5 wr (w.heap.size + 1) 0 0 0 ⟨#[]⟩ (.slice none 0 0) = w9 at S5 B5 ⊢
              rw [HXE.out]
              exact bodyPost_ret (results_rec rfl _ w9 (w.heap.size + 1) 0 0 0 ⟨#[]⟩ (.slice none 0 0) rfl S5) rfl ⟨_, rfl, recV_zero w9, B5⟩
            · have h64z : (m : Int) ≤ 64 := by omega
              have hX := HX.out
              rw [if_neg (by rw [hUo, ← hm]; exact h64)] at hX
              have HXE := Lib.hid hX
              clear hUo hm hra HK hX
              go_wp2
              (try simp only [Exit.inBlock, Exit.then])
              obtain ⟨w7, hw7⟩ : ∃ w7, w7 = (wr.setCell ⟨w.heap.size, 4, none⟩ (.slice va m vc)).setCell ⟨w.heap.size, 1, none⟩ (.int .i64 3) := ⟨_, rfl⟩
              have hs7 : w7.heap.size = wr.heap.size := by rw [hw7]; simp [World.setCell]
              have hc7 : ∀ g i, w.heap.size + 1 < g → (put5 w7 (w.heap.size + 1) id 3 kind lang (.slice va m vc)).cell? ⟨g, i, none⟩ = wr.cell? ⟨g, i, none⟩ := fun g i h => by
                rw [put5_away (by omega), hw7, cell_away (by omega), cell_away (by omega)]
              have hsm : ∀ j, j < 5 → (w7.cell? ⟨w.heap.size + 1, j, none⟩).isSome = true := fun j hj => by
                rw [hw7, cell_away (by omega), cell_away (by omega)]
                exact HRA.out.some j hj
              have B7 : Below w.heap.size w w7 := by
                rw [hw7]
                exact (HBW.out.setCell (p := ⟨w.heap.size, 4, none⟩) (Nat.le_refl _) _).setCell (p := ⟨w.heap.size, 1, none⟩) (Nat.le_refl _) _
              have S5 := five_put (id := id) (ver := 3) (kind := kind) (lang := lang) (s := .slice va m vc) hsm
              have B5 : Below w.heap.size w (put5 w7 (w.heap.size + 1) id 3 kind lang (.slice va m vc)) := below_put5 B7 (Nat.le_succ _)
              have F5 : Flds (put5 w7 (w.heap.size + 1) id 3 kind lang (.slice va m vc)) (.slice va m vc) U := by
                rw [HUO.out]
                have hu := HUF.out
                rw [HUO.out] at hu
                have ho := HO.out
                rw [← HMM.out] at ho
                refine flds_own ho (by rw [put5_size, hs7]; exact Nat.le_refl _) (fun g i h => hc7 g i ?_) hu B5
                have := HS2.out
                omega
              rw [← hw7]
              change bodyPost _ _ _ _ _ (put5 w7 (w.heap.size + 1) id 3 kind lang (.slice va m vc))
              generalize put5 w7 (w.heap.size + 1) id 3 kind lang (.slice va m vc) = w9 at S5 B5 F5 ⊢
              rw [HXE.out]
              exact bodyPost_ret (results_rec rfl _ w9 (w.heap.size + 1) id 3 kind lang (.slice va m vc) rfl S5) rfl ⟨_, rfl, ⟨va, m, vc, rfl, F5⟩, B5⟩
end Go.Proofs.YtimecccphbgdeaaDoor
