/- The walk of the reference's Up (layer 18). -/
import Derived.Test.YtimecccphbgdeaaDoorMrv
namespace Go.Proofs.YtimecccphbgdeaaDoor
open Go Go.RowKit

set_option maxRecDepth 100000 in
set_option maxHeartbeats 8000000 in
theorem rUp (r : Rec) (a : Option Addr) (n0 c : Nat) (w : World) (hv : Flds w (.slice a n0 c) r.fields) (hs : r.small) :
    Calls Tryd.prog 14 #[.agg #[.int .i64 r.id, .int .i64 r.ver, .int .i64 r.kind, .string r.lang, .slice a n0 c]] w (RetRec w (upP r)) := by
  have hb0 : Below w.heap.size w (resW w r.id r.ver r.kind r.lang a n0 c) := ((Below.refl _ _).alloc (Nat.le_refl _) _).alloc (by simp) _
  have hrr := rMRight r a n0 c (resW w r.id r.ver r.kind r.lang a n0 c) (hv.below hb0 (Nat.le_refl _)) hs
  have HFL : Hid (∀ f ∈ r.fields, FldAt w f) := Lib.hid hv.2
  have HV : Hid (∀ W, Below (resW w r.id r.ver r.kind r.lang a n0 c).heap.size (resW w r.id r.ver r.kind r.lang a n0 c) W → Flds W (.slice a n0 c) r.fields) := Lib.hid (fun W h => hv.below (hb0.bt h) (Nat.le_refl _))
  obtain ⟨hn, hn2⟩ := hv.len
  have hss := hs
  obtain ⟨hl, -⟩ := hs
  have HB0 := Lib.hid hb0
  have HRES : Hid (∀ W, Below (resW w r.id r.ver r.kind r.lang a n0 c).heap.size (resW w r.id r.ver r.kind r.lang a n0 c) W → ResAt W w.heap.size r.id r.ver r.kind r.lang (.slice a n0 c)) := Lib.hid (fun W h => resAt_of h)
  clear hb0
  cases hM : rightM r with
  | false =>
    have hu : upP r = (rec0, 12) := by unfold upP; rw [hM, if_pos rfl]
    rw [hu]
    rw [hM] at hrr
    have HRR := Lib.hid hrr
    obtain ⟨id, ver, kind, lang, l⟩ := r
    simp only at HB0 HRES HRR ⊢
    clear hrr hM hu HV HFL hv hss hl hn hn2
    go_enter Tryd.func14, Tryd.ntmps14
    go_wp2_with fail
    refine HRR.out.mono ?_
    rintro e w1 ⟨rfl, b1⟩
    have HB1 := Lib.hid b1
    have HW1 := Lib.hid (HB0.out.bt b1)
    have hra := HRES.out w1 b1
    have HRA := Lib.hid hra
    obtain ⟨q0, q1, q2, q3, q4⟩ := hra.five
    have f0 := Lib.frozen_of_heap hra.par 0
    have f1 := Lib.frozen_of_heap hra.par 1
    have f4 := Lib.frozen_of_heap hra.par 4
    have g0 := Lib.frozen_of_heap hra.res 0
    have g1 := Lib.frozen_of_heap hra.res 1
    have g2 := Lib.frozen_of_heap hra.res 2
    have g3 := Lib.frozen_of_heap hra.res 3
    have g4 := Lib.frozen_of_heap hra.res 4
    have c0 := Lib.cell_of_heap hra.res 0
    have c1 := Lib.cell_of_heap hra.res 1
    have c2 := Lib.cell_of_heap hra.res 2
    have c3 := Lib.cell_of_heap hra.res 3
    have c4 := Lib.cell_of_heap hra.res 4
    clear hra
    go_wp2
    (try simp only [Exit.inBlock, Exit.then])
    have S5 := five_put (id := 0) (ver := 0) (kind := 0) (lang := ⟨#[]⟩) (s := .slice none 0 0) HRA.out.some
    have B5 : Below w.heap.size w (put5 w1 (w.heap.size + 1) 0 0 0 ⟨#[]⟩ (.slice none 0 0)) := below_put5 HW1.out (Nat.le_succ _)
    change bodyPost _ _ _ _ _ (put5 w1 (w.heap.size + 1) 0 0 0 ⟨#[]⟩ (.slice none 0 0))
    generalize put5 w1 (w.heap.size + 1) 0 0 0 ⟨#[]⟩ (.slice none 0 0) = w9 at S5 B5 ⊢
    exact bodyPost_ret (results_rec rfl _ w9 (w.heap.size + 1) 0 0 0 ⟨#[]⟩ (.slice none 0 0) rfl S5) rfl ⟨_, rfl, recV_zero w9, B5⟩
  | true =>
    rw [hM] at hrr
    have HRR := Lib.hid hrr
    have h0 : recErr r = 0 := by
      by_cases h : recErr r = 0
      · exact h
      · rw [rightM_bad h] at hM; cases hM
    obtain ⟨-, hver, -, -, h64, hfe⟩ := recErr_ok h0
    have hind : ∀ f ∈ r.fields, f.ind.length = 2 := fun f hf => (fldsErr_ind hfe f hf).1
    clear hrr h0 hfe hss
    by_cases h3 : r.ver = 3
    · have hu : upP r = (rec0, 20) := by unfold upP; rw [hM, if_neg (by simp), if_pos h3]
      rw [hu]
      obtain ⟨id, ver, kind, lang, l⟩ := r
      simp only at HB0 HRES HRR h3 ⊢
      subst h3
      clear hM hu HV HFL hv hl hn hn2 hind h64 hver
      go_enter Tryd.func14, Tryd.ntmps14
      go_wp2_with fail
      refine HRR.out.mono ?_
      rintro e w1 ⟨rfl, b1⟩
      have HB1 := Lib.hid b1
      have HW1 := Lib.hid (HB0.out.bt b1)
      have hra := HRES.out w1 b1
      have HRA := Lib.hid hra
      obtain ⟨q0, q1, q2, q3, q4⟩ := hra.five
      have f0 := Lib.frozen_of_heap hra.par 0
      have f1 := Lib.frozen_of_heap hra.par 1
      have f4 := Lib.frozen_of_heap hra.par 4
      have g0 := Lib.frozen_of_heap hra.res 0
      have g1 := Lib.frozen_of_heap hra.res 1
      have g2 := Lib.frozen_of_heap hra.res 2
      have g3 := Lib.frozen_of_heap hra.res 3
      have g4 := Lib.frozen_of_heap hra.res 4
      have c0 := Lib.cell_of_heap hra.res 0
      have c1 := Lib.cell_of_heap hra.res 1
      have c2 := Lib.cell_of_heap hra.res 2
      have c3 := Lib.cell_of_heap hra.res 3
      have c4 := Lib.cell_of_heap hra.res 4
      clear hra
      go_wp2
      (try simp only [Exit.inBlock, Exit.then])
      have S5 := five_put (id := 0) (ver := 0) (kind := 0) (lang := ⟨#[]⟩) (s := .slice none 0 0) HRA.out.some
      have B5 : Below w.heap.size w (put5 w1 (w.heap.size + 1) 0 0 0 ⟨#[]⟩ (.slice none 0 0)) := below_put5 HW1.out (Nat.le_succ _)
      change bodyPost _ _ _ _ _ (put5 w1 (w.heap.size + 1) 0 0 0 ⟨#[]⟩ (.slice none 0 0))
      generalize put5 w1 (w.heap.size + 1) 0 0 0 ⟨#[]⟩ (.slice none 0 0) = w9 at S5 B5 ⊢
      exact bodyPost_ret (results_rec rfl _ w9 (w.heap.size + 1) 0 0 0 ⟨#[]⟩ (.slice none 0 0) rfl S5) rfl ⟨_, rfl, recV_zero w9, B5⟩
    · have hv12 : r.ver = 1 ∨ r.ver = 2 := by omega
      have hn64 : n0 ≤ 64 := by omega
      obtain ⟨id, ver, kind, lang, l⟩ := r
      simp only at HB0 HRES HRR HV HFL hv12 hn hind ⊢
      have hu : upP ⟨id, ver, kind, lang, l⟩ = if 64 < (upL ver l).length then (rec0, 13) else (⟨id, ver + 1, kind, lang, upL ver l⟩, 0) := by
        unfold upP
        rw [hM, if_neg (by simp), if_neg h3]
      rw [hu]
      clear hu
      have HIN := Lib.hid hind
      have HN := Lib.hid hn
      have HCL : Hid (n0 = 0 ∨ ∃ b o, a = some ⟨b, o, none⟩ ∧ b < w.heap.size ∧ ∀ j f, l[j]? = some f → Four w b (o + j * 4) f) := Lib.hid (by
        obtain ⟨⟨a', c', he, -, hx⟩, -⟩ := hv
        cases he
        rcases hx with h | ⟨b, o, ha, hb, hx⟩
        · exact .inl (by rw [h]; rfl)
        · exact .inr ⟨b, o, ha, hb, fun j f hj => four_of (hx j f hj)⟩)
      obtain ⟨U, hU⟩ : ∃ U, U = upL ver l := ⟨_, rfl⟩
      rw [← hU]
      have HU := Lib.hid hU
      have HUF : Hid (∀ f ∈ U, FldAt w f) := Lib.hid (by rw [hU]; exact upL_at HFL.out)
      obtain ⟨X, hX⟩ : ∃ X : Rec × Int, X = if 64 < U.length then (rec0, 13) else (⟨id, ver + 1, kind, lang, U⟩, 0) := ⟨_, rfl⟩
      rw [← hX]
      have HX := Lib.hid hX
      clear hM hv hl hn hind h64 hver h3 hU HFL HV hX
      rcases hv12 with rfl | rfl
      · go_enter Tryd.func14, Tryd.ntmps14
        go_wp2_with fail
        refine HRR.out.mono ?_
        rintro e w1 ⟨rfl, b1⟩
        have HB1 := Lib.hid b1
        have HW1 := Lib.hid (HB0.out.bt b1)
        have hra := HRES.out w1 b1
        have HRA := Lib.hid hra
        obtain ⟨q0, q1, q2, q3, q4⟩ := hra.five
        have f0 := Lib.frozen_of_heap hra.par 0
        have f1 := Lib.frozen_of_heap hra.par 1
        have f4 := Lib.frozen_of_heap hra.par 4
        have g0 := Lib.frozen_of_heap hra.res 0
        have g1 := Lib.frozen_of_heap hra.res 1
        have g2 := Lib.frozen_of_heap hra.res 2
        have g3 := Lib.frozen_of_heap hra.res 3
        have g4 := Lib.frozen_of_heap hra.res 4
        have c0 := Lib.cell_of_heap hra.res 0
        have c1 := Lib.cell_of_heap hra.res 1
        have c2 := Lib.cell_of_heap hra.res 2
        have c3 := Lib.cell_of_heap hra.res 3
        have c4 := Lib.cell_of_heap hra.res 4
        clear hra
        have HR2 := Lib.hid HRA.out
        have HS2 : Hid (w.heap.size + 1 < w1.heap.size) := Lib.hid (by have := b1.size; have h2 := resW_size w id 1 kind lang a n0 c; omega)
        clear b1 HRA
        go_wp2
        go_loopw [4, 5] (fun vl vk wr => ∃ (k : Nat) (out : List Fld), vk = .int .i64 k ∧ k ≤ n0 ∧ out.length ≤ 2 * k ∧ Hid (U = out ++ upL 1 (l.drop k)) ∧ Hid (OwnF wr w1.heap.size vl out) ∧ Hid (Below w1.heap.size w1 wr)) (fun _ vk _ => n0 - (intOf vk).toNat)
        case atStart => exact ⟨0, [], rfl, by omega, by simp, Lib.hid (by rw [HU.out]; simp), Lib.hid (World.ownsRow_made w1 #[] 0 (Nat.le_refl _) (Nat.zero_le _) (by simp)), Lib.hid ((Below.refl _ _).alloc (Nat.le_refl _) _)⟩
        case round =>
          obtain ⟨k, out, rfl, hk, hol, HK, HO, HB⟩ := hrel
          have HBW := Lib.hid (HW1.out.bt HB.out)
          have hra := HR2.out.below HB.out HS2.out
          obtain ⟨q0, q1, q2, q3, q4⟩ := hra.five
          have HRA := Lib.hid hra
          clear hra
          by_cases hlt : k < n0
          · have hltz : (k : Int) < (n0 : Int) := by omega
            obtain ⟨f, hf⟩ : ∃ f, l[k]? = some f := ⟨_, List.getElem?_eq_getElem (by have := HN.out; omega)⟩
            rcases HCL.out with h0 | ⟨b, o, rfl, hbl, hcl⟩
            · omega
            obtain ⟨p0, p1, p2, p3⟩ := (hcl k f hf).below HBW.out hbl
            have hif := HIN.out f (List.mem_of_getElem? hf)
            have hst := HK.out
            rw [upL_step 1 hf, ← List.append_assoc] at hst
            have e1 := lb_beq f.tag t260
            rw [lb_list t260] at e1
            have HFR := Lib.hid (Below.alloc (Below.refl wr.heap.size wr) (Nat.le_refl _) (.cells #[.string (lb f.tag), .string (lb f.ind), .slice f.sa f.subs.length f.sc, .int .i64 f.auth] 41))
            have HBA : Hid (Below w1.heap.size w1 (fldW wr (lb f.tag) (lb f.ind) f.sa f.subs.length f.sc f.auth)) := Lib.hid (HB.out.alloc HB.out.size _)
            have HOA : Hid (OwnF (fldW wr (lb f.tag) (lb f.ind) f.sa f.subs.length f.sc f.auth) w1.heap.size u4 out) := Lib.hid (HO.out.below HFR.out)
            have hrl := raise_len 1 f
            obtain ⟨N, hN⟩ : ∃ N, N = raise 1 f := ⟨_, rfl⟩
            rw [← hN] at hst hrl
            have HST := Lib.hid hst
            have HF4 : Hid (∀ (x y : ByteArray) (O : Obj), x = lb f.tag → y = lb f.ind → ∀ sn, sn = f.subs.length → ∀ j u, (flatE fldE [f])[j]? = some u → ((wr.alloc O).alloc (.cells #[.string x, .string y, .slice f.sa sn f.sc, .int .i64 f.auth] 41)).cell? ((⟨wr.heap.size + 1, 0, none⟩ : Addr).add j) = some u) := Lib.hid (fun x y O hx hy sn hs => cells_one (four_new2 wr O _ f x y hx hy sn hs))
            have HT := Lib.hid (ind_take f.ind 49 ⟨#[49]⟩ rfl)
            have HT1 := Lib.hid (ind_drop f.ind 49 ⟨#[49]⟩ 2 hif.symm rfl)
            have HT2 := Lib.hid (ind_drop f.ind 32 ⟨#[32]⟩ 2 hif.symm rfl)
            have hsz : (lb f.ind).size = 2 := by rw [lb_size, hif]
            obtain ⟨T, hT⟩ : ∃ T, T = lb f.tag := ⟨_, rfl⟩
            obtain ⟨I, hI⟩ : ∃ I, I = lb f.ind := ⟨_, rfl⟩
            obtain ⟨sn, hsn⟩ : ∃ sn, sn = f.subs.length := ⟨_, rfl⟩
            rw [← hT] at p0 e1 HOA HFR HBA
            rw [← hI] at p1 HOA HFR HBA HT HT1 HT2 hsz
            rw [← hsn] at p2 HOA HFR HBA
            have z1 : (1 : Int) ≤ ((I.size : Nat) : Int) := by omega
            have z0 : (0 : Int) ≤ 1 := by omega
            have HTI := Lib.hid (And.intro hT (And.intro hI hsn))
            obtain ⟨r0, r1, r2, r3, r4⟩ := (HR2.out.below HBA.out HS2.out).five
            by_cases a1 : f.tag = t260
            · have b1 : (T.toList == [50, 54, 48]) = true := e1.trans (by rw [a1]; simp)
              have hN1 : N = [withF f t264 (f.ind.take 1 ++ [49]) f.auth] := by rw [hN]; unfold raise; rw [if_pos ⟨rfl, a1⟩]
              have HN1 := Lib.hid hN1
              clear hst hcl hf e1 a1 hN hN1 hT hI hsn HK HFR hif
              have HO3 : Hid (OwnF (fldW wr T I f.sa sn f.sc f.auth).drew w1.heap.size u4 out) := Lib.hid (HOA.out.below (Below.refl _ _).drew)
              have HB3 : Hid (Below w1.heap.size w1 (fldW wr T I f.sa sn f.sc f.auth).drew) := Lib.hid HBA.out.drew
              have HX3 : Hid (Below (fldW wr T I f.sa sn f.sc f.auth).heap.size (fldW wr T I f.sa sn f.sc f.auth) (fldW wr T I f.sa sn f.sc f.auth).drew) := Lib.hid (Below.refl _ _).drew
              go_wp2_with fail
              go_region_law (first
                    | (refine step_append_flds rfl (.tmp 36) (.tmp 45) rfl w1.heap.size u4 out ?_ (HO3.out.below ((Below.refl _ _).alloc (Nat.le_refl _) _)) ⟨w3.heap.size, 0, none⟩ 1 1 [withF f t264 (f.ind.take 1 ++ [49]) f.auth] ?_ rfl (cells_one (four_new w3 _ (withF f t264 (f.ind.take 1 ++ [49]) f.auth) _ _ rfl HT.out _ HTI.out.2.2)) ?_ ?_ ?_
                       rfl
                       rfl
                       omega
                       exact (HB3.out.alloc HB3.out.size _).size
                       intro v4 w4 hown hb4
                       have HO4 : Hid (OwnF w4 w1.heap.size v4 (out ++ N)) := Lib.hid (by rw [HN1.out]; exact hown)
                       have HB4 : Hid (Below w1.heap.size w1 w4) := Lib.hid ((HB3.out.alloc HB3.out.size _).trans hb4)
                       clear hown hb4)
                    | (go_simp
                       go_at_call 36
                       refine (rWith _ _ _ _ _ _ _ _ _ _).mono ?_
                       rintro e w3 ⟨rfl, b3⟩
                       replace HO3 := Lib.hid (HO3.out.below b3)
                       replace HB3 := Lib.hid (HB3.out.trans (b3.mono HB3.out.size))
                       replace HX3 := Lib.hid (HX3.out.trans (b3.mono HX3.out.size))
                       have s0 := block_cells HX3.out 0 (.string T) rfl
                       have s1 := block_cells HX3.out 1 (.string I) rfl
                       have s2 := block_cells HX3.out 2 (.slice f.sa sn f.sc) rfl
                       have s3 := block_cells HX3.out 3 (.int .i64 f.auth) rfl
                       clear b3))
              all_goals go_wp2
              all_goals go_roundw
              all_goals first
                | exact ⟨k + 1, out ++ N, by go_num, by omega, by rw [List.length_append]; omega, HST, HO4, HB4⟩
                | (simp [intOf]; omega)
            · have b1 : (T.toList == [50, 54, 48]) = false := e1.trans (by simpa using a1)
              have hN1 : N = [f] := by rw [hN]; unfold raise; rw [if_neg (fun h => a1 h.2), if_neg (fun h => by cases h.1)]
              have HN1 := Lib.hid hN1
              clear hst hcl hf e1 a1 hN hN1 hT hI hsn HK HFR hif
              go_wp2_with (at_builtin; refine append_flds rfl _ _ rfl w1.heap.size u4 out rfl (HOA.out.below ((Below.refl _ _).alloc (Nat.le_refl _) _)) ⟨wr.heap.size + 1, 0, none⟩ 1 1 [f] rfl rfl (HF4.out T I _ HTI.out.1 HTI.out.2.1 sn HTI.out.2.2) (by omega) (by have := HBA.out.size; simp at this ⊢; omega) ?_)
              intro v3 w3 hown hb3
              have HO3 : Hid (OwnF w3 w1.heap.size v3 (out ++ N)) := Lib.hid (by rw [HN1.out]; exact hown)
              have HB3 : Hid (Below w1.heap.size w1 w3) := Lib.hid ((HBA.out.alloc HBA.out.size _).trans hb3)
              clear hown hb3
              go_wp2
              go_roundw
              case rel => exact ⟨k + 1, out ++ N, by go_num, by omega, by rw [List.length_append]; omega, HST, HO3, HB3⟩
              case measure => simp [intOf]; omega
          · have hltz : ¬ (k : Int) < (n0 : Int) := by omega
            have hUo : U = out := by
              rw [HK.out, List.drop_eq_nil_of_le (by have := HN.out; omega)]
              simp [upL]
            obtain ⟨va, vc, rfl⟩ := HO.out.val
            have HUO := Lib.hid hUo
            have hra := HRA.out
            have f1 := Lib.frozen_of_heap hra.par 1
            have f4 := Lib.frozen_of_heap hra.par 4
            have g0 := Lib.frozen_of_heap hra.res 0
            have g1 := Lib.frozen_of_heap hra.res 1
            have g2 := Lib.frozen_of_heap hra.res 2
            have g3 := Lib.frozen_of_heap hra.res 3
            have g4 := Lib.frozen_of_heap hra.res 4
            have c0 := Lib.cell_of_heap hra.res 0
            have c1 := Lib.cell_of_heap hra.res 1
            have c2 := Lib.cell_of_heap hra.res 2
            have c3 := Lib.cell_of_heap hra.res 3
            have c4 := Lib.cell_of_heap hra.res 4
            obtain ⟨m, hm⟩ : ∃ m, m = out.length := ⟨_, rfl⟩
            have HMM := Lib.hid hm
            rw [← hm]
            by_cases h64 : 64 < m
            · have h64z : (64 : Int) < (m : Int) := by omega
              have hX := HX.out
              rw [if_pos (by rw [hUo, ← hm]; exact h64)] at hX
              have HXE := Lib.hid hX
              clear hUo hm hra HK hX
              go_wp2
              (try simp only [Exit.inBlock, Exit.then])
              have S5 := five_put (id := 0) (ver := 0) (kind := 0) (lang := ⟨#[]⟩) (s := .slice none 0 0) HRA.out.some
              have B5 : Below w.heap.size w (put5 wr (w.heap.size + 1) 0 0 0 ⟨#[]⟩ (.slice none 0 0)) := below_put5 HBW.out (Nat.le_succ _)
              change bodyPost _ _ _ _ _ (put5 wr (w.heap.size + 1) 0 0 0 ⟨#[]⟩ (.slice none 0 0))
              generalize put5 wr (w.heap.size + 1) 0 0 0 ⟨#[]⟩ (.slice none 0 0) = w9 at S5 B5 ⊢
              rw [HXE.out]
              exact bodyPost_ret (results_rec rfl _ w9 (w.heap.size + 1) 0 0 0 ⟨#[]⟩ (.slice none 0 0) rfl S5) rfl ⟨_, rfl, recV_zero w9, B5⟩
            · have h64z : (m : Int) ≤ 64 := by omega
              have hX := HX.out
              rw [if_neg (by rw [hUo, ← hm]; exact h64)] at hX
              have HXE := Lib.hid hX
              clear hUo hm hra HK hX
              go_wp2
              (try simp only [Exit.inBlock, Exit.then])
              obtain ⟨w7, hw7⟩ : ∃ w7, w7 = (wr.setCell ⟨w.heap.size, 4, none⟩ (.slice va m vc)).setCell ⟨w.heap.size, 1, none⟩ (.int .i64 2) := ⟨_, rfl⟩
              have hs7 : w7.heap.size = wr.heap.size := by rw [hw7]; simp [World.setCell]
              have hc7 : ∀ g i, w.heap.size + 1 < g → (put5 w7 (w.heap.size + 1) id 2 kind lang (.slice va m vc)).cell? ⟨g, i, none⟩ = wr.cell? ⟨g, i, none⟩ := fun g i h => by
                rw [put5_away (by omega), hw7, cell_away (by omega), cell_away (by omega)]
              have hsm : ∀ j, j < 5 → (w7.cell? ⟨w.heap.size + 1, j, none⟩).isSome = true := fun j hj => by
                rw [hw7, cell_away (by omega), cell_away (by omega)]
                exact HRA.out.some j hj
              have B7 : Below w.heap.size w w7 := by
                rw [hw7]
                exact (HBW.out.setCell (p := ⟨w.heap.size, 4, none⟩) (Nat.le_refl _) _).setCell (p := ⟨w.heap.size, 1, none⟩) (Nat.le_refl _) _
              have S5 := five_put (id := id) (ver := 2) (kind := kind) (lang := lang) (s := .slice va m vc) hsm
              have B5 : Below w.heap.size w (put5 w7 (w.heap.size + 1) id 2 kind lang (.slice va m vc)) := below_put5 B7 (Nat.le_succ _)
              have F5 : Flds (put5 w7 (w.heap.size + 1) id 2 kind lang (.slice va m vc)) (.slice va m vc) U := by
                rw [HUO.out]
                have hu := HUF.out
                rw [HUO.out] at hu
                have ho := HO.out
                rw [← HMM.out] at ho
                refine flds_own ho (by rw [put5_size, hs7]; exact Nat.le_refl _) (fun g i h => hc7 g i ?_) hu B5
                have := HS2.out
                omega
              rw [← hw7]
              change bodyPost _ _ _ _ _ (put5 w7 (w.heap.size + 1) id 2 kind lang (.slice va m vc))
              generalize put5 w7 (w.heap.size + 1) id 2 kind lang (.slice va m vc) = w9 at S5 B5 F5 ⊢
              rw [HXE.out]
              exact bodyPost_ret (results_rec rfl _ w9 (w.heap.size + 1) id 2 kind lang (.slice va m vc) rfl S5) rfl ⟨_, rfl, ⟨va, m, vc, rfl, F5⟩, B5⟩
      · go_enter Tryd.func14, Tryd.ntmps14
        go_wp2_with fail
        refine HRR.out.mono ?_
        rintro e w1 ⟨rfl, b1⟩
        have HB1 := Lib.hid b1
        have HW1 := Lib.hid (HB0.out.bt b1)
        have hra := HRES.out w1 b1
        have HRA := Lib.hid hra
        obtain ⟨q0, q1, q2, q3, q4⟩ := hra.five
        have f0 := Lib.frozen_of_heap hra.par 0
        have f1 := Lib.frozen_of_heap hra.par 1
        have f4 := Lib.frozen_of_heap hra.par 4
        have g0 := Lib.frozen_of_heap hra.res 0
        have g1 := Lib.frozen_of_heap hra.res 1
        have g2 := Lib.frozen_of_heap hra.res 2
        have g3 := Lib.frozen_of_heap hra.res 3
        have g4 := Lib.frozen_of_heap hra.res 4
        have c0 := Lib.cell_of_heap hra.res 0
        have c1 := Lib.cell_of_heap hra.res 1
        have c2 := Lib.cell_of_heap hra.res 2
        have c3 := Lib.cell_of_heap hra.res 3
        have c4 := Lib.cell_of_heap hra.res 4
        clear hra
        have HR2 := Lib.hid HRA.out
        have HS2 : Hid (w.heap.size + 1 < w1.heap.size) := Lib.hid (by have := b1.size; have h2 := resW_size w id 2 kind lang a n0 c; omega)
        clear b1 HRA
        go_wp2
        go_loopw [4, 5] (fun vl vk wr => ∃ (k : Nat) (out : List Fld), vk = .int .i64 k ∧ k ≤ n0 ∧ out.length ≤ 2 * k ∧ Hid (U = out ++ upL 2 (l.drop k)) ∧ Hid (OwnF wr w1.heap.size vl out) ∧ Hid (Below w1.heap.size w1 wr)) (fun _ vk _ => n0 - (intOf vk).toNat)
        case atStart => exact ⟨0, [], rfl, by omega, by simp, Lib.hid (by rw [HU.out]; simp), Lib.hid (World.ownsRow_made w1 #[] 0 (Nat.le_refl _) (Nat.zero_le _) (by simp)), Lib.hid ((Below.refl _ _).alloc (Nat.le_refl _) _)⟩
        case round =>
          obtain ⟨k, out, rfl, hk, hol, HK, HO, HB⟩ := hrel
          have HBW := Lib.hid (HW1.out.bt HB.out)
          have hra := HR2.out.below HB.out HS2.out
          obtain ⟨q0, q1, q2, q3, q4⟩ := hra.five
          have HRA := Lib.hid hra
          clear hra
          by_cases hlt : k < n0
          · have hltz : (k : Int) < (n0 : Int) := by omega
            obtain ⟨f, hf⟩ : ∃ f, l[k]? = some f := ⟨_, List.getElem?_eq_getElem (by have := HN.out; omega)⟩
            rcases HCL.out with h0 | ⟨b, o, rfl, hbl, hcl⟩
            · omega
            obtain ⟨p0, p1, p2, p3⟩ := (hcl k f hf).below HBW.out hbl
            have hif := HIN.out f (List.mem_of_getElem? hf)
            have hst := HK.out
            rw [upL_step 2 hf, ← List.append_assoc] at hst
            have e1 := lb_beq f.tag t440
            rw [lb_list t440] at e1
            have HFR := Lib.hid (Below.alloc (Below.refl wr.heap.size wr) (Nat.le_refl _) (.cells #[.string (lb f.tag), .string (lb f.ind), .slice f.sa f.subs.length f.sc, .int .i64 f.auth] 41))
            have HBA : Hid (Below w1.heap.size w1 (fldW wr (lb f.tag) (lb f.ind) f.sa f.subs.length f.sc f.auth)) := Lib.hid (HB.out.alloc HB.out.size _)
            have HOA : Hid (OwnF (fldW wr (lb f.tag) (lb f.ind) f.sa f.subs.length f.sc f.auth) w1.heap.size u4 out) := Lib.hid (HO.out.below HFR.out)
            have hrl := raise_len 2 f
            obtain ⟨N, hN⟩ : ∃ N, N = raise 2 f := ⟨_, rfl⟩
            rw [← hN] at hst hrl
            have HST := Lib.hid hst
            have HF4 : Hid (∀ (x y : ByteArray) (O : Obj), x = lb f.tag → y = lb f.ind → ∀ sn, sn = f.subs.length → ∀ j u, (flatE fldE [f])[j]? = some u → ((wr.alloc O).alloc (.cells #[.string x, .string y, .slice f.sa sn f.sc, .int .i64 f.auth] 41)).cell? ((⟨wr.heap.size + 1, 0, none⟩ : Addr).add j) = some u) := Lib.hid (fun x y O hx hy sn hs => cells_one (four_new2 wr O _ f x y hx hy sn hs))
            have HT := Lib.hid (ind_take f.ind 49 ⟨#[49]⟩ rfl)
            have HT1 := Lib.hid (ind_drop f.ind 49 ⟨#[49]⟩ 2 hif.symm rfl)
            have HT2 := Lib.hid (ind_drop f.ind 32 ⟨#[32]⟩ 2 hif.symm rfl)
            have hsz : (lb f.ind).size = 2 := by rw [lb_size, hif]
            obtain ⟨T, hT⟩ : ∃ T, T = lb f.tag := ⟨_, rfl⟩
            obtain ⟨I, hI⟩ : ∃ I, I = lb f.ind := ⟨_, rfl⟩
            obtain ⟨sn, hsn⟩ : ∃ sn, sn = f.subs.length := ⟨_, rfl⟩
            rw [← hT] at p0 e1 HOA HFR HBA
            rw [← hI] at p1 HOA HFR HBA HT HT1 HT2 hsz
            rw [← hsn] at p2 HOA HFR HBA
            have z1 : (1 : Int) ≤ ((I.size : Nat) : Int) := by omega
            have z0 : (0 : Int) ≤ 1 := by omega
            have HTI := Lib.hid (And.intro hT (And.intro hI hsn))
            obtain ⟨r0, r1, r2, r3, r4⟩ := (HR2.out.below HBA.out HS2.out).five
            by_cases a1 : f.tag = t440
            · have b1 : (T.toList == [52, 52, 48]) = true := e1.trans (by rw [a1]; simp)
              have hN1 : N = [withF f t490 (49 :: f.ind.drop 1) 0, withF f t830 (32 :: f.ind.drop 1) f.auth] := by rw [hN]; unfold raise; rw [if_neg (fun h => by cases h.1), if_pos ⟨rfl, a1⟩]
              have HN1 := Lib.hid hN1
              have hnl : N.length = 2 := by rw [hN1]; rfl
              clear hst hcl hf e1 a1 hN hN1 hT hI hsn HK HFR hif
              have HFC : Hid (FC (fldW wr T I f.sa sn f.sc f.auth) wr.heap.size T I (.slice f.sa sn f.sc) f.auth) := Lib.hid ⟨by rw [World.size_alloc]; exact Nat.lt_succ_self _, block_cells (Below.refl _ _) 0 _ rfl, block_cells (Below.refl _ _) 1 _ rfl, block_cells (Below.refl _ _) 2 _ rfl, block_cells (Below.refl _ _) 3 _ rfl⟩
              have HNE : Hid (u4.ownBlock ≠ some wr.heap.size) := Lib.hid (fun e => Nat.lt_irrefl _ (World.ownsRow.lt HO.out _ e).2)
              go_wp2_with fail
              refine wp_region_inv (by kernel_rfl) (fun listed a w' => ∃ xs : Nat → Value, a = ⟨#[.agg #[.int .i64 id, .int .i64 2, .int .i64 kind, .string lang, .slice (some ⟨b, o, none⟩) n0 c], .pointer (some ⟨w.heap.size, 0, none⟩), .pointer (some ⟨w.heap.size + 1, 0, none⟩), .int .i64 0, xs 4, .int .i64 (k : Int), .pointer (some ⟨wr.heap.size, 0, none⟩), .agg #[.int .i64 id, .int .i64 2, .int .i64 kind, .string lang, .slice (some ⟨b, o, none⟩) n0 c], .bool true, .bool false, undef, .pointer (some ⟨w.heap.size, 1, none⟩), .int .i64 2, .bool false, undef, .slice (some ⟨w1.heap.size, 0, none⟩) 0 0, .int .i64 (k : Int), .pointer (some ⟨w.heap.size, 4, none⟩), .slice (some ⟨b, o, none⟩) n0 c, .int .i64 (n0 : Int), .bool true, u21, u22, .pointer (some ⟨w.heap.size, 4, none⟩), .slice (some ⟨b, o, none⟩) n0 c, .int .i64 (k : Int), .pointer (some ⟨b, o + k * 4, none⟩), .agg #[.string T, .string I, .slice f.sa sn f.sc, .int .i64 f.auth], .pointer (some ⟨w.heap.size, 1, none⟩), .int .i64 2, .bool false, .bool false, undef, undef, undef, .bool false, u36, u37, u38, u39, u40, u41, u42, u43, u44, u45, u46, .pointer (some ⟨w.heap.size, 1, none⟩), .int .i64 2, .bool true, .bool true, .pointer (some ⟨wr.heap.size, 0, none⟩), .string T, .bool true, .bool true, xs 55, xs 56, xs 57, xs 58, xs 59, xs 60, xs 61, xs 62, xs 63, xs 64, xs 65, xs 66, xs 67, xs 68, xs 69, xs 70, xs 71, u72, u73, u74, u75, undef, undef, undef, undef, undef, undef, undef, undef, undef, undef, undef], []⟩ ∧ UpI w1 u4 out N wr.heap.size T I (⟨#[49]⟩ ++ I.extract 1 2) (⟨#[32]⟩ ++ I.extract 1 2) f.sa sn f.sc f.auth listed xs w') ?start ?step ?done
              case start =>
                refine ⟨fun k => if k = 4 then u4 else if k = 55 then u55 else if k = 56 then u56 else if k = 57 then u57 else if k = 58 then u58 else if k = 59 then u59 else if k = 60 then u60 else if k = 61 then u61 else if k = 62 then u62 else if k = 63 then u63 else if k = 64 then u64 else if k = 65 then u65 else if k = 66 then u66 else if k = 67 then u67 else if k = 68 then u68 else if k = 69 then u69 else if k = 70 then u70 else u71, rfl, UpI.start ?_ HBA.out.drew (HFC.out.below (Below.refl _ _).drew) (HOA.out.below (Below.refl _ _).drew) rfl⟩
                exact fun m hm => (by simp [Array.getD, hm] : (Array.replicate 18 false).getD m true = false)
              case done =>
                rintro listed a w4 hs ⟨xs, rfl, R⟩ h0
                have hall := all_listed (by kernel_rfl) hs h0
                have e4 := R.fin (hall 17)
                have HO4 : Hid (OwnF w4 w1.heap.size (xs 4) (out ++ N)) := Lib.hid (by rw [e4]; exact R.app (hall 16))
                have HB4 := Lib.hid R.bel
                clear R hs hall e4 h0
                go_wp2
                go_roundw
                case rel => exact ⟨k + 1, out ++ N, by go_num, by omega, by rw [List.length_append]; omega, HST, HO4, HB4⟩
                case measure => simp [intOf]; omega
              case step =>
                rintro listed a w' i hs ⟨xs, rfl, R⟩ hi
                have hi18 : i < 18 := by
                  obtain ⟨-, o, ho, -⟩ := mem_ready.1 hi
                  exact (Array.getElem?_eq_some_iff.1 ho).1
                have RR := Lib.hid R
                obtain ⟨-, q0, q1, q2, q3⟩ := R.fc
                clear R HST HOA HBA HO HB HBW
                have hcases : i = 0 ∨ i = 1 ∨ i = 2 ∨ i = 3 ∨ i = 4 ∨ i = 5 ∨ i = 6 ∨ i = 7 ∨ i = 8 ∨ i = 9 ∨ i = 10 ∨ i = 11 ∨ i = 12 ∨ i = 13 ∨ i = 14 ∨ i = 15 ∨ i = 16 ∨ i = 17 := by omega
                rcases hcases with rfl | rfl | rfl | rfl | rfl | rfl | rfl | rfl | rfl | rfl | rfl | rfl | rfl | rfl | rfl | rfl | rfl | rfl
                · have f4 : xs 4 = u4 := by
                    cases h : listed.getD 17 true with
                    | false => exact RR.out.old h
                    | true => exact absurd (RR.out.zer (RR.out.ord h)) (by rw [(mem_ready.1 hi).1]; simp)
                  refine wpOp_step rfl (fun K hK => ?_)
                  simp only [f4]
                  go_simp
                  exact hK _ _ ⟨fun k => if k = 55 then u4 else xs k, by simp [f4], RR.out.next 0 55 (u4) (Below.refl _ _) (by decide) (by decide) (by decide) (by decide) (by decide) (by decide) (.inr ⟨rfl, rfl⟩) (.inl ⟨by decide, by decide⟩) (.inl ⟨by decide, by decide⟩) (.inl ⟨by decide, by decide⟩) (.inl ⟨by decide, by decide⟩) (.inl ⟨by decide, by decide⟩) (.inl ⟨by decide, by decide⟩) (.inl ⟨by decide, by decide⟩) (.inl ⟨by decide, by decide⟩) (.inl ⟨by decide, by decide⟩) (.inl ⟨by decide, by decide⟩) (.inl ⟨by decide, by decide⟩) (.inl ⟨by decide, by decide⟩) (.inl ⟨by decide, by decide⟩) (.inl ⟨by decide, by decide⟩)⟩
                · refine wpOp_step rfl (fun K hK => ?_)
                  go_simp
                  exact hK _ _ ⟨fun k => if k = 56 then .agg #[.string T, .string I, .slice f.sa sn f.sc, .int .i64 f.auth] else xs k, by simp, RR.out.next 1 56 (.agg #[.string T, .string I, .slice f.sa sn f.sc, .int .i64 f.auth]) (Below.refl _ _) (by decide) (by decide) (by decide) (by decide) (by decide) (by decide) (.inl ⟨by decide, by decide⟩) (.inr ⟨rfl, rfl⟩) (.inl ⟨by decide, by decide⟩) (.inl ⟨by decide, by decide⟩) (.inl ⟨by decide, by decide⟩) (.inl ⟨by decide, by decide⟩) (.inl ⟨by decide, by decide⟩) (.inl ⟨by decide, by decide⟩) (.inl ⟨by decide, by decide⟩) (.inl ⟨by decide, by decide⟩) (.inl ⟨by decide, by decide⟩) (.inl ⟨by decide, by decide⟩) (.inl ⟨by decide, by decide⟩) (.inl ⟨by decide, by decide⟩) (.inl ⟨by decide, by decide⟩)⟩
                · refine wpOp_step rfl (fun K hK => ?_)
                  go_simp
                  exact hK _ _ ⟨fun k => if k = 57 then .pointer (some ⟨wr.heap.size, 1, none⟩) else xs k, by simp, RR.out.next 2 57 (.pointer (some ⟨wr.heap.size, 1, none⟩)) (Below.refl _ _) (by decide) (by decide) (by decide) (by decide) (by decide) (by decide) (.inl ⟨by decide, by decide⟩) (.inl ⟨by decide, by decide⟩) (.inr ⟨rfl, rfl⟩) (.inl ⟨by decide, by decide⟩) (.inl ⟨by decide, by decide⟩) (.inl ⟨by decide, by decide⟩) (.inl ⟨by decide, by decide⟩) (.inl ⟨by decide, by decide⟩) (.inl ⟨by decide, by decide⟩) (.inl ⟨by decide, by decide⟩) (.inl ⟨by decide, by decide⟩) (.inl ⟨by decide, by decide⟩) (.inl ⟨by decide, by decide⟩) (.inl ⟨by decide, by decide⟩) (.inl ⟨by decide, by decide⟩)⟩
                · have f57 : xs 57 = .pointer (some ⟨wr.heap.size, 1, none⟩) := RR.out.l2 (waited hi (by kernel_rfl))
                  refine wpOp_step rfl (fun K hK => ?_)
                  simp only [f57]
                  go_simp
                  exact hK _ _ ⟨fun k => if k = 58 then .string I else xs k, by simp [f57], RR.out.next 3 58 (.string I) (Below.refl _ _) (by decide) (by decide) (by decide) (by decide) (by decide) (by decide) (.inl ⟨by decide, by decide⟩) (.inl ⟨by decide, by decide⟩) (.inl ⟨by decide, by decide⟩) (.inr ⟨rfl, rfl⟩) (.inl ⟨by decide, by decide⟩) (.inl ⟨by decide, by decide⟩) (.inl ⟨by decide, by decide⟩) (.inl ⟨by decide, by decide⟩) (.inl ⟨by decide, by decide⟩) (.inl ⟨by decide, by decide⟩) (.inl ⟨by decide, by decide⟩) (.inl ⟨by decide, by decide⟩) (.inl ⟨by decide, by decide⟩) (.inl ⟨by decide, by decide⟩) (.inl ⟨by decide, by decide⟩)⟩
                · have f58 : xs 58 = .string I := RR.out.l3 (waited hi (by kernel_rfl))
                  refine wpOp_step rfl (fun K hK => ?_)
                  simp only [f58]
                  go_simp
                  exact hK _ _ ⟨fun k => if k = 59 then .string (I.extract 1 2) else xs k, by simp [f58], RR.out.next 4 59 (.string (I.extract 1 2)) (Below.refl _ _) (by decide) (by decide) (by decide) (by decide) (by decide) (by decide) (.inl ⟨by decide, by decide⟩) (.inl ⟨by decide, by decide⟩) (.inl ⟨by decide, by decide⟩) (.inl ⟨by decide, by decide⟩) (.inr ⟨rfl, rfl⟩) (.inl ⟨by decide, by decide⟩) (.inl ⟨by decide, by decide⟩) (.inl ⟨by decide, by decide⟩) (.inl ⟨by decide, by decide⟩) (.inl ⟨by decide, by decide⟩) (.inl ⟨by decide, by decide⟩) (.inl ⟨by decide, by decide⟩) (.inl ⟨by decide, by decide⟩) (.inl ⟨by decide, by decide⟩) (.inl ⟨by decide, by decide⟩)⟩
                · have f59 : xs 59 = .string (I.extract 1 2) := RR.out.l4 (waited hi (by kernel_rfl))
                  refine wpOp_step rfl (fun K hK => ?_)
                  simp only [f59]
                  go_simp
                  exact hK _ _ ⟨fun k => if k = 60 then .string (⟨#[49]⟩ ++ I.extract 1 2) else xs k, by simp [f59], RR.out.next 5 60 (.string (⟨#[49]⟩ ++ I.extract 1 2)) (Below.refl _ _) (by decide) (by decide) (by decide) (by decide) (by decide) (by decide) (.inl ⟨by decide, by decide⟩) (.inl ⟨by decide, by decide⟩) (.inl ⟨by decide, by decide⟩) (.inl ⟨by decide, by decide⟩) (.inl ⟨by decide, by decide⟩) (.inr ⟨rfl, rfl⟩) (.inl ⟨by decide, by decide⟩) (.inl ⟨by decide, by decide⟩) (.inl ⟨by decide, by decide⟩) (.inl ⟨by decide, by decide⟩) (.inl ⟨by decide, by decide⟩) (.inl ⟨by decide, by decide⟩) (.inl ⟨by decide, by decide⟩) (.inl ⟨by decide, by decide⟩) (.inl ⟨by decide, by decide⟩)⟩
                · have f56 : xs 56 = .agg #[.string T, .string I, .slice f.sa sn f.sc, .int .i64 f.auth] := RR.out.l1 (waited hi (by kernel_rfl))
                  have f60 : xs 60 = .string (⟨#[49]⟩ ++ I.extract 1 2) := RR.out.l5 (waited hi (by kernel_rfl))
                  refine wpOp_step rfl (fun K hK => ?_)
                  simp only [f56, f60]
                  go_simp
                  refine (rWith _ _ _ _ _ _ _ _ _ _).mono ?_
                  rintro e w'' ⟨rfl, b⟩
                  exact hK _ _ ⟨fun k => if k = 61 then .agg #[.string ⟨#[52, 57, 48]⟩, .string (⟨#[49]⟩ ++ I.extract 1 2), .slice f.sa sn f.sc, .int .i64 0] else xs k, by simp [f56, f60], RR.out.next 6 61 (.agg #[.string ⟨#[52, 57, 48]⟩, .string (⟨#[49]⟩ ++ I.extract 1 2), .slice f.sa sn f.sc, .int .i64 0]) b (by decide) (by decide) (by decide) (by decide) (by decide) (by decide) (.inl ⟨by decide, by decide⟩) (.inl ⟨by decide, by decide⟩) (.inl ⟨by decide, by decide⟩) (.inl ⟨by decide, by decide⟩) (.inl ⟨by decide, by decide⟩) (.inl ⟨by decide, by decide⟩) (.inr ⟨rfl, rfl⟩) (.inl ⟨by decide, by decide⟩) (.inl ⟨by decide, by decide⟩) (.inl ⟨by decide, by decide⟩) (.inl ⟨by decide, by decide⟩) (.inl ⟨by decide, by decide⟩) (.inl ⟨by decide, by decide⟩) (.inl ⟨by decide, by decide⟩) (.inl ⟨by decide, by decide⟩)⟩
                · refine wpOp_step rfl (fun K hK => ?_)
                  go_simp
                  exact hK _ _ ⟨fun k => if k = 62 then .agg #[.string T, .string I, .slice f.sa sn f.sc, .int .i64 f.auth] else xs k, by simp, RR.out.next 7 62 (.agg #[.string T, .string I, .slice f.sa sn f.sc, .int .i64 f.auth]) (Below.refl _ _) (by decide) (by decide) (by decide) (by decide) (by decide) (by decide) (.inl ⟨by decide, by decide⟩) (.inl ⟨by decide, by decide⟩) (.inl ⟨by decide, by decide⟩) (.inl ⟨by decide, by decide⟩) (.inl ⟨by decide, by decide⟩) (.inl ⟨by decide, by decide⟩) (.inl ⟨by decide, by decide⟩) (.inr ⟨rfl, rfl⟩) (.inl ⟨by decide, by decide⟩) (.inl ⟨by decide, by decide⟩) (.inl ⟨by decide, by decide⟩) (.inl ⟨by decide, by decide⟩) (.inl ⟨by decide, by decide⟩) (.inl ⟨by decide, by decide⟩) (.inl ⟨by decide, by decide⟩)⟩
                · refine wpOp_step rfl (fun K hK => ?_)
                  go_simp
                  exact hK _ _ ⟨fun k => if k = 63 then .pointer (some ⟨wr.heap.size, 1, none⟩) else xs k, by simp, RR.out.next 8 63 (.pointer (some ⟨wr.heap.size, 1, none⟩)) (Below.refl _ _) (by decide) (by decide) (by decide) (by decide) (by decide) (by decide) (.inl ⟨by decide, by decide⟩) (.inl ⟨by decide, by decide⟩) (.inl ⟨by decide, by decide⟩) (.inl ⟨by decide, by decide⟩) (.inl ⟨by decide, by decide⟩) (.inl ⟨by decide, by decide⟩) (.inl ⟨by decide, by decide⟩) (.inl ⟨by decide, by decide⟩) (.inr ⟨rfl, rfl⟩) (.inl ⟨by decide, by decide⟩) (.inl ⟨by decide, by decide⟩) (.inl ⟨by decide, by decide⟩) (.inl ⟨by decide, by decide⟩) (.inl ⟨by decide, by decide⟩) (.inl ⟨by decide, by decide⟩)⟩
                · have f63 : xs 63 = .pointer (some ⟨wr.heap.size, 1, none⟩) := RR.out.l8 (waited hi (by kernel_rfl))
                  refine wpOp_step rfl (fun K hK => ?_)
                  simp only [f63]
                  go_simp
                  exact hK _ _ ⟨fun k => if k = 64 then .string I else xs k, by simp [f63], RR.out.next 9 64 (.string I) (Below.refl _ _) (by decide) (by decide) (by decide) (by decide) (by decide) (by decide) (.inl ⟨by decide, by decide⟩) (.inl ⟨by decide, by decide⟩) (.inl ⟨by decide, by decide⟩) (.inl ⟨by decide, by decide⟩) (.inl ⟨by decide, by decide⟩) (.inl ⟨by decide, by decide⟩) (.inl ⟨by decide, by decide⟩) (.inl ⟨by decide, by decide⟩) (.inl ⟨by decide, by decide⟩) (.inr ⟨rfl, rfl⟩) (.inl ⟨by decide, by decide⟩) (.inl ⟨by decide, by decide⟩) (.inl ⟨by decide, by decide⟩) (.inl ⟨by decide, by decide⟩) (.inl ⟨by decide, by decide⟩)⟩
                · have f64 : xs 64 = .string I := RR.out.l9 (waited hi (by kernel_rfl))
                  refine wpOp_step rfl (fun K hK => ?_)
                  simp only [f64]
                  go_simp
                  exact hK _ _ ⟨fun k => if k = 65 then .string (I.extract 1 2) else xs k, by simp [f64], RR.out.next 10 65 (.string (I.extract 1 2)) (Below.refl _ _) (by decide) (by decide) (by decide) (by decide) (by decide) (by decide) (.inl ⟨by decide, by decide⟩) (.inl ⟨by decide, by decide⟩) (.inl ⟨by decide, by decide⟩) (.inl ⟨by decide, by decide⟩) (.inl ⟨by decide, by decide⟩) (.inl ⟨by decide, by decide⟩) (.inl ⟨by decide, by decide⟩) (.inl ⟨by decide, by decide⟩) (.inl ⟨by decide, by decide⟩) (.inl ⟨by decide, by decide⟩) (.inr ⟨rfl, rfl⟩) (.inl ⟨by decide, by decide⟩) (.inl ⟨by decide, by decide⟩) (.inl ⟨by decide, by decide⟩) (.inl ⟨by decide, by decide⟩)⟩
                · have f65 : xs 65 = .string (I.extract 1 2) := RR.out.l10 (waited hi (by kernel_rfl))
                  refine wpOp_step rfl (fun K hK => ?_)
                  simp only [f65]
                  go_simp
                  exact hK _ _ ⟨fun k => if k = 66 then .string (⟨#[32]⟩ ++ I.extract 1 2) else xs k, by simp [f65], RR.out.next 11 66 (.string (⟨#[32]⟩ ++ I.extract 1 2)) (Below.refl _ _) (by decide) (by decide) (by decide) (by decide) (by decide) (by decide) (.inl ⟨by decide, by decide⟩) (.inl ⟨by decide, by decide⟩) (.inl ⟨by decide, by decide⟩) (.inl ⟨by decide, by decide⟩) (.inl ⟨by decide, by decide⟩) (.inl ⟨by decide, by decide⟩) (.inl ⟨by decide, by decide⟩) (.inl ⟨by decide, by decide⟩) (.inl ⟨by decide, by decide⟩) (.inl ⟨by decide, by decide⟩) (.inl ⟨by decide, by decide⟩) (.inr ⟨rfl, rfl⟩) (.inl ⟨by decide, by decide⟩) (.inl ⟨by decide, by decide⟩) (.inl ⟨by decide, by decide⟩)⟩
                · refine wpOp_step rfl (fun K hK => ?_)
                  go_simp
                  exact hK _ _ ⟨fun k => if k = 67 then .pointer (some ⟨wr.heap.size, 3, none⟩) else xs k, by simp, RR.out.next 12 67 (.pointer (some ⟨wr.heap.size, 3, none⟩)) (Below.refl _ _) (by decide) (by decide) (by decide) (by decide) (by decide) (by decide) (.inl ⟨by decide, by decide⟩) (.inl ⟨by decide, by decide⟩) (.inl ⟨by decide, by decide⟩) (.inl ⟨by decide, by decide⟩) (.inl ⟨by decide, by decide⟩) (.inl ⟨by decide, by decide⟩) (.inl ⟨by decide, by decide⟩) (.inl ⟨by decide, by decide⟩) (.inl ⟨by decide, by decide⟩) (.inl ⟨by decide, by decide⟩) (.inl ⟨by decide, by decide⟩) (.inl ⟨by decide, by decide⟩) (.inr ⟨rfl, rfl⟩) (.inl ⟨by decide, by decide⟩) (.inl ⟨by decide, by decide⟩)⟩
                · have f67 : xs 67 = .pointer (some ⟨wr.heap.size, 3, none⟩) := RR.out.l12 (waited hi (by kernel_rfl))
                  refine wpOp_step rfl (fun K hK => ?_)
                  simp only [f67]
                  go_simp
                  exact hK _ _ ⟨fun k => if k = 68 then .int .i64 f.auth else xs k, by simp [f67], RR.out.next 13 68 (.int .i64 f.auth) (Below.refl _ _) (by decide) (by decide) (by decide) (by decide) (by decide) (by decide) (.inl ⟨by decide, by decide⟩) (.inl ⟨by decide, by decide⟩) (.inl ⟨by decide, by decide⟩) (.inl ⟨by decide, by decide⟩) (.inl ⟨by decide, by decide⟩) (.inl ⟨by decide, by decide⟩) (.inl ⟨by decide, by decide⟩) (.inl ⟨by decide, by decide⟩) (.inl ⟨by decide, by decide⟩) (.inl ⟨by decide, by decide⟩) (.inl ⟨by decide, by decide⟩) (.inl ⟨by decide, by decide⟩) (.inl ⟨by decide, by decide⟩) (.inr ⟨rfl, rfl⟩) (.inl ⟨by decide, by decide⟩)⟩
                · have f62 : xs 62 = .agg #[.string T, .string I, .slice f.sa sn f.sc, .int .i64 f.auth] := RR.out.l7 (waited hi (by kernel_rfl))
                  have f66 : xs 66 = .string (⟨#[32]⟩ ++ I.extract 1 2) := RR.out.l11 (waited hi (by kernel_rfl))
                  have f68 : xs 68 = .int .i64 f.auth := RR.out.l13 (waited hi (by kernel_rfl))
                  refine wpOp_step rfl (fun K hK => ?_)
                  simp only [f62, f66, f68]
                  go_simp
                  refine (rWith _ _ _ _ _ _ _ _ _ _).mono ?_
                  rintro e w'' ⟨rfl, b⟩
                  exact hK _ _ ⟨fun k => if k = 69 then .agg #[.string ⟨#[56, 51, 48]⟩, .string (⟨#[32]⟩ ++ I.extract 1 2), .slice f.sa sn f.sc, .int .i64 f.auth] else xs k, by simp [f62, f66, f68], RR.out.next 14 69 (.agg #[.string ⟨#[56, 51, 48]⟩, .string (⟨#[32]⟩ ++ I.extract 1 2), .slice f.sa sn f.sc, .int .i64 f.auth]) b (by decide) (by decide) (by decide) (by decide) (by decide) (by decide) (.inl ⟨by decide, by decide⟩) (.inl ⟨by decide, by decide⟩) (.inl ⟨by decide, by decide⟩) (.inl ⟨by decide, by decide⟩) (.inl ⟨by decide, by decide⟩) (.inl ⟨by decide, by decide⟩) (.inl ⟨by decide, by decide⟩) (.inl ⟨by decide, by decide⟩) (.inl ⟨by decide, by decide⟩) (.inl ⟨by decide, by decide⟩) (.inl ⟨by decide, by decide⟩) (.inl ⟨by decide, by decide⟩) (.inl ⟨by decide, by decide⟩) (.inl ⟨by decide, by decide⟩) (.inr ⟨rfl, rfl⟩)⟩
                · have f61 : xs 61 = .agg #[.string ⟨#[52, 57, 48]⟩, .string (⟨#[49]⟩ ++ I.extract 1 2), .slice f.sa sn f.sc, .int .i64 0] := RR.out.l6 (waited hi (by kernel_rfl))
                  have f69 : xs 69 = .agg #[.string ⟨#[56, 51, 48]⟩, .string (⟨#[32]⟩ ++ I.extract 1 2), .slice f.sa sn f.sc, .int .i64 f.auth] := RR.out.l14 (waited hi (by kernel_rfl))
                  refine wpOp_step rfl (fun K hK => ?_)
                  simp only [f61, f69]
                  go_simp
                  have hsc : SlotCells (w'.alloc (.cells #[.string ⟨#[52, 57, 48]⟩, .string (⟨#[49]⟩ ++ I.extract 1 2), .slice f.sa sn f.sc, .int .i64 0, .string ⟨#[56, 51, 48]⟩, .string (⟨#[32]⟩ ++ I.extract 1 2), .slice f.sa sn f.sc, .int .i64 f.auth] 41)) (.slice (some ⟨w'.heap.size, 0, none⟩) 2 2) N := by
                    rw [HN1.out]
                    exact ⟨w'.heap.size, rfl, fun j u hj => ⟨by rw [World.size_alloc]; exact Nat.lt_succ_self _, two_new w' _ (withF f t490 (49 :: f.ind.drop 1) 0) (withF f t830 (32 :: f.ind.drop 1) f.auth) _ _ _ _ rfl HT1.out rfl HT2.out _ _ HTI.out.2.2 HTI.out.2.2 j u hj⟩⟩
                  exact hK _ _ ⟨fun k => if k = 70 then .slice (some ⟨w'.heap.size, 0, none⟩) 2 2 else xs k, by simp [f61, f69], RR.out.built _ ((Below.refl _ _).alloc (Nat.le_refl _) _) hsc⟩
                · have h16 : listed.getD 16 true = false := (mem_ready.1 hi).1
                  obtain ⟨b3, hb3, hc3⟩ := RR.out.bld (waited hi (by kernel_rfl)) h16
                  have f55 : xs 55 = u4 := RR.out.l0 (waited hi (by kernel_rfl))
                  refine wpOp_step rfl (fun K hK => ?_)
                  refine step_append_grow rfl (.tmp 55) (.tmp 70) rfl w1.heap.size u4 out ?_ (RR.out.row h16) ⟨b3, 0, none⟩ N.length N.length N ?_ rfl (fun j u hj => (hc3 j u hj).2) (by omega) RR.out.bel.size ?_
                  · exact f55
                  · exact hb3
                  intro v4 w4 hown hb4 hg4
                  exact hK _ _ ⟨fun k => if k = 71 then v4 else xs k, rfl, RR.out.appended v4 h16 (waited hi (by kernel_rfl)) hb4 hg4 HNE.out hown⟩
                · refine wpOp_step rfl (fun K hK => ?_)
                  go_simp
                  exact hK _ _ ⟨fun k => if k = 4 then xs 71 else xs k, by simp, RR.out.assigned (waited hi (by kernel_rfl))⟩
            · have b1 : (T.toList == [52, 52, 48]) = false := e1.trans (by simpa using a1)
              have hN1 : N = [f] := by rw [hN]; unfold raise; rw [if_neg (fun h => by cases h.1), if_neg (fun h => a1 h.2)]
              have HN1 := Lib.hid hN1
              clear hst hcl hf e1 a1 hN hN1 hT hI hsn HK HFR hif
              go_wp2_with (at_builtin; refine append_flds rfl _ _ rfl w1.heap.size u4 out rfl (HOA.out.below ((Below.refl _ _).alloc (Nat.le_refl _) _)) ⟨wr.heap.size + 1, 0, none⟩ 1 1 [f] rfl rfl (HF4.out T I _ HTI.out.1 HTI.out.2.1 sn HTI.out.2.2) (by omega) (by have := HBA.out.size; simp at this ⊢; omega) ?_)
              intro v3 w3 hown hb3
              have HO3 : Hid (OwnF w3 w1.heap.size v3 (out ++ N)) := Lib.hid (by rw [HN1.out]; exact hown)
              have HB3 : Hid (Below w1.heap.size w1 w3) := Lib.hid ((HBA.out.alloc HBA.out.size _).trans hb3)
              clear hown hb3
              go_wp2
              go_roundw
              case rel => exact ⟨k + 1, out ++ N, by go_num, by omega, by rw [List.length_append]; omega, HST, HO3, HB3⟩
              case measure => simp [intOf]; omega
          · have hltz : ¬ (k : Int) < (n0 : Int) := by omega
            have hUo : U = out := by
              rw [HK.out, List.drop_eq_nil_of_le (by have := HN.out; omega)]
              simp [upL]
            obtain ⟨va, vc, rfl⟩ := HO.out.val
            have HUO := Lib.hid hUo
            have hra := HRA.out
            have f1 := Lib.frozen_of_heap hra.par 1
            have f4 := Lib.frozen_of_heap hra.par 4
            have g0 := Lib.frozen_of_heap hra.res 0
            have g1 := Lib.frozen_of_heap hra.res 1
            have g2 := Lib.frozen_of_heap hra.res 2
            have g3 := Lib.frozen_of_heap hra.res 3
            have g4 := Lib.frozen_of_heap hra.res 4
            have c0 := Lib.cell_of_heap hra.res 0
            have c1 := Lib.cell_of_heap hra.res 1
            have c2 := Lib.cell_of_heap hra.res 2
            have c3 := Lib.cell_of_heap hra.res 3
            have c4 := Lib.cell_of_heap hra.res 4
            obtain ⟨m, hm⟩ : ∃ m, m = out.length := ⟨_, rfl⟩
            have HMM := Lib.hid hm
            rw [← hm]
            by_cases h64 : 64 < m
            · have h64z : (64 : Int) < (m : Int) := by omega
              have hX := HX.out
              rw [if_pos (by rw [hUo, ← hm]; exact h64)] at hX
              have HXE := Lib.hid hX
              clear hUo hm hra HK hX
              go_wp2
              (try simp only [Exit.inBlock, Exit.then])
              have S5 := five_put (id := 0) (ver := 0) (kind := 0) (lang := ⟨#[]⟩) (s := .slice none 0 0) HRA.out.some
              have B5 : Below w.heap.size w (put5 wr (w.heap.size + 1) 0 0 0 ⟨#[]⟩ (.slice none 0 0)) := below_put5 HBW.out (Nat.le_succ _)
              change bodyPost _ _ _ _ _ (put5 wr (w.heap.size + 1) 0 0 0 ⟨#[]⟩ (.slice none 0 0))
              generalize put5 wr (w.heap.size + 1) 0 0 0 ⟨#[]⟩ (.slice none 0 0) = w9 at S5 B5 ⊢
              rw [HXE.out]
              exact bodyPost_ret (results_rec rfl _ w9 (w.heap.size + 1) 0 0 0 ⟨#[]⟩ (.slice none 0 0) rfl S5) rfl ⟨_, rfl, recV_zero w9, B5⟩
            · have h64z : (m : Int) ≤ 64 := by omega
              have hX := HX.out
              rw [if_neg (by rw [hUo, ← hm]; exact h64)] at hX
              have HXE := Lib.hid hX
              clear hUo hm hra HK hX
              go_wp2
              (try simp only [Exit.inBlock, Exit.then])
              obtain ⟨w7, hw7⟩ : ∃ w7, w7 = (wr.setCell ⟨w.heap.size, 4, none⟩ (.slice va m vc)).setCell ⟨w.heap.size, 1, none⟩ (.int .i64 3) := ⟨_, rfl⟩
              have hs7 : w7.heap.size = wr.heap.size := by rw [hw7]; simp [World.setCell]
              have hc7 : ∀ g i, w.heap.size + 1 < g → (put5 w7 (w.heap.size + 1) id 3 kind lang (.slice va m vc)).cell? ⟨g, i, none⟩ = wr.cell? ⟨g, i, none⟩ := fun g i h => by
                rw [put5_away (by omega), hw7, cell_away (by omega), cell_away (by omega)]
              have hsm : ∀ j, j < 5 → (w7.cell? ⟨w.heap.size + 1, j, none⟩).isSome = true := fun j hj => by
                rw [hw7, cell_away (by omega), cell_away (by omega)]
                exact HRA.out.some j hj
              have B7 : Below w.heap.size w w7 := by
                rw [hw7]
                exact (HBW.out.setCell (p := ⟨w.heap.size, 4, none⟩) (Nat.le_refl _) _).setCell (p := ⟨w.heap.size, 1, none⟩) (Nat.le_refl _) _
              have S5 := five_put (id := id) (ver := 3) (kind := kind) (lang := lang) (s := .slice va m vc) hsm
              have B5 : Below w.heap.size w (put5 w7 (w.heap.size + 1) id 3 kind lang (.slice va m vc)) := below_put5 B7 (Nat.le_succ _)
              have F5 : Flds (put5 w7 (w.heap.size + 1) id 3 kind lang (.slice va m vc)) (.slice va m vc) U := by
                rw [HUO.out]
                have hu := HUF.out
                rw [HUO.out] at hu
                have ho := HO.out
                rw [← HMM.out] at ho
                refine flds_own ho (by rw [put5_size, hs7]; exact Nat.le_refl _) (fun g i h => hc7 g i ?_) hu B5
                have := HS2.out
                omega
              rw [← hw7]
              change bodyPost _ _ _ _ _ (put5 w7 (w.heap.size + 1) id 3 kind lang (.slice va m vc))
              generalize put5 w7 (w.heap.size + 1) id 3 kind lang (.slice va m vc) = w9 at S5 B5 F5 ⊢
              rw [HXE.out]
              exact bodyPost_ret (results_rec rfl _ w9 (w.heap.size + 1) id 3 kind lang (.slice va m vc) rfl S5) rfl ⟨_, rfl, ⟨va, m, vc, rfl, F5⟩, B5⟩
end Go.Proofs.YtimecccphbgdeaaDoor
