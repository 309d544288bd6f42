/- The walk of the reference's Down (layer 18). -/
import Derived.Test.YtimecccphbgdeaaDoorMdp
namespace Go.Proofs.YtimecccphbgdeaaDoor
open Go Go.RowKit

set_option maxRecDepth 100000 in
set_option maxHeartbeats 8000000 in
theorem rDown (r : Rec) (a : Option Addr) (n0 c : Nat) (w : World) (hv : Flds w (.slice a n0 c) r.fields) (hs : r.small) :
    Calls Tryd.prog 17 #[.agg #[.int .i64 r.id, .int .i64 r.ver, .int .i64 r.kind, .string r.lang, .slice a n0 c]] w (RetRec w (downP r)) := by
  have hb0 : Below w.heap.size w (resW w r.id r.ver r.kind r.lang a n0 c) := ((Below.refl _ _).alloc (Nat.le_refl _) _).alloc (by simp) _
  have hrr := rMRight r a n0 c (resW w r.id r.ver r.kind r.lang a n0 c) (hv.below hb0 (Nat.le_refl _)) hs
  have HFL : Hid (∀ f ∈ r.fields, FldAt w f) := Lib.hid hv.2
  have HV : Hid (∀ W, Below (resW w r.id r.ver r.kind r.lang a n0 c).heap.size (resW w r.id r.ver r.kind r.lang a n0 c) W → Flds W (.slice a n0 c) r.fields) := Lib.hid (fun W h => hv.below (hb0.bt h) (Nat.le_refl _))
  obtain ⟨hn, hn2⟩ := hv.len
  have hss := hs
  obtain ⟨hl, -⟩ := hs
  have HB0 := Lib.hid hb0
  have HRES : Hid (∀ W, Below (resW w r.id r.ver r.kind r.lang a n0 c).heap.size (resW w r.id r.ver r.kind r.lang a n0 c) W → ResAt W w.heap.size r.id r.ver r.kind r.lang (.slice a n0 c)) := Lib.hid (fun W h => resAt_of h)
  have HSM : Hid (∀ f ∈ r.fields, f.subs.length ≤ 1000000) := Lib.hid (fun f hf => (hss.2 f hf).subs)
  clear hb0
  cases hM : rightM r with
  | false =>
    have hu : downP r = (rec0, 12) := by unfold downP; rw [hM, if_pos rfl]
    rw [hu]
    rw [hM] at hrr
    have HRR := Lib.hid hrr
    obtain ⟨id, ver, kind, lang, l⟩ := r
    simp only at HB0 HRES HRR ⊢
    clear hrr hM hu HV HFL hv hss hl hn hn2 HSM
    go_enter Tryd.func17, Tryd.ntmps17
    go_wp2_with fail
    refine HRR.out.mono ?_
    rintro e w1 ⟨rfl, b1⟩
    have HB1 := Lib.hid b1
    have HW1 := Lib.hid (HB0.out.bt b1)
    have hra := HRES.out w1 b1
    have HRA := Lib.hid hra
    obtain ⟨q0, q1, q2, q3, q4⟩ := hra.five
    have f0 := Lib.frozen_of_heap hra.par 0
    have f1 := Lib.frozen_of_heap hra.par 1
    have f4 := Lib.frozen_of_heap hra.par 4
    have g0 := Lib.frozen_of_heap hra.res 0
    have g1 := Lib.frozen_of_heap hra.res 1
    have g2 := Lib.frozen_of_heap hra.res 2
    have g3 := Lib.frozen_of_heap hra.res 3
    have g4 := Lib.frozen_of_heap hra.res 4
    have c0 := Lib.cell_of_heap hra.res 0
    have c1 := Lib.cell_of_heap hra.res 1
    have c2 := Lib.cell_of_heap hra.res 2
    have c3 := Lib.cell_of_heap hra.res 3
    have c4 := Lib.cell_of_heap hra.res 4
    clear hra
    go_wp2
    (try simp only [Exit.inBlock, Exit.then])
    have S5 := five_put (id := 0) (ver := 0) (kind := 0) (lang := ⟨#[]⟩) (s := .slice none 0 0) HRA.out.some
    have B5 : Below w.heap.size w (put5 w1 (w.heap.size + 1) 0 0 0 ⟨#[]⟩ (.slice none 0 0)) := below_put5 HW1.out (Nat.le_succ _)
    change bodyPost _ _ _ _ _ (put5 w1 (w.heap.size + 1) 0 0 0 ⟨#[]⟩ (.slice none 0 0))
    generalize put5 w1 (w.heap.size + 1) 0 0 0 ⟨#[]⟩ (.slice none 0 0) = w9 at S5 B5 ⊢
    exact bodyPost_ret (results_rec rfl _ w9 (w.heap.size + 1) 0 0 0 ⟨#[]⟩ (.slice none 0 0) rfl S5) rfl ⟨_, rfl, recV_zero w9, B5⟩
  | true =>
    rw [hM] at hrr
    have HRR := Lib.hid hrr
    have h0 : recErr r = 0 := by
      by_cases h : recErr r = 0
      · exact h
      · rw [rightM_bad h] at hM; cases hM
    have hcf : conforms r.ver r.fields = true := by rw [← rightM_ok h0]; exact hM
    obtain ⟨-, hver, -, -, h64, hfe⟩ := recErr_ok h0
    have hind : ∀ f ∈ r.fields, f.ind.length = 2 := fun f hf => (fldsErr_ind hfe f hf).1
    clear hrr h0 hfe hss
    by_cases h1 : r.ver = 1
    · have hu : downP r = (rec0, 20) := by unfold downP; rw [hM, if_neg (by simp), if_pos h1]
      rw [hu]
      obtain ⟨id, ver, kind, lang, l⟩ := r
      simp only at HB0 HRES HRR h1 ⊢
      subst h1
      clear hM hu HV HFL hv hl hn hn2 hind h64 hver HSM hcf
      go_enter Tryd.func17, Tryd.ntmps17
      go_wp2_with fail
      refine HRR.out.mono ?_
      rintro e w1 ⟨rfl, b1⟩
      have HB1 := Lib.hid b1
      have HW1 := Lib.hid (HB0.out.bt b1)
      have hra := HRES.out w1 b1
      have HRA := Lib.hid hra
      obtain ⟨q0, q1, q2, q3, q4⟩ := hra.five
      have f0 := Lib.frozen_of_heap hra.par 0
      have f1 := Lib.frozen_of_heap hra.par 1
      have f4 := Lib.frozen_of_heap hra.par 4
      have g0 := Lib.frozen_of_heap hra.res 0
      have g1 := Lib.frozen_of_heap hra.res 1
      have g2 := Lib.frozen_of_heap hra.res 2
      have g3 := Lib.frozen_of_heap hra.res 3
      have g4 := Lib.frozen_of_heap hra.res 4
      have c0 := Lib.cell_of_heap hra.res 0
      have c1 := Lib.cell_of_heap hra.res 1
      have c2 := Lib.cell_of_heap hra.res 2
      have c3 := Lib.cell_of_heap hra.res 3
      have c4 := Lib.cell_of_heap hra.res 4
      clear hra
      go_wp2
      (try simp only [Exit.inBlock, Exit.then])
      have S5 := five_put (id := 0) (ver := 0) (kind := 0) (lang := ⟨#[]⟩) (s := .slice none 0 0) HRA.out.some
      have B5 : Below w.heap.size w (put5 w1 (w.heap.size + 1) 0 0 0 ⟨#[]⟩ (.slice none 0 0)) := below_put5 HW1.out (Nat.le_succ _)
      change bodyPost _ _ _ _ _ (put5 w1 (w.heap.size + 1) 0 0 0 ⟨#[]⟩ (.slice none 0 0))
      generalize put5 w1 (w.heap.size + 1) 0 0 0 ⟨#[]⟩ (.slice none 0 0) = w9 at S5 B5 ⊢
      exact bodyPost_ret (results_rec rfl _ w9 (w.heap.size + 1) 0 0 0 ⟨#[]⟩ (.slice none 0 0) rfl S5) rfl ⟨_, rfl, recV_zero w9, B5⟩
    · have hv23 : r.ver = 2 ∨ r.ver = 3 := by omega
      have hn64 : n0 ≤ 64 := by omega
      obtain ⟨id, ver, kind, lang, l⟩ := r
      simp only at HB0 HRES HRR HV HFL hv23 hn hind HSM hcf ⊢
      have hu : downP ⟨id, ver, kind, lang, l⟩ = downX id ver kind lang (downL ver l) := by
        unfold downP
        rw [hM, if_neg (by simp), if_neg h1]
      rw [hu]
      clear hu
      have HIN := Lib.hid hind
      have HN := Lib.hid hn
      have HCL : Hid (n0 = 0 ∨ ∃ b o, a = some ⟨b, o, none⟩ ∧ b < w.heap.size ∧ ∀ j f, l[j]? = some f → Four w b (o + j * 4) f) := Lib.hid (by
        obtain ⟨⟨a', c', he, -, hx⟩, -⟩ := hv
        cases he
        rcases hx with h | ⟨b, o, ha, hb, hx⟩
        · exact .inl (by rw [h]; rfl)
        · exact .inr ⟨b, o, ha, hb, fun j f hj => four_of (hx j f hj)⟩)
      obtain ⟨D, hD⟩ : ∃ D, D = downL ver l := ⟨_, rfl⟩
      rw [← hD]
      have HD := Lib.hid hD
      have HDF : Hid (∀ d, D = some d → ∀ f ∈ d, FldAt w f) := Lib.hid (fun d hd => down_at l.length l d (Nat.le_refl _) HFL.out (by rw [← hD]; exact hd))
      obtain ⟨X, hX⟩ : ∃ X : Rec × Int, X = downX id ver kind lang D := ⟨_, rfl⟩
      rw [← hX]
      have HX := Lib.hid hX
      have HCF := Lib.hid hcf
      clear hM hv hl hn hind h64 hver h1 hD HV hX hcf
      rcases hv23 with rfl | rfl
      · go_enter Tryd.func17, Tryd.ntmps17
        go_wp2_with fail
        refine HRR.out.mono ?_
        rintro e w1 ⟨rfl, b1⟩
        have HB1 := Lib.hid b1
        have HW1 := Lib.hid (HB0.out.bt b1)
        have hra := HRES.out w1 b1
        have HRA := Lib.hid hra
        obtain ⟨q0, q1, q2, q3, q4⟩ := hra.five
        have f0 := Lib.frozen_of_heap hra.par 0
        have f1 := Lib.frozen_of_heap hra.par 1
        have f4 := Lib.frozen_of_heap hra.par 4
        have g0 := Lib.frozen_of_heap hra.res 0
        have g1 := Lib.frozen_of_heap hra.res 1
        have g2 := Lib.frozen_of_heap hra.res 2
        have g3 := Lib.frozen_of_heap hra.res 3
        have g4 := Lib.frozen_of_heap hra.res 4
        have c0 := Lib.cell_of_heap hra.res 0
        have c1 := Lib.cell_of_heap hra.res 1
        have c2 := Lib.cell_of_heap hra.res 2
        have c3 := Lib.cell_of_heap hra.res 3
        have c4 := Lib.cell_of_heap hra.res 4
        clear hra
        have HR2 := Lib.hid HRA.out
        have HS2 : Hid (w.heap.size + 1 < w1.heap.size) := Lib.hid (by have := b1.size; have h2 := resW_size w id 2 kind lang a n0 c; omega)
        clear b1 HRA
        go_wp2
        go_loopw [4, 5] (fun vl vk wr => ∃ (k : Nat) (out : List Fld), vk = .int .i64 k ∧ k ≤ n0 ∧ out.length ≤ k ∧ Hid (D = some (out ++ (l.drop k).map lower)) ∧ Hid (OwnF wr w1.heap.size vl out) ∧ Hid (Below w1.heap.size w1 wr)) (fun _ vk _ => n0 - (intOf vk).toNat)
        case atStart => exact ⟨0, [], rfl, by omega, by simp, Lib.hid (by rw [HD.out, down_two]; simp), Lib.hid (World.ownsRow_made w1 #[] 0 (Nat.le_refl _) (Nat.zero_le _) (by simp)), Lib.hid ((Below.refl _ _).alloc (Nat.le_refl _) _)⟩
        case round =>
          obtain ⟨k, out, rfl, hk, hol, HK, HO, HB⟩ := hrel
          have HBW := Lib.hid (HW1.out.bt HB.out)
          have hra := HR2.out.below HB.out HS2.out
          obtain ⟨q0, q1, q2, q3, q4⟩ := hra.five
          have HRA := Lib.hid hra
          clear hra
          by_cases hlt : k < n0
          · have hltz : (k : Int) < (n0 : Int) := by omega
            obtain ⟨f, hf⟩ : ∃ f, l[k]? = some f := ⟨_, List.getElem?_eq_getElem (by have := HN.out; omega)⟩
            rcases HCL.out with h0 | ⟨b, o, rfl, hbl, hcl⟩
            · omega
            obtain ⟨p0, p1, p2, p3⟩ := (hcl k f hf).below HBW.out hbl
            have hif := HIN.out f (List.mem_of_getElem? hf)
            have hst := HK.out
            have HFR := Lib.hid (Below.alloc (Below.refl wr.heap.size wr) (Nat.le_refl _) (.cells #[.string (lb f.tag), .string (lb f.ind), .slice f.sa f.subs.length f.sc, .int .i64 f.auth] 41))
            have HBA : Hid (Below w1.heap.size w1 (fldW wr (lb f.tag) (lb f.ind) f.sa f.subs.length f.sc f.auth)) := Lib.hid (HB.out.alloc HB.out.size _)
            have HOA : Hid (OwnF (fldW wr (lb f.tag) (lb f.ind) f.sa f.subs.length f.sc f.auth) w1.heap.size u4 out) := Lib.hid (HO.out.below HFR.out)
            have HF4 : Hid (∀ (x y : ByteArray) (O : Obj), x = lb f.tag → y = lb f.ind → ∀ sn, sn = f.subs.length → ∀ j u, (flatE fldE [f])[j]? = some u → ((wr.alloc O).alloc (.cells #[.string x, .string y, .slice f.sa sn f.sc, .int .i64 f.auth] 41)).cell? ((⟨wr.heap.size + 1, 0, none⟩ : Addr).add j) = some u) := Lib.hid (fun x y O hx hy sn hs => cells_one (four_new2 wr O _ f x y hx hy sn hs))
            have hsz : (lb f.ind).size = 2 := by rw [lb_size, hif]
            rw [drop_step hf, List.map_cons] at hst
            have e1 := lb_beq f.tag t264
            rw [lb_list t264] at e1
            have HT := Lib.hid (ind_take f.ind 32 ⟨#[32]⟩ rfl)
            obtain ⟨T, hT⟩ : ∃ T, T = lb f.tag := ⟨_, rfl⟩
            obtain ⟨I, hI⟩ : ∃ I, I = lb f.ind := ⟨_, rfl⟩
            obtain ⟨sn, hsn⟩ : ∃ sn, sn = f.subs.length := ⟨_, rfl⟩
            rw [← hT] at p0 HOA HFR HBA e1
            rw [← hI] at p1 HOA HFR HBA hsz HT
            rw [← hsn] at p2 HOA HFR HBA 
            have z1 : (1 : Int) ≤ ((I.size : Nat) : Int) := by omega
            have z0 : (0 : Int) ≤ 1 := by omega
            have HTI := Lib.hid (And.intro hT (And.intro hI hsn))
            obtain ⟨r0, r1, r2, r3, r4⟩ := (HR2.out.below HBA.out HS2.out).five
            by_cases a1 : f.tag = t264
            · have b1 : (T.toList == [50, 54, 52]) = true := e1.trans (by rw [a1]; simp)
              have hlo : lower f = withF f t260 (f.ind.take 1 ++ [32]) f.auth := by unfold lower; rw [if_pos a1]
              rw [hlo] at hst
              have HST : Hid (D = some ((out ++ [withF f t260 (f.ind.take 1 ++ [32]) f.auth]) ++ (l.drop (k + 1)).map lower)) := Lib.hid (by rw [hst]; simp)
              clear hst hcl hf e1 a1 hT hI hsn HK hif hlo
              have HO3 : Hid (OwnF (fldW wr T I f.sa sn f.sc f.auth).drew w1.heap.size u4 out) := Lib.hid (HOA.out.below (Below.refl _ _).drew)
              have HB3 : Hid (Below w1.heap.size w1 (fldW wr T I f.sa sn f.sc f.auth).drew) := Lib.hid HBA.out.drew
              go_wp2_with fail
              go_region_law (first
              | (refine step_append_flds rfl (.tmp 37) (.tmp 46) rfl w1.heap.size u4 out ?_ (HO3.out.below ((Below.refl _ _).alloc (Nat.le_refl _) _)) ⟨w3.heap.size, 0, none⟩ 1 1 [withF f t260 (f.ind.take 1 ++ [32]) f.auth] ?_ rfl (cells_one (four_new w3 _ (withF f t260 (f.ind.take 1 ++ [32]) f.auth) _ _ rfl HT.out _ HTI.out.2.2)) ?_ ?_ ?_
                 rfl
                 rfl
                 omega
                 exact (HB3.out.alloc HB3.out.size _).size
                 intro v4 w4 hown hb4
                 have HO4 : Hid (OwnF w4 w1.heap.size v4 (out ++ [withF f t260 (f.ind.take 1 ++ [32]) f.auth])) := Lib.hid hown
                 have HB4 : Hid (Below w1.heap.size w1 w4) := Lib.hid ((HB3.out.alloc HB3.out.size _).trans hb4)
                 clear hown hb4)
              | (go_simp
                 go_at_call 36
                 refine (rWith _ _ _ _ _ _ _ _ _ _).mono ?_
                 rintro e w3 ⟨rfl, b3⟩
                 replace HO3 := Lib.hid (HO3.out.below b3)
                 replace HB3 := Lib.hid (HB3.out.trans (b3.mono HB3.out.size))
                 clear b3))
              all_goals go_wp2
              all_goals go_roundw
              all_goals first
                | exact ⟨k + 1, out ++ [withF f t260 (f.ind.take 1 ++ [32]) f.auth], by go_num, by omega, by rw [List.length_append]; simp only [List.length_cons, List.length_nil]; omega, HST, HO4, HB4⟩
                | (simp [intOf]; omega)
            · have b1 : (T.toList == [50, 54, 52]) = false := e1.trans (by simpa using a1)
              have hlo : lower f = f := by unfold lower; rw [if_neg a1]
              rw [hlo] at hst
              have HST : Hid (D = some ((out ++ [f]) ++ (l.drop (k + 1)).map lower)) := Lib.hid (by rw [hst]; simp)
              clear hst hcl hf e1 a1 hT hI hsn HK HFR hif hlo
              go_wp2_with (at_builtin; refine append_flds rfl _ _ rfl w1.heap.size u4 out rfl (HOA.out.below ((Below.refl _ _).alloc (Nat.le_refl _) _)) ⟨wr.heap.size + 1, 0, none⟩ 1 1 [f] rfl rfl (HF4.out T I _ HTI.out.1 HTI.out.2.1 sn HTI.out.2.2) (by omega) (by have := HBA.out.size; simp at this ⊢; omega) ?_)
              intro v3 w3 hown hb3
              have HO3 : Hid (OwnF w3 w1.heap.size v3 (out ++ [f])) := Lib.hid hown
              have HB3 : Hid (Below w1.heap.size w1 w3) := Lib.hid ((HBA.out.alloc HBA.out.size _).trans hb3)
              clear hown hb3
              go_wp2
              go_roundw
              case rel => exact ⟨k + 1, out ++ [f], by go_num, by omega, by rw [List.length_append]; simp only [List.length_cons, List.length_nil]; omega, HST, HO3, HB3⟩
              case measure => simp [intOf]; omega
          · have hltz : ¬ (k : Int) < (n0 : Int) := by omega
            have hUo : D = some out := by
              rw [HK.out, List.drop_eq_nil_of_le (by have := HN.out; omega)]
              simp []
            obtain ⟨va, vc, rfl⟩ := HO.out.val
            obtain ⟨U, hU⟩ : ∃ U, U = out := ⟨_, rfl⟩
            have HUO := Lib.hid hU
            have HUF : Hid (∀ f ∈ U, FldAt w f) := Lib.hid (by rw [hU]; exact HDF.out out hUo)
            have hra := HRA.out
            have f1 := Lib.frozen_of_heap hra.par 1
            have f4 := Lib.frozen_of_heap hra.par 4
            have g0 := Lib.frozen_of_heap hra.res 0
            have g1 := Lib.frozen_of_heap hra.res 1
            have g2 := Lib.frozen_of_heap hra.res 2
            have g3 := Lib.frozen_of_heap hra.res 3
            have g4 := Lib.frozen_of_heap hra.res 4
            have c0 := Lib.cell_of_heap hra.res 0
            have c1 := Lib.cell_of_heap hra.res 1
            have c2 := Lib.cell_of_heap hra.res 2
            have c3 := Lib.cell_of_heap hra.res 3
            have c4 := Lib.cell_of_heap hra.res 4
            obtain ⟨m, hm⟩ : ∃ m, m = out.length := ⟨_, rfl⟩
            have HMM := Lib.hid hm
            rw [← hm]
            have HXE : Hid (X = (⟨id, 1, kind, lang, U⟩, 0)) := Lib.hid (by rw [HX.out, hUo, hU]; rfl)
            clear hUo hm hra HK hU
            go_wp2
            (try simp only [Exit.inBlock, Exit.then])
            obtain ⟨w7, hw7⟩ : ∃ w7, w7 = (wr.setCell ⟨w.heap.size, 4, none⟩ (.slice va m vc)).setCell ⟨w.heap.size, 1, none⟩ (.int .i64 1) := ⟨_, rfl⟩
            have hs7 : w7.heap.size = wr.heap.size := by rw [hw7]; simp [World.setCell]
            have hc7 : ∀ g i, w.heap.size + 1 < g → (put5 w7 (w.heap.size + 1) id 1 kind lang (.slice va m vc)).cell? ⟨g, i, none⟩ = wr.cell? ⟨g, i, none⟩ := fun g i h => by
              rw [put5_away (by omega), hw7, cell_away (by omega), cell_away (by omega)]
            have hsm : ∀ j, j < 5 → (w7.cell? ⟨w.heap.size + 1, j, none⟩).isSome = true := fun j hj => by
              rw [hw7, cell_away (by omega), cell_away (by omega)]
              exact HRA.out.some j hj
            have B7 : Below w.heap.size w w7 := by
              rw [hw7]
              exact (HBW.out.setCell (p := ⟨w.heap.size, 4, none⟩) (Nat.le_refl _) _).setCell (p := ⟨w.heap.size, 1, none⟩) (Nat.le_refl _) _
            have S5 := five_put (id := id) (ver := 1) (kind := kind) (lang := lang) (s := .slice va m vc) hsm
            have B5 : Below w.heap.size w (put5 w7 (w.heap.size + 1) id 1 kind lang (.slice va m vc)) := below_put5 B7 (Nat.le_succ _)
            have F5 : Flds (put5 w7 (w.heap.size + 1) id 1 kind lang (.slice va m vc)) (.slice va m vc) U := by
              rw [HUO.out]
              have hu := HUF.out
              rw [HUO.out] at hu
              have ho := HO.out
              rw [← HMM.out] at ho
              refine flds_own ho (by rw [put5_size, hs7]; exact Nat.le_refl _) (fun g i h => hc7 g i ?_) hu B5
              have := HS2.out
              omega
            rw [← hw7]
            change bodyPost _ _ _ _ _ (put5 w7 (w.heap.size + 1) id 1 kind lang (.slice va m vc))
            generalize put5 w7 (w.heap.size + 1) id 1 kind lang (.slice va m vc) = w9 at S5 B5 F5 ⊢
            rw [HXE.out]
            exact bodyPost_ret (results_rec rfl _ w9 (w.heap.size + 1) id 1 kind lang (.slice va m vc) rfl S5) rfl ⟨_, rfl, ⟨va, m, vc, rfl, F5⟩, B5⟩
      · go_enter Tryd.func17, Tryd.ntmps17
        go_wp2_with fail
        refine HRR.out.mono ?_
        rintro e w1 ⟨rfl, b1⟩
        have HB1 := Lib.hid b1
        have HW1 := Lib.hid (HB0.out.bt b1)
        have hra := HRES.out w1 b1
        have HRA := Lib.hid hra
        obtain ⟨q0, q1, q2, q3, q4⟩ := hra.five
        have f0 := Lib.frozen_of_heap hra.par 0
        have f1 := Lib.frozen_of_heap hra.par 1
        have f4 := Lib.frozen_of_heap hra.par 4
        have g0 := Lib.frozen_of_heap hra.res 0
        have g1 := Lib.frozen_of_heap hra.res 1
        have g2 := Lib.frozen_of_heap hra.res 2
        have g3 := Lib.frozen_of_heap hra.res 3
        have g4 := Lib.frozen_of_heap hra.res 4
        have c0 := Lib.cell_of_heap hra.res 0
        have c1 := Lib.cell_of_heap hra.res 1
        have c2 := Lib.cell_of_heap hra.res 2
        have c3 := Lib.cell_of_heap hra.res 3
        have c4 := Lib.cell_of_heap hra.res 4
        clear hra
        have HR2 := Lib.hid HRA.out
        have HS2 : Hid (w.heap.size + 1 < w1.heap.size) := Lib.hid (by have := b1.size; have h2 := resW_size w id 3 kind lang a n0 c; omega)
        clear b1 HRA
        go_wp2
        go_loopw [4, 5] (fun vl vk wr => ∃ (k : Nat) (out : List Fld), vk = .int .i64 k ∧ k ≤ n0 ∧ out.length ≤ k ∧ Hid (D = (dq (l.drop k)).map (out ++ ·)) ∧ Hid (OwnF wr w1.heap.size vl out) ∧ Hid (Below w1.heap.size w1 wr)) (fun _ vk _ => n0 - (intOf vk).toNat)
        case atStart => exact ⟨0, [], rfl, by omega, by simp, Lib.hid (by rw [HD.out, down_dq l.length l (Nat.le_refl _) (conforms_paired HCF.out)]; simp), Lib.hid (World.ownsRow_made w1 #[] 0 (Nat.le_refl _) (Nat.zero_le _) (by simp)), Lib.hid ((Below.refl _ _).alloc (Nat.le_refl _) _)⟩
        case round =>
          obtain ⟨k, out, rfl, hk, hol, HK, HO, HB⟩ := hrel
          have HBW := Lib.hid (HW1.out.bt HB.out)
          have hra := HR2.out.below HB.out HS2.out
          obtain ⟨q0, q1, q2, q3, q4⟩ := hra.five
          have HRA := Lib.hid hra
          clear hra
          by_cases hlt : k < n0
          · have hltz : (k : Int) < (n0 : Int) := by omega
            obtain ⟨f, hf⟩ : ∃ f, l[k]? = some f := ⟨_, List.getElem?_eq_getElem (by have := HN.out; omega)⟩
            rcases HCL.out with h0 | ⟨b, o, rfl, hbl, hcl⟩
            · omega
            obtain ⟨p0, p1, p2, p3⟩ := (hcl k f hf).below HBW.out hbl
            have hif := HIN.out f (List.mem_of_getElem? hf)
            have hst := HK.out
            have HFR := Lib.hid (Below.alloc (Below.refl wr.heap.size wr) (Nat.le_refl _) (.cells #[.string (lb f.tag), .string (lb f.ind), .slice f.sa f.subs.length f.sc, .int .i64 f.auth] 41))
            have HBA : Hid (Below w1.heap.size w1 (fldW wr (lb f.tag) (lb f.ind) f.sa f.subs.length f.sc f.auth)) := Lib.hid (HB.out.alloc HB.out.size _)
            have HOA : Hid (OwnF (fldW wr (lb f.tag) (lb f.ind) f.sa f.subs.length f.sc f.auth) w1.heap.size u4 out) := Lib.hid (HO.out.below HFR.out)
            have HF4 : Hid (∀ (x y : ByteArray) (O : Obj), x = lb f.tag → y = lb f.ind → ∀ sn, sn = f.subs.length → ∀ j u, (flatE fldE [f])[j]? = some u → ((wr.alloc O).alloc (.cells #[.string x, .string y, .slice f.sa sn f.sc, .int .i64 f.auth] 41)).cell? ((⟨wr.heap.size + 1, 0, none⟩ : Addr).add j) = some u) := Lib.hid (fun x y O hx hy sn hs => cells_one (four_new2 wr O _ f x y hx hy sn hs))
            have hsz : (lb f.ind).size = 2 := by rw [lb_size, hif]
            rw [dq_step hf] at hst
            have e1 := lb_beq f.tag t490
            rw [lb_list t490] at e1
            have e2 := lb_beq f.tag t830
            rw [lb_list t830] at e2
            have HT2 := Lib.hid (ind_drop f.ind 32 ⟨#[32]⟩ 2 hif.symm rfl)
            by_cases a1 : f.tag = t490
            · rw [if_pos a1] at hst
              obtain ⟨g, hg, ht⟩ := next_830 HCF.out hf a1
              rw [hg] at hst
              simp only at hst
              have hk1 : k + 1 < n0 := by have := (List.getElem?_eq_some_iff.1 hg).1; have := HN.out; omega
              have hk1z : (k : Int) + 1 < (n0 : Int) := by omega
              have hfl : ∀ W, Below w.heap.size w W → FldAt W f := fun W h => (HFL.out f (List.mem_of_getElem? hf)).below h (Nat.le_refl _)
              have hgl : ∀ W, Below w.heap.size w W → FldAt W g := fun W h => (HFL.out g (List.mem_of_getElem? hg)).below h (Nat.le_refl _)
              have hsf := HSM.out f (List.mem_of_getElem? hf)
              have hsg := HSM.out g (List.mem_of_getElem? hg)
              obtain ⟨s0, s1, s2, s3⟩ := (hcl (k + 1) g hg).below (HW1.out.bt HBA.out) hbl
              have hsame := fun W (hW : Below w.heap.size w W) => rSame07 g (withF f t830 (32 :: f.ind.drop 1) g.auth) W (hgl W hW) (hfl W hW) hsg hsf
              obtain ⟨J, hJ⟩ : ∃ J, J = sameF g (withF f t830 (32 :: f.ind.drop 1) g.auth) := ⟨_, rfl⟩
              rw [← hJ] at hst
              simp only [← hJ] at hsame
              have hwt : (lb (withF f t830 (32 :: f.ind.drop 1) g.auth).tag) = ⟨#[56, 51, 48]⟩ := rfl
              have hwi : (lb (withF f t830 (32 :: f.ind.drop 1) g.auth).ind) = ⟨#[32]⟩ ++ (lb f.ind).extract 1 2 := HT2.out.symm
              have hws : (withF f t830 (32 :: f.ind.drop 1) g.auth).subs = f.subs := rfl
              have hwa : (withF f t830 (32 :: f.ind.drop 1) g.auth).sa = f.sa := rfl
              have hwc : (withF f t830 (32 :: f.ind.drop 1) g.auth).sc = f.sc := rfl
              have hwu : (withF f t830 (32 :: f.ind.drop 1) g.auth).auth = g.auth := rfl
              simp only [hwt, hwi, hws, hwa, hwc, hwu] at hsame
              obtain ⟨T, hT⟩ : ∃ T, T = lb f.tag := ⟨_, rfl⟩
              obtain ⟨I, hI⟩ : ∃ I, I = lb f.ind := ⟨_, rfl⟩
              obtain ⟨sn, hsn⟩ : ∃ sn, sn = f.subs.length := ⟨_, rfl⟩
              simp only [← hT] at p0 HOA HFR HBA e1 e2 s0 s1 s2 s3
              simp only [← hI] at p1 HOA HFR HBA hsz HT2 hsame s0 s1 s2 s3
              simp only [← hsn] at p2 HOA HFR HBA hsame s0 s1 s2 s3 
              have z1 : (1 : Int) ≤ ((I.size : Nat) : Int) := by omega
              have z0 : (0 : Int) ≤ 1 := by omega
              have HTI := Lib.hid (And.intro hT (And.intro hI hsn))
              obtain ⟨r0, r1, r2, r3, r4⟩ := (HR2.out.below HBA.out HS2.out).five
              have b1 : (T.toList == [52, 57, 48]) = true := e1.trans (by rw [a1]; simp)
              have HT4 : Hid (∀ (W : World) (Ty : TypeId) (x y : ByteArray) (m : Nat), x = lb g.ind → m = g.subs.length → Four (W.alloc (.cells #[.string ⟨#[52, 52, 48]⟩, .string x, .slice g.sa m g.sc, .int .i64 g.auth] Ty)) W.heap.size 0 (withF g t440 g.ind g.auth)) := Lib.hid (fun W Ty x y m hx hm => four_new W Ty (withF g t440 g.ind g.auth) _ _ rfl hx _ hm)
              obtain ⟨GT, hGT⟩ : ∃ T, T = lb g.tag := ⟨_, rfl⟩
              obtain ⟨GI, hGI⟩ : ∃ I, I = lb g.ind := ⟨_, rfl⟩
              obtain ⟨gn, hgn⟩ : ∃ sn, sn = g.subs.length := ⟨_, rfl⟩
              simp only [← hGT, ← hGI, ← hgn] at s0 s1 s2 s3 hsame
              have HGG := Lib.hid (And.intro hGI hgn)
              have HBX : Hid (Below w1.heap.size w1 (fldW (fldW wr T I f.sa sn f.sc f.auth) GT GI g.sa gn g.sc g.auth)) := Lib.hid (HBA.out.alloc HBA.out.size _)
              have HOX : Hid (OwnF (fldW (fldW wr T I f.sa sn f.sc f.auth) GT GI g.sa gn g.sc g.auth) w1.heap.size u4 out) := Lib.hid (HOA.out.below ((Below.refl _ _).alloc (Nat.le_refl _) _))
              have HSA : Hid (∀ W, Below (fldW (fldW wr T I f.sa sn f.sc f.auth) GT GI g.sa gn g.sc g.auth).heap.size (fldW (fldW wr T I f.sa sn f.sc f.auth) GT GI g.sa gn g.sc g.auth) W → Calls Tryd.prog 39 #[.agg #[.string GT, .string GI, .slice g.sa gn g.sc, .int .i64 g.auth], .agg #[.string ⟨#[56, 51, 48]⟩, .string (⟨#[32]⟩ ++ I.extract 1 2), .slice f.sa sn f.sc, .int .i64 g.auth]] W fun e w' => e = .returned (.bool J) ∧ Below W.heap.size W w') := Lib.hid (fun W h => hsame W ((HW1.out.bt HBX.out).bt h))
              have HCC : Hid (∀ w', Below (fldW (fldW wr T I f.sa sn f.sc f.auth) GT GI g.sa gn g.sc g.auth).heap.size (fldW (fldW wr T I f.sa sn f.sc f.auth) GT GI g.sa gn g.sc g.auth) w' → w'.cell? ⟨wr.heap.size, 0, none⟩ = some (.string T) ∧ w'.cell? ⟨wr.heap.size, 1, none⟩ = some (.string I) ∧ w'.cell? ⟨wr.heap.size, 2, none⟩ = some (.slice f.sa sn f.sc) ∧ w'.cell? ⟨wr.heap.size, 3, none⟩ = some (.int .i64 f.auth) ∧ w'.cell? ⟨wr.heap.size + 1, 0, none⟩ = some (.string GT) ∧ w'.cell? ⟨wr.heap.size + 1, 1, none⟩ = some (.string GI) ∧ w'.cell? ⟨wr.heap.size + 1, 2, none⟩ = some (.slice g.sa gn g.sc) ∧ w'.cell? ⟨wr.heap.size + 1, 3, none⟩ = some (.int .i64 g.auth)) := Lib.hid (fun w' h => by
                have hs1 : (fldW wr T I f.sa sn f.sc f.auth).heap.size = wr.heap.size + 1 := World.size_alloc _ _
                have h2 := (Below.alloc (Below.refl (fldW wr T I f.sa sn f.sc f.auth).heap.size _) (Nat.le_refl _) (.cells #[.string GT, .string GI, .slice g.sa gn g.sc, .int .i64 g.auth] 41)).bt h
                rw [← hs1]
                exact ⟨block_cells h2 0 _ rfl, block_cells h2 1 _ rfl, block_cells h2 2 _ rfl, block_cells h2 3 _ rfl, block_cells h 0 _ rfl, block_cells h 1 _ rfl, block_cells h 2 _ rfl, block_cells h 3 _ rfl⟩)
              cases J with
              | false =>
                rw [if_neg (by simp)] at hst
                have HXE : Hid (X = (rec0, 12)) := Lib.hid (by rw [HX.out, hst]; rfl)
                clear hst hsame hcl hf hg ht hfl hgl hsf hsg hJ hwt hwi hws hwa hwc hwu e1 e2 a1 hT hI hsn hGT hGI hgn HK hif
                go_wp2_with fail
                obtain ⟨C, hC⟩ : ∃ C : World → Prop, C = fun w' => Below (fldW (fldW wr T I f.sa sn f.sc f.auth) GT GI g.sa gn g.sc g.auth).heap.size (fldW (fldW wr T I f.sa sn f.sc f.auth) GT GI g.sa gn g.sc g.auth) w' := ⟨_, rfl⟩
                have hCB : ∀ w', C w' → Below (fldW (fldW wr T I f.sa sn f.sc f.auth) GT GI g.sa gn g.sc g.auth).heap.size (fldW (fldW wr T I f.sa sn f.sc f.auth) GT GI g.sa gn g.sc g.auth) w' := fun w' h => by rw [hC] at h; exact h
                have hC0 : C { (fldW (fldW wr T I f.sa sn f.sc f.auth) GT GI g.sa gn g.sc g.auth) with drawn := (fldW (fldW wr T I f.sa sn f.sc f.auth) GT GI g.sa gn g.sc g.auth).drawn + 1 } := by rw [hC]; exact (Below.refl _ _).drew
                have hstep : ∀ w' w'', C w' → Below w'.heap.size w' w'' → C w'' := fun w' w'' h k => by rw [hC] at h ⊢; exact h.trans (k.mono h.size)
                have hcells : ∀ w', C w' → w'.cell? ⟨wr.heap.size, 0, none⟩ = some (.string T) ∧ w'.cell? ⟨wr.heap.size, 1, none⟩ = some (.string I) ∧ w'.cell? ⟨wr.heap.size, 2, none⟩ = some (.slice f.sa sn f.sc) ∧ w'.cell? ⟨wr.heap.size, 3, none⟩ = some (.int .i64 f.auth) ∧ w'.cell? ⟨wr.heap.size + 1, 0, none⟩ = some (.string GT) ∧ w'.cell? ⟨wr.heap.size + 1, 1, none⟩ = some (.string GI) ∧ w'.cell? ⟨wr.heap.size + 1, 2, none⟩ = some (.slice g.sa gn g.sc) ∧ w'.cell? ⟨wr.heap.size + 1, 3, none⟩ = some (.int .i64 g.auth) := fun w' h => HCC.out w' (hCB w' h)
                clear hC
                refine wp_region_quiet (C := C) (by kernel_rfl) (by kernel_rfl) hC0 ?_
                show wpQuiet _ _ _ _ [_, _, _, _, _, _, _, _, _, _, _] _
                repeat
                  with_reducible refine wpQuiet_step (fun K hK => ?_)
                  go_simp
                  first
                    | (with_reducible refine hK _ ?_; clear hK K)
                    | (apply Exists.intro
                       with_reducible refine ⟨fun w' hw' => ?_, hK _ ?_⟩
                       · first
                         | with_reducible rfl
                         | (obtain ⟨x0, x1, x2, x3, y0, y1, y2, y3⟩ := hcells w' hw'; go_simp; with_reducible rfl)
                         | ((first
                             | with_reducible refine (rWith _ _ _ _ _ _ _ _ _ w').mono ?_
                             | with_reducible refine (HSA.out w' (hCB w' hw')).mono ?_)
                            exact fun e w'' ⟨he, hb⟩ => ⟨he, hstep w' w'' hw' hb⟩)
                       clear hK K)
                refine wpQuiet_nil ?_
                intro w2 hw2
                have HB2 := Lib.hid (HBX.out.trans ((hCB w2 hw2).mono HBX.out.size))
                have HO2 : Hid (OwnF w2 w1.heap.size u4 out) := Lib.hid (HOX.out.below (hCB w2 hw2))
                obtain ⟨x0, x1, x2, x3, y0, y1, y2, y3⟩ := hcells w2 hw2
                clear hcells hCB hstep hw2 q0 q1 q2 q3 q4 r0 r1 r2 r3 r4
                have HBZ := Lib.hid (HW1.out.bt HB2.out)
                clear HRA
                have hra := HR2.out.below HB2.out HS2.out
                have HRA := Lib.hid hra
                obtain ⟨q0, q1, q2, q3, q4⟩ := hra.five
                have f0 := Lib.frozen_of_heap hra.par 0
                have f1 := Lib.frozen_of_heap hra.par 1
                have f4 := Lib.frozen_of_heap hra.par 4
                have g0 := Lib.frozen_of_heap hra.res 0
                have g1 := Lib.frozen_of_heap hra.res 1
                have g2 := Lib.frozen_of_heap hra.res 2
                have g3 := Lib.frozen_of_heap hra.res 3
                have g4 := Lib.frozen_of_heap hra.res 4
                have c0 := Lib.cell_of_heap hra.res 0
                have c1 := Lib.cell_of_heap hra.res 1
                have c2 := Lib.cell_of_heap hra.res 2
                have c3 := Lib.cell_of_heap hra.res 3
                have c4 := Lib.cell_of_heap hra.res 4
                clear hra
                go_wp2
                (try simp only [Exit.inBlock, Exit.then])
                have S5 := five_put (id := 0) (ver := 0) (kind := 0) (lang := ⟨#[]⟩) (s := .slice none 0 0) HRA.out.some
                have B5 : Below w.heap.size w (put5 w2 (w.heap.size + 1) 0 0 0 ⟨#[]⟩ (.slice none 0 0)) := below_put5 HBZ.out (Nat.le_succ _)
                change bodyPost _ _ _ _ _ (put5 w2 (w.heap.size + 1) 0 0 0 ⟨#[]⟩ (.slice none 0 0))
                generalize put5 w2 (w.heap.size + 1) 0 0 0 ⟨#[]⟩ (.slice none 0 0) = w9 at S5 B5 ⊢
                rw [HXE.out]
                exact bodyPost_ret (results_rec rfl _ w9 (w.heap.size + 1) 0 0 0 ⟨#[]⟩ (.slice none 0 0) rfl S5) rfl ⟨_, rfl, recV_zero w9, B5⟩
              | true =>
                rw [if_pos rfl] at hst
                have HST : Hid (D = (dq (l.drop (k + 1))).map ((out ++ [withF g t440 g.ind g.auth]) ++ ·)) := Lib.hid (by rw [hst, map_app])
                clear hst hsame hcl hf hg ht hfl hgl hsf hsg hJ hwt hwi hws hwa hwc hwu e1 e2 a1 hT hI hsn hGT hGI hgn HK hif
                go_wp2_with fail
                obtain ⟨C, hC⟩ : ∃ C : World → Prop, C = fun w' => Below (fldW (fldW wr T I f.sa sn f.sc f.auth) GT GI g.sa gn g.sc g.auth).heap.size (fldW (fldW wr T I f.sa sn f.sc f.auth) GT GI g.sa gn g.sc g.auth) w' := ⟨_, rfl⟩
                have hCB : ∀ w', C w' → Below (fldW (fldW wr T I f.sa sn f.sc f.auth) GT GI g.sa gn g.sc g.auth).heap.size (fldW (fldW wr T I f.sa sn f.sc f.auth) GT GI g.sa gn g.sc g.auth) w' := fun w' h => by rw [hC] at h; exact h
                have hC0 : C { (fldW (fldW wr T I f.sa sn f.sc f.auth) GT GI g.sa gn g.sc g.auth) with drawn := (fldW (fldW wr T I f.sa sn f.sc f.auth) GT GI g.sa gn g.sc g.auth).drawn + 1 } := by rw [hC]; exact (Below.refl _ _).drew
                have hstep : ∀ w' w'', C w' → Below w'.heap.size w' w'' → C w'' := fun w' w'' h k => by rw [hC] at h ⊢; exact h.trans (k.mono h.size)
                have hcells : ∀ w', C w' → w'.cell? ⟨wr.heap.size, 0, none⟩ = some (.string T) ∧ w'.cell? ⟨wr.heap.size, 1, none⟩ = some (.string I) ∧ w'.cell? ⟨wr.heap.size, 2, none⟩ = some (.slice f.sa sn f.sc) ∧ w'.cell? ⟨wr.heap.size, 3, none⟩ = some (.int .i64 f.auth) ∧ w'.cell? ⟨wr.heap.size + 1, 0, none⟩ = some (.string GT) ∧ w'.cell? ⟨wr.heap.size + 1, 1, none⟩ = some (.string GI) ∧ w'.cell? ⟨wr.heap.size + 1, 2, none⟩ = some (.slice g.sa gn g.sc) ∧ w'.cell? ⟨wr.heap.size + 1, 3, none⟩ = some (.int .i64 g.auth) := fun w' h => HCC.out w' (hCB w' h)
                clear hC
                refine wp_region_quiet (C := C) (by kernel_rfl) (by kernel_rfl) hC0 ?_
                show wpQuiet _ _ _ _ [_, _, _, _, _, _, _, _, _, _, _] _
                repeat
                  with_reducible refine wpQuiet_step (fun K hK => ?_)
                  go_simp
                  first
                    | (with_reducible refine hK _ ?_; clear hK K)
                    | (apply Exists.intro
                       with_reducible refine ⟨fun w' hw' => ?_, hK _ ?_⟩
                       · first
                         | with_reducible rfl
                         | (obtain ⟨x0, x1, x2, x3, y0, y1, y2, y3⟩ := hcells w' hw'; go_simp; with_reducible rfl)
                         | ((first
                             | with_reducible refine (rWith _ _ _ _ _ _ _ _ _ w').mono ?_
                             | with_reducible refine (HSA.out w' (hCB w' hw')).mono ?_)
                            exact fun e w'' ⟨he, hb⟩ => ⟨he, hstep w' w'' hw' hb⟩)
                       clear hK K)
                refine wpQuiet_nil ?_
                intro w2 hw2
                have HB2 := Lib.hid (HBX.out.trans ((hCB w2 hw2).mono HBX.out.size))
                have HO2 : Hid (OwnF w2 w1.heap.size u4 out) := Lib.hid (HOX.out.below (hCB w2 hw2))
                obtain ⟨x0, x1, x2, x3, y0, y1, y2, y3⟩ := hcells w2 hw2
                clear hcells hCB hstep hw2 q0 q1 q2 q3 q4 r0 r1 r2 r3 r4
                go_wp2_with fail
                refine (rWith _ _ _ _ _ _ _ _ _ _).mono ?_
                rintro e w3 ⟨rfl, b3⟩
                have HO3 : Hid (OwnF w3 w1.heap.size u4 out) := Lib.hid (HO2.out.below b3)
                have HB3 : Hid (Below w1.heap.size w1 w3) := Lib.hid (HB2.out.trans (b3.mono HB2.out.size))
                clear b3
                go_wp2_with (at_builtin; refine append_flds rfl _ _ rfl w1.heap.size u4 out rfl (HO3.out.below ((Below.refl _ _).alloc (Nat.le_refl _) _)) ⟨w3.heap.size, 0, none⟩ 1 1 [withF g t440 g.ind g.auth] rfl rfl (cells_one (HT4.out w3 _ GI GI gn HGG.out.1 HGG.out.2)) (by omega) ((HB3.out.alloc HB3.out.size _).size) ?_)
                intro v4 w4 hown hb4
                have HO4 : Hid (OwnF w4 w1.heap.size v4 (out ++ [withF g t440 g.ind g.auth])) := Lib.hid hown
                have HB4 : Hid (Below w1.heap.size w1 w4) := Lib.hid ((HB3.out.alloc HB3.out.size _).trans hb4)
                clear hown hb4
                go_wp2
                go_roundw
                case rel => exact ⟨k + 1, out ++ [withF g t440 g.ind g.auth], by go_num, by omega, by rw [List.length_append]; simp only [List.length_cons, List.length_nil]; omega, HST, HO4, HB4⟩
                case measure => simp [intOf]; omega
            rw [if_neg a1] at hst
            by_cases a2 : f.tag = t830
            · rw [if_pos a2] at hst
              obtain ⟨T, hT⟩ : ∃ T, T = lb f.tag := ⟨_, rfl⟩
              obtain ⟨I, hI⟩ : ∃ I, I = lb f.ind := ⟨_, rfl⟩
              obtain ⟨sn, hsn⟩ : ∃ sn, sn = f.subs.length := ⟨_, rfl⟩
              rw [← hT] at p0 HOA HFR HBA e1 e2
              rw [← hI] at p1 HOA HFR HBA hsz 
              rw [← hsn] at p2 HOA HFR HBA 
              have z1 : (1 : Int) ≤ ((I.size : Nat) : Int) := by omega
              have z0 : (0 : Int) ≤ 1 := by omega
              have HTI := Lib.hid (And.intro hT (And.intro hI hsn))
              obtain ⟨r0, r1, r2, r3, r4⟩ := (HR2.out.below HBA.out HS2.out).five
              have b1 : (T.toList == [52, 57, 48]) = false := e1.trans (by simpa using a1)
              have b2 : (T.toList == [56, 51, 48]) = true := e2.trans (by rw [a2]; simp)
              have HST := Lib.hid hst
              clear hst hcl hf e1 e2 a1 a2 hT hI hsn HK hif
              go_wp2
              go_roundw
              case rel => exact ⟨k + 1, out, by go_num, by omega, by omega, HST, HOA, HBA⟩
              case measure => simp [intOf]; omega
            rw [if_neg a2] at hst
            obtain ⟨T, hT⟩ : ∃ T, T = lb f.tag := ⟨_, rfl⟩
            obtain ⟨I, hI⟩ : ∃ I, I = lb f.ind := ⟨_, rfl⟩
            obtain ⟨sn, hsn⟩ : ∃ sn, sn = f.subs.length := ⟨_, rfl⟩
            rw [← hT] at p0 HOA HFR HBA e1 e2
            rw [← hI] at p1 HOA HFR HBA hsz 
            rw [← hsn] at p2 HOA HFR HBA 
            have z1 : (1 : Int) ≤ ((I.size : Nat) : Int) := by omega
            have z0 : (0 : Int) ≤ 1 := by omega
            have HTI := Lib.hid (And.intro hT (And.intro hI hsn))
            obtain ⟨r0, r1, r2, r3, r4⟩ := (HR2.out.below HBA.out HS2.out).five
            have b1 : (T.toList == [52, 57, 48]) = false := e1.trans (by simpa using a1)
            have b2 : (T.toList == [56, 51, 48]) = false := e2.trans (by simpa using a2)
            have HST : Hid (D = (dq (l.drop (k + 1))).map ((out ++ [f]) ++ ·)) := Lib.hid (by rw [hst, map_app])
            clear hst hcl hf e1 e2 a1 a2 hT hI hsn HK HFR hif
            go_wp2_with (at_builtin; refine append_flds rfl _ _ rfl w1.heap.size u4 out rfl (HOA.out.below ((Below.refl _ _).alloc (Nat.le_refl _) _)) ⟨wr.heap.size + 1, 0, none⟩ 1 1 [f] rfl rfl (HF4.out T I _ HTI.out.1 HTI.out.2.1 sn HTI.out.2.2) (by omega) (by have := HBA.out.size; simp at this ⊢; omega) ?_)
            intro v3 w3 hown hb3
            have HO3 : Hid (OwnF w3 w1.heap.size v3 (out ++ [f])) := Lib.hid hown
            have HB3 : Hid (Below w1.heap.size w1 w3) := Lib.hid ((HBA.out.alloc HBA.out.size _).trans hb3)
            clear hown hb3
            go_wp2
            go_roundw
            case rel => exact ⟨k + 1, out ++ [f], by go_num, by omega, by rw [List.length_append]; simp only [List.length_cons, List.length_nil]; omega, HST, HO3, HB3⟩
            case measure => simp [intOf]; omega
          · have hltz : ¬ (k : Int) < (n0 : Int) := by omega
            have hUo : D = some out := by
              rw [HK.out, List.drop_eq_nil_of_le (by have := HN.out; omega)]
              simp [dq]
            obtain ⟨va, vc, rfl⟩ := HO.out.val
            obtain ⟨U, hU⟩ : ∃ U, U = out := ⟨_, rfl⟩
            have HUO := Lib.hid hU
            have HUF : Hid (∀ f ∈ U, FldAt w f) := Lib.hid (by rw [hU]; exact HDF.out out hUo)
            have hra := HRA.out
            have f1 := Lib.frozen_of_heap hra.par 1
            have f4 := Lib.frozen_of_heap hra.par 4
            have g0 := Lib.frozen_of_heap hra.res 0
            have g1 := Lib.frozen_of_heap hra.res 1
            have g2 := Lib.frozen_of_heap hra.res 2
            have g3 := Lib.frozen_of_heap hra.res 3
            have g4 := Lib.frozen_of_heap hra.res 4
            have c0 := Lib.cell_of_heap hra.res 0
            have c1 := Lib.cell_of_heap hra.res 1
            have c2 := Lib.cell_of_heap hra.res 2
            have c3 := Lib.cell_of_heap hra.res 3
            have c4 := Lib.cell_of_heap hra.res 4
            obtain ⟨m, hm⟩ : ∃ m, m = out.length := ⟨_, rfl⟩
            have HMM := Lib.hid hm
            rw [← hm]
            have HXE : Hid (X = (⟨id, 2, kind, lang, U⟩, 0)) := Lib.hid (by rw [HX.out, hUo, hU]; rfl)
            clear hUo hm hra HK hU
            go_wp2
            (try simp only [Exit.inBlock, Exit.then])
            obtain ⟨w7, hw7⟩ : ∃ w7, w7 = (wr.setCell ⟨w.heap.size, 4, none⟩ (.slice va m vc)).setCell ⟨w.heap.size, 1, none⟩ (.int .i64 2) := ⟨_, rfl⟩
            have hs7 : w7.heap.size = wr.heap.size := by rw [hw7]; simp [World.setCell]
            have hc7 : ∀ g i, w.heap.size + 1 < g → (put5 w7 (w.heap.size + 1) id 2 kind lang (.slice va m vc)).cell? ⟨g, i, none⟩ = wr.cell? ⟨g, i, none⟩ := fun g i h => by
              rw [put5_away (by omega), hw7, cell_away (by omega), cell_away (by omega)]
            have hsm : ∀ j, j < 5 → (w7.cell? ⟨w.heap.size + 1, j, none⟩).isSome = true := fun j hj => by
              rw [hw7, cell_away (by omega), cell_away (by omega)]
              exact HRA.out.some j hj
            have B7 : Below w.heap.size w w7 := by
              rw [hw7]
              exact (HBW.out.setCell (p := ⟨w.heap.size, 4, none⟩) (Nat.le_refl _) _).setCell (p := ⟨w.heap.size, 1, none⟩) (Nat.le_refl _) _
            have S5 := five_put (id := id) (ver := 2) (kind := kind) (lang := lang) (s := .slice va m vc) hsm
            have B5 : Below w.heap.size w (put5 w7 (w.heap.size + 1) id 2 kind lang (.slice va m vc)) := below_put5 B7 (Nat.le_succ _)
            have F5 : Flds (put5 w7 (w.heap.size + 1) id 2 kind lang (.slice va m vc)) (.slice va m vc) U := by
              rw [HUO.out]
              have hu := HUF.out
              rw [HUO.out] at hu
              have ho := HO.out
              rw [← HMM.out] at ho
              refine flds_own ho (by rw [put5_size, hs7]; exact Nat.le_refl _) (fun g i h => hc7 g i ?_) hu B5
              have := HS2.out
              omega
            rw [← hw7]
            change bodyPost _ _ _ _ _ (put5 w7 (w.heap.size + 1) id 2 kind lang (.slice va m vc))
            generalize put5 w7 (w.heap.size + 1) id 2 kind lang (.slice va m vc) = w9 at S5 B5 F5 ⊢
            rw [HXE.out]
            exact bodyPost_ret (results_rec rfl _ w9 (w.heap.size + 1) id 2 kind lang (.slice va m vc) rfl S5) rfl ⟨_, rfl, ⟨va, m, vc, rfl, F5⟩, B5⟩
end Go.Proofs.YtimecccphbgdeaaDoor
