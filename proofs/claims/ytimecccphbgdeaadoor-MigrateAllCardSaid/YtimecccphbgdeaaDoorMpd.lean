/- The walk of the program's Down (layer 18). -/
import Derived.Test.YtimecccphbgdeaaDoorMdp
namespace Go.Proofs.YtimecccphbgdeaaDoor
open Go Go.RowKit

set_option maxRecDepth 100000 in
set_option maxHeartbeats 8000000 in
theorem pDown (r : Rec) (a : Option Addr) (n0 c : Nat) (w : World) (hE : Env w) (hv : Flds w (.slice a n0 c) r.fields) (hs : r.small) :
    Calls Tryd.prog 16 #[.agg #[.int .i64 r.id, .int .i64 r.ver, .int .i64 r.kind, .string r.lang, .slice a n0 c]] w (RetRec w (downP r)) := by
  have hb0 : Below w.heap.size w (resW w r.id r.ver r.kind r.lang a n0 c) := ((Below.refl _ _).alloc (Nat.le_refl _) _).alloc (by simp) _
  have hrr := pMRight r a n0 c (resW w r.id r.ver r.kind r.lang a n0 c) (hE.below hb0) (hv.below hb0 (Nat.le_refl _)) hs
  have HFL : Hid (∀ f ∈ r.fields, FldAt w f) := Lib.hid hv.2
  have HV : Hid (∀ W, Below (resW w r.id r.ver r.kind r.lang a n0 c).heap.size (resW w r.id r.ver r.kind r.lang a n0 c) W → Flds W (.slice a n0 c) r.fields) := Lib.hid (fun W h => hv.below (hb0.bt h) (Nat.le_refl _))
  obtain ⟨hn, hn2⟩ := hv.len
  have hss := hs
  obtain ⟨hl, -⟩ := hs
  have HB0 := Lib.hid hb0
  have HRES : Hid (∀ W, Below (resW w r.id r.ver r.kind r.lang a n0 c).heap.size (resW w r.id r.ver r.kind r.lang a n0 c) W → ResAt W w.heap.size r.id r.ver r.kind r.lang (.slice a n0 c)) := Lib.hid (fun W h => resAt_of h)
  have HSM : Hid (∀ f ∈ r.fields, f.subs.length ≤ 1000000) := Lib.hid (fun f hf => (hss.2 f hf).subs)
  clear hb0 hE
  cases hM : rightM r with
  | false =>
    have hu : downP r = (rec0, 12) := by unfold downP; rw [hM, if_pos rfl]
    rw [hu]
    rw [hM] at hrr
    have HRR := Lib.hid hrr
    obtain ⟨id, ver, kind, lang, l⟩ := r
    simp only at HB0 HRES HRR ⊢
    clear hrr hM hu HV HFL hv hss hl hn hn2 HSM
    go_enter Tryd.func16, Tryd.ntmps16
    go_wp2_with fail
    refine HRR.out.mono ?_
    rintro e w1 ⟨rfl, b1⟩
    have HB1 := Lib.hid b1
    have HW1 := Lib.hid (HB0.out.bt b1)
    have hra := HRES.out w1 b1
    have HRA := Lib.hid hra
    obtain ⟨q0, q1, q2, q3, q4⟩ := hra.five
    have f0 := Lib.frozen_of_heap hra.par 0
    have f1 := Lib.frozen_of_heap hra.par 1
    have f4 := Lib.frozen_of_heap hra.par 4
    have g0 := Lib.frozen_of_heap hra.res 0
    have g1 := Lib.frozen_of_heap hra.res 1
    have g2 := Lib.frozen_of_heap hra.res 2
    have g3 := Lib.frozen_of_heap hra.res 3
    have g4 := Lib.frozen_of_heap hra.res 4
    have c0 := Lib.cell_of_heap hra.res 0
    have c1 := Lib.cell_of_heap hra.res 1
    have c2 := Lib.cell_of_heap hra.res 2
    have c3 := Lib.cell_of_heap hra.res 3
    have c4 := Lib.cell_of_heap hra.res 4
    clear hra
    go_wp2
    (try simp only [Exit.inBlock, Exit.then])
    have S5 := five_put (id := 0) (ver := 0) (kind := 0) (lang := ⟨#[]⟩) (s := .slice none 0 0) HRA.out.some
    have B5 : Below w.heap.size w (put5 w1 (w.heap.size + 1) 0 0 0 ⟨#[]⟩ (.slice none 0 0)) := below_put5 HW1.out (Nat.le_succ _)
    change bodyPost _ _ _ _ _ (put5 w1 (w.heap.size + 1) 0 0 0 ⟨#[]⟩ (.slice none 0 0))
    generalize put5 w1 (w.heap.size + 1) 0 0 0 ⟨#[]⟩ (.slice none 0 0) = w9 at S5 B5 ⊢
    exact bodyPost_ret (results_rec rfl _ w9 (w.heap.size + 1) 0 0 0 ⟨#[]⟩ (.slice none 0 0) rfl S5) rfl ⟨_, rfl, recV_zero w9, B5⟩
  | true =>
    rw [hM] at hrr
    have HRR := Lib.hid hrr
    have h0 : recErr r = 0 := by
      by_cases h : recErr r = 0
      · exact h
      · rw [rightM_bad h] at hM; cases hM
    have hcf : conforms r.ver r.fields = true := by rw [← rightM_ok h0]; exact hM
    obtain ⟨-, hver, -, -, h64, hfe⟩ := recErr_ok h0
    have hind : ∀ f ∈ r.fields, f.ind.length = 2 := fun f hf => (fldsErr_ind hfe f hf).1
    clear hrr h0 hfe hss
    by_cases h1 : r.ver = 1
    · have hu : downP r = (rec0, 20) := by unfold downP; rw [hM, if_neg (by simp), if_pos h1]
      rw [hu]
      obtain ⟨id, ver, kind, lang, l⟩ := r
      simp only at HB0 HRES HRR h1 ⊢
      subst h1
      clear hM hu HV HFL hv hl hn hn2 hind h64 hver HSM hcf
      go_enter Tryd.func16, Tryd.ntmps16
      go_wp2_with fail
      refine HRR.out.mono ?_
      rintro e w1 ⟨rfl, b1⟩
      have HB1 := Lib.hid b1
      have HW1 := Lib.hid (HB0.out.bt b1)
      have hra := HRES.out w1 b1
      have HRA := Lib.hid hra
      obtain ⟨q0, q1, q2, q3, q4⟩ := hra.five
      have f0 := Lib.frozen_of_heap hra.par 0
      have f1 := Lib.frozen_of_heap hra.par 1
      have f4 := Lib.frozen_of_heap hra.par 4
      have g0 := Lib.frozen_of_heap hra.res 0
      have g1 := Lib.frozen_of_heap hra.res 1
      have g2 := Lib.frozen_of_heap hra.res 2
      have g3 := Lib.frozen_of_heap hra.res 3
      have g4 := Lib.frozen_of_heap hra.res 4
      have c0 := Lib.cell_of_heap hra.res 0
      have c1 := Lib.cell_of_heap hra.res 1
      have c2 := Lib.cell_of_heap hra.res 2
      have c3 := Lib.cell_of_heap hra.res 3
      have c4 := Lib.cell_of_heap hra.res 4
      clear hra
      go_wp2
      (try simp only [Exit.inBlock, Exit.then])
      have S5 := five_put (id := 0) (ver := 0) (kind := 0) (lang := ⟨#[]⟩) (s := .slice none 0 0) HRA.out.some
      have B5 : Below w.heap.size w (put5 w1 (w.heap.size + 1) 0 0 0 ⟨#[]⟩ (.slice none 0 0)) := below_put5 HW1.out (Nat.le_succ _)
      change bodyPost _ _ _ _ _ (put5 w1 (w.heap.size + 1) 0 0 0 ⟨#[]⟩ (.slice none 0 0))
      generalize put5 w1 (w.heap.size + 1) 0 0 0 ⟨#[]⟩ (.slice none 0 0) = w9 at S5 B5 ⊢
      exact bodyPost_ret (results_rec rfl _ w9 (w.heap.size + 1) 0 0 0 ⟨#[]⟩ (.slice none 0 0) rfl S5) rfl ⟨_, rfl, recV_zero w9, B5⟩
    · have hv23 : r.ver = 2 ∨ r.ver = 3 := by omega
      have hn64 : n0 ≤ 64 := by omega
      obtain ⟨id, ver, kind, lang, l⟩ := r
      simp only at HB0 HRES HRR HV HFL hv23 hn hind HSM hcf ⊢
      have hu : downP ⟨id, ver, kind, lang, l⟩ = downX id ver kind lang (downL ver l) := by
        unfold downP
        rw [hM, if_neg (by simp), if_neg h1]
      rw [hu]
      clear hu
      have HIN := Lib.hid hind
      have HN := Lib.hid hn
      have HCL : Hid (n0 = 0 ∨ ∃ b o, a = some ⟨b, o, none⟩ ∧ b < w.heap.size ∧ ∀ j f, l[j]? = some f → Four w b (o + j * 4) f) := Lib.hid (by
        obtain ⟨⟨a', c', he, -, hx⟩, -⟩ := hv
        cases he
        rcases hx with h | ⟨b, o, ha, hb, hx⟩
        · exact .inl (by rw [h]; rfl)
        · exact .inr ⟨b, o, ha, hb, fun j f hj => four_of (hx j f hj)⟩)
      obtain ⟨D, hD⟩ : ∃ D, D = downL ver l := ⟨_, rfl⟩
      rw [← hD]
      have HD := Lib.hid hD
      have HDF : Hid (∀ d, D = some d → ∀ f ∈ d, FldAt w f) := Lib.hid (fun d hd => down_at l.length l d (Nat.le_refl _) HFL.out (by rw [← hD]; exact hd))
      obtain ⟨X, hX⟩ : ∃ X : Rec × Int, X = downX id ver kind lang D := ⟨_, rfl⟩
      rw [← hX]
      have HX := Lib.hid hX
      have HCF := Lib.hid hcf
      clear hM hv hl hn hind h64 hver h1 hD HV hX hcf
      rcases hv23 with rfl | rfl
      · go_enter Tryd.func16, Tryd.ntmps16
        go_wp2_with fail
        refine HRR.out.mono ?_
        rintro e w1 ⟨rfl, b1⟩
        have HB1 := Lib.hid b1
        have HW1 := Lib.hid (HB0.out.bt b1)
        have hra := HRES.out w1 b1
        have HRA := Lib.hid hra
        obtain ⟨q0, q1, q2, q3, q4⟩ := hra.five
        have f0 := Lib.frozen_of_heap hra.par 0
        have f1 := Lib.frozen_of_heap hra.par 1
        have f4 := Lib.frozen_of_heap hra.par 4
        have g0 := Lib.frozen_of_heap hra.res 0
        have g1 := Lib.frozen_of_heap hra.res 1
        have g2 := Lib.frozen_of_heap hra.res 2
        have g3 := Lib.frozen_of_heap hra.res 3
        have g4 := Lib.frozen_of_heap hra.res 4
        have c0 := Lib.cell_of_heap hra.res 0
        have c1 := Lib.cell_of_heap hra.res 1
        have c2 := Lib.cell_of_heap hra.res 2
        have c3 := Lib.cell_of_heap hra.res 3
        have c4 := Lib.cell_of_heap hra.res 4
        clear hra
        have HR2 := Lib.hid HRA.out
        have HS2 : Hid (w.heap.size + 1 < w1.heap.size) := Lib.hid (by have := b1.size; have h2 := resW_size w id 2 kind lang a n0 c; omega)
        clear b1 HRA
        go_wp2
        go_loopw [4, 22] (fun vl vk wr => ∃ (k : Nat) (out : List Fld), vk = .int .i64 k ∧ k ≤ n0 ∧ out.length ≤ k ∧ Hid (D = some (out ++ (l.drop k).map lower)) ∧ Hid (OwnF wr w1.heap.size vl out) ∧ Hid (Below w1.heap.size w1 wr)) (fun _ vk _ => n0 - (intOf vk).toNat)
        case atStart => exact ⟨0, [], rfl, by omega, by simp, Lib.hid (by rw [HD.out, down_two]; simp), Lib.hid (OwnF.nil _ _), Lib.hid (Below.refl _ _)⟩
        case round =>
          obtain ⟨k, out, rfl, hk, hol, HK, HO, HB⟩ := hrel
          have HBW := Lib.hid (HW1.out.bt HB.out)
          have hra := HR2.out.below HB.out HS2.out
          obtain ⟨q0, q1, q2, q3, q4⟩ := hra.five
          have HRA := Lib.hid hra
          clear hra
          by_cases hlt : k < n0
          · have hltz : (k : Int) < (n0 : Int) := by omega
            obtain ⟨f, hf⟩ : ∃ f, l[k]? = some f := ⟨_, List.getElem?_eq_getElem (by have := HN.out; omega)⟩
            rcases HCL.out with h0 | ⟨b, o, rfl, hbl, hcl⟩
            · omega
            obtain ⟨p0, p1, p2, p3⟩ := (hcl k f hf).below HBW.out hbl
            have hif := HIN.out f (List.mem_of_getElem? hf)
            have hst := HK.out
            have HFR := Lib.hid (Below.alloc (Below.refl wr.heap.size wr) (Nat.le_refl _) (.cells #[.string (lb f.tag), .string (lb f.ind), .slice f.sa f.subs.length f.sc, .int .i64 f.auth] 41))
            have HBA : Hid (Below w1.heap.size w1 (fldW wr (lb f.tag) (lb f.ind) f.sa f.subs.length f.sc f.auth)) := Lib.hid (HB.out.alloc HB.out.size _)
            have HOA : Hid (OwnF (fldW wr (lb f.tag) (lb f.ind) f.sa f.subs.length f.sc f.auth) w1.heap.size u4 out) := Lib.hid (HO.out.below HFR.out)
            have HF4 : Hid (∀ (x y : ByteArray) (O : Obj), x = lb f.tag → y = lb f.ind → ∀ sn, sn = f.subs.length → ∀ j u, (flatE fldE [f])[j]? = some u → ((wr.alloc O).alloc (.cells #[.string x, .string y, .slice f.sa sn f.sc, .int .i64 f.auth] 41)).cell? ((⟨wr.heap.size + 1, 0, none⟩ : Addr).add j) = some u) := Lib.hid (fun x y O hx hy sn hs => cells_one (four_new2 wr O _ f x y hx hy sn hs))
            have hsz : (lb f.ind).size = 2 := by rw [lb_size, hif]
            rw [drop_step hf, List.map_cons] at hst
            have e1 := lb_beq f.tag t264
            rw [lb_list t264] at e1
            have HT := Lib.hid (ind_take f.ind 32 ⟨#[32]⟩ rfl)
            obtain ⟨T, hT⟩ : ∃ T, T = lb f.tag := ⟨_, rfl⟩
            obtain ⟨I, hI⟩ : ∃ I, I = lb f.ind := ⟨_, rfl⟩
            obtain ⟨sn, hsn⟩ : ∃ sn, sn = f.subs.length := ⟨_, rfl⟩
            rw [← hT] at p0 HOA HFR HBA e1
            rw [← hI] at p1 HOA HFR HBA hsz HT
            rw [← hsn] at p2 HOA HFR HBA 
            have z1 : (1 : Int) ≤ ((I.size : Nat) : Int) := by omega
            have z0 : (0 : Int) ≤ 1 := by omega
            have HTI := Lib.hid (And.intro hT (And.intro hI hsn))
            obtain ⟨r0, r1, r2, r3, r4⟩ := (HR2.out.below HBA.out HS2.out).five
            by_cases a1 : f.tag = t264
            · have b1 : (T.toList == [50, 54, 52]) = true := e1.trans (by rw [a1]; simp)
              have hlo : lower f = withF f t260 (f.ind.take 1 ++ [32]) f.auth := by unfold lower; rw [if_pos a1]
              rw [hlo] at hst
              have HST : Hid (D = some ((out ++ [withF f t260 (f.ind.take 1 ++ [32]) f.auth]) ++ (l.drop (k + 1)).map lower)) := Lib.hid (by rw [hst]; simp)
              clear hst hcl hf e1 a1 hT hI hsn HK hif hlo
              go_wp2_with fail
              go_region
              go_wp2_with (at_builtin; refine append_flds rfl _ _ rfl w1.heap.size u4 out rfl (HO.out.below (((Below.refl _ _).alloc (Nat.le_refl _) _).alloc (by simp) _).drew) ⟨wr.heap.size + 1, 0, none⟩ 1 1 [withF f t260 (f.ind.take 1 ++ [32]) f.auth] rfl rfl (cells_one (four_new2 wr _ _ (withF f t260 (f.ind.take 1 ++ [32]) f.auth) _ _ rfl HT.out _ HTI.out.2.2).drew) (by omega) (by have := HB.out.size; simp; omega) ?_)
              intro v3 w3 hown hb3
              have HO3 : Hid (OwnF w3 w1.heap.size v3 (out ++ [withF f t260 (f.ind.take 1 ++ [32]) f.auth])) := Lib.hid hown
              have HB3 : Hid (Below w1.heap.size w1 w3) := Lib.hid ((((HB.out.alloc HB.out.size _).alloc (by have := HB.out.size; simp; omega) _).drew).trans hb3)
              clear hown hb3
              go_wp2
              go_roundw
              case rel => exact ⟨k + 1, out ++ [withF f t260 (f.ind.take 1 ++ [32]) f.auth], by go_num, by omega, by rw [List.length_append]; simp only [List.length_cons, List.length_nil]; omega, HST, HO3, HB3⟩
              case measure => simp [intOf]; omega
            · have b1 : (T.toList == [50, 54, 52]) = false := e1.trans (by simpa using a1)
              have hlo : lower f = f := by unfold lower; rw [if_neg a1]
              rw [hlo] at hst
              have HST : Hid (D = some ((out ++ [f]) ++ (l.drop (k + 1)).map lower)) := Lib.hid (by rw [hst]; simp)
              clear hst hcl hf e1 a1 hT hI hsn HK HFR hif hlo
              go_wp2_with (at_builtin; refine append_flds rfl _ _ rfl w1.heap.size u4 out rfl (HOA.out.below ((Below.refl _ _).alloc (Nat.le_refl _) _)) ⟨wr.heap.size + 1, 0, none⟩ 1 1 [f] rfl rfl (HF4.out T I _ HTI.out.1 HTI.out.2.1 sn HTI.out.2.2) (by omega) (by have := HBA.out.size; simp at this ⊢; omega) ?_)
              intro v3 w3 hown hb3
              have HO3 : Hid (OwnF w3 w1.heap.size v3 (out ++ [f])) := Lib.hid hown
              have HB3 : Hid (Below w1.heap.size w1 w3) := Lib.hid ((HBA.out.alloc HBA.out.size _).trans hb3)
              clear hown hb3
              go_wp2
              go_roundw
              case rel => exact ⟨k + 1, out ++ [f], by go_num, by omega, by rw [List.length_append]; simp only [List.length_cons, List.length_nil]; omega, HST, HO3, HB3⟩
              case measure => simp [intOf]; omega
          · have hltz : ¬ (k : Int) < (n0 : Int) := by omega
            have hUo : D = some out := by
              rw [HK.out, List.drop_eq_nil_of_le (by have := HN.out; omega)]
              simp []
            obtain ⟨va, vc, rfl⟩ := HO.out.val
            obtain ⟨U, hU⟩ : ∃ U, U = out := ⟨_, rfl⟩
            have HUO := Lib.hid hU
            have HUF : Hid (∀ f ∈ U, FldAt w f) := Lib.hid (by rw [hU]; exact HDF.out out hUo)
            have hra := HRA.out
            have f1 := Lib.frozen_of_heap hra.par 1
            have f4 := Lib.frozen_of_heap hra.par 4
            have g0 := Lib.frozen_of_heap hra.res 0
            have g1 := Lib.frozen_of_heap hra.res 1
            have g2 := Lib.frozen_of_heap hra.res 2
            have g3 := Lib.frozen_of_heap hra.res 3
            have g4 := Lib.frozen_of_heap hra.res 4
            have c0 := Lib.cell_of_heap hra.res 0
            have c1 := Lib.cell_of_heap hra.res 1
            have c2 := Lib.cell_of_heap hra.res 2
            have c3 := Lib.cell_of_heap hra.res 3
            have c4 := Lib.cell_of_heap hra.res 4
            obtain ⟨m, hm⟩ : ∃ m, m = out.length := ⟨_, rfl⟩
            have HMM := Lib.hid hm
            rw [← hm]
            have HXE : Hid (X = (⟨id, 1, kind, lang, U⟩, 0)) := Lib.hid (by rw [HX.out, hUo, hU]; rfl)
            clear hUo hm hra HK hU
            go_wp2
            (try simp only [Exit.inBlock, Exit.then])
            obtain ⟨w7, hw7⟩ : ∃ w7, w7 = (wr.setCell ⟨w.heap.size, 4, none⟩ (.slice va m vc)).setCell ⟨w.heap.size, 1, none⟩ (.int .i64 1) := ⟨_, rfl⟩
            have hs7 : w7.heap.size = wr.heap.size := by rw [hw7]; simp [World.setCell]
            have hc7 : ∀ g i, w.heap.size + 1 < g → (put5 w7 (w.heap.size + 1) id 1 kind lang (.slice va m vc)).cell? ⟨g, i, none⟩ = wr.cell? ⟨g, i, none⟩ := fun g i h => by
              rw [put5_away (by omega), hw7, cell_away (by omega), cell_away (by omega)]
            have hsm : ∀ j, j < 5 → (w7.cell? ⟨w.heap.size + 1, j, none⟩).isSome = true := fun j hj => by
              rw [hw7, cell_away (by omega), cell_away (by omega)]
              exact HRA.out.some j hj
            have B7 : Below w.heap.size w w7 := by
              rw [hw7]
              exact (HBW.out.setCell (p := ⟨w.heap.size, 4, none⟩) (Nat.le_refl _) _).setCell (p := ⟨w.heap.size, 1, none⟩) (Nat.le_refl _) _
            have S5 := five_put (id := id) (ver := 1) (kind := kind) (lang := lang) (s := .slice va m vc) hsm
            have B5 : Below w.heap.size w (put5 w7 (w.heap.size + 1) id 1 kind lang (.slice va m vc)) := below_put5 B7 (Nat.le_succ _)
            have F5 : Flds (put5 w7 (w.heap.size + 1) id 1 kind lang (.slice va m vc)) (.slice va m vc) U := by
              rw [HUO.out]
              have hu := HUF.out
              rw [HUO.out] at hu
              have ho := HO.out
              rw [← HMM.out] at ho
              refine flds_own ho (by rw [put5_size, hs7]; exact Nat.le_refl _) (fun g i h => hc7 g i ?_) hu B5
              have := HS2.out
              omega
            rw [← hw7]
            change bodyPost _ _ _ _ _ (put5 w7 (w.heap.size + 1) id 1 kind lang (.slice va m vc))
            generalize put5 w7 (w.heap.size + 1) id 1 kind lang (.slice va m vc) = w9 at S5 B5 F5 ⊢
            rw [HXE.out]
            exact bodyPost_ret (results_rec rfl _ w9 (w.heap.size + 1) id 1 kind lang (.slice va m vc) rfl S5) rfl ⟨_, rfl, ⟨va, m, vc, rfl, F5⟩, B5⟩
      · go_enter Tryd.func16, Tryd.ntmps16
        go_wp2_with fail
        refine HRR.out.mono ?_
        rintro e w1 ⟨rfl, b1⟩
        have HB1 := Lib.hid b1
        have HW1 := Lib.hid (HB0.out.bt b1)
        have hra := HRES.out w1 b1
        have HRA := Lib.hid hra
        obtain ⟨q0, q1, q2, q3, q4⟩ := hra.five
        have f0 := Lib.frozen_of_heap hra.par 0
        have f1 := Lib.frozen_of_heap hra.par 1
        have f4 := Lib.frozen_of_heap hra.par 4
        have g0 := Lib.frozen_of_heap hra.res 0
        have g1 := Lib.frozen_of_heap hra.res 1
        have g2 := Lib.frozen_of_heap hra.res 2
        have g3 := Lib.frozen_of_heap hra.res 3
        have g4 := Lib.frozen_of_heap hra.res 4
        have c0 := Lib.cell_of_heap hra.res 0
        have c1 := Lib.cell_of_heap hra.res 1
        have c2 := Lib.cell_of_heap hra.res 2
        have c3 := Lib.cell_of_heap hra.res 3
        have c4 := Lib.cell_of_heap hra.res 4
        clear hra
        have HR2 := Lib.hid HRA.out
        have HS2 : Hid (w.heap.size + 1 < w1.heap.size) := Lib.hid (by have := b1.size; have h2 := resW_size w id 3 kind lang a n0 c; omega)
        clear b1 HRA
        go_wp2
        go_loopw [4, 22] (fun vl vk wr => ∃ (k : Nat) (out : List Fld), vk = .int .i64 k ∧ k ≤ n0 ∧ out.length ≤ k ∧ Hid (D = (dp (prevOf l k) (l.drop k)).map (out ++ ·)) ∧ Hid (OwnF wr w1.heap.size vl out) ∧ Hid (Below w1.heap.size w1 wr)) (fun _ vk _ => n0 - (intOf vk).toNat)
        case atStart => exact ⟨0, [], rfl, by omega, by simp, Lib.hid (by rw [HD.out, down_dp l.length l none (Nat.le_refl _) (conforms_paired HCF.out)]; simp [prevOf]), Lib.hid (OwnF.nil _ _), Lib.hid (Below.refl _ _)⟩
        case round =>
          obtain ⟨k, out, rfl, hk, hol, HK, HO, HB⟩ := hrel
          have HBW := Lib.hid (HW1.out.bt HB.out)
          have hra := HR2.out.below HB.out HS2.out
          obtain ⟨q0, q1, q2, q3, q4⟩ := hra.five
          have HRA := Lib.hid hra
          clear hra
          by_cases hlt : k < n0
          · have hltz : (k : Int) < (n0 : Int) := by omega
            obtain ⟨f, hf⟩ : ∃ f, l[k]? = some f := ⟨_, List.getElem?_eq_getElem (by have := HN.out; omega)⟩
            rcases HCL.out with h0 | ⟨b, o, rfl, hbl, hcl⟩
            · omega
            obtain ⟨p0, p1, p2, p3⟩ := (hcl k f hf).below HBW.out hbl
            have hif := HIN.out f (List.mem_of_getElem? hf)
            have hst := HK.out
            have HFR := Lib.hid (Below.alloc (Below.refl wr.heap.size wr) (Nat.le_refl _) (.cells #[.string (lb f.tag), .string (lb f.ind), .slice f.sa f.subs.length f.sc, .int .i64 f.auth] 41))
            have HBA : Hid (Below w1.heap.size w1 (fldW wr (lb f.tag) (lb f.ind) f.sa f.subs.length f.sc f.auth)) := Lib.hid (HB.out.alloc HB.out.size _)
            have HOA : Hid (OwnF (fldW wr (lb f.tag) (lb f.ind) f.sa f.subs.length f.sc f.auth) w1.heap.size u4 out) := Lib.hid (HO.out.below HFR.out)
            have HF4 : Hid (∀ (x y : ByteArray) (O : Obj), x = lb f.tag → y = lb f.ind → ∀ sn, sn = f.subs.length → ∀ j u, (flatE fldE [f])[j]? = some u → ((wr.alloc O).alloc (.cells #[.string x, .string y, .slice f.sa sn f.sc, .int .i64 f.auth] 41)).cell? ((⟨wr.heap.size + 1, 0, none⟩ : Addr).add j) = some u) := Lib.hid (fun x y O hx hy sn hs => cells_one (four_new2 wr O _ f x y hx hy sn hs))
            have hsz : (lb f.ind).size = 2 := by rw [lb_size, hif]
            rw [dp_step hf] at hst
            have e1 := lb_beq f.tag t490
            rw [lb_list t490] at e1
            have e2 := lb_beq f.tag t830
            rw [lb_list t830] at e2
            by_cases a1 : f.tag = t490
            · rw [if_pos a1] at hst
              obtain ⟨T, hT⟩ : ∃ T, T = lb f.tag := ⟨_, rfl⟩
              obtain ⟨I, hI⟩ : ∃ I, I = lb f.ind := ⟨_, rfl⟩
              obtain ⟨sn, hsn⟩ : ∃ sn, sn = f.subs.length := ⟨_, rfl⟩
              rw [← hT] at p0 HOA HFR HBA e1 e2
              rw [← hI] at p1 HOA HFR HBA hsz 
              rw [← hsn] at p2 HOA HFR HBA 
              have z1 : (1 : Int) ≤ ((I.size : Nat) : Int) := by omega
              have z0 : (0 : Int) ≤ 1 := by omega
              have HTI := Lib.hid (And.intro hT (And.intro hI hsn))
              obtain ⟨r0, r1, r2, r3, r4⟩ := (HR2.out.below HBA.out HS2.out).five
              have b1 : (T.toList == [52, 57, 48]) = true := e1.trans (by rw [a1]; simp)
              have HST := Lib.hid hst
              clear hst hcl hf e1 e2 a1 hT hI hsn HK hif
              go_wp2
              go_roundw
              case rel => exact ⟨k + 1, out, by go_num, by omega, by omega, HST, HOA, HBA⟩
              case measure => simp [intOf]; omega
            rw [if_neg a1] at hst
            by_cases a2 : f.tag = t830
            · rw [if_pos a2] at hst
              obtain ⟨j, p, rfl, hj, hpv⟩ := prev_490 HCF.out hf a2
              rw [hpv] at hst
              simp only at hst
              obtain ⟨s0, s1, s2, s3⟩ := (hcl j p hj).below (HW1.out.bt HBA.out).drew hbl
              obtain ⟨t0, t1, t2, t3⟩ := (hcl j p hj).below (((HW1.out.bt HBA.out).alloc (HW1.out.bt HBA.out).size (.cells #[.string ⟨#[]⟩, .string ⟨#[]⟩, .slice none 0 0, .int .i64 0] 41)).drew) hbl
              have hpj := fun W (hW : Below (fldW wr (lb f.tag) (lb f.ind) f.sa f.subs.length f.sc f.auth).heap.size (fldW wr (lb f.tag) (lb f.ind) f.sa f.subs.length f.sc f.auth) W) => pJoined p f W ((HFL.out p (List.mem_of_getElem? hj)).below ((HW1.out.bt HBA.out).bt hW) (Nat.le_refl _)) ((HFL.out f (List.mem_of_getElem? hf)).below ((HW1.out.bt HBA.out).bt hW) (Nat.le_refl _)) (HSM.out p (List.mem_of_getElem? hj)) (HIN.out p (List.mem_of_getElem? hj))
              obtain ⟨J, hJ⟩ : ∃ J, J = joinB p f := ⟨_, rfl⟩
              have hV : joinV p f = if joinB p f = true then .agg #[.string ⟨#[52, 52, 48]⟩, .string (lb f.ind), .slice f.sa f.subs.length f.sc, .int .i64 f.auth] else .agg #[.string ⟨#[]⟩, .string ⟨#[]⟩, .slice none 0 0, .int .i64 0] := rfl
              obtain ⟨V, hVV⟩ : ∃ V, V = joinV p f := ⟨_, rfl⟩
              rw [← hVV, ← hJ] at hV
              rw [← hJ] at hst
              simp only [← hVV, ← hJ] at hpj
              obtain ⟨T, hT⟩ : ∃ T, T = lb f.tag := ⟨_, rfl⟩
              obtain ⟨I, hI⟩ : ∃ I, I = lb f.ind := ⟨_, rfl⟩
              obtain ⟨sn, hsn⟩ : ∃ sn, sn = f.subs.length := ⟨_, rfl⟩
              simp only [← hT] at p0 HOA HFR HBA e1 e2 hpj s0 s1 s2 s3 t0 t1 t2 t3
              simp only [← hI] at p1 HOA HFR HBA hsz hV hpj s0 s1 s2 s3 t0 t1 t2 t3
              simp only [← hsn] at p2 HOA HFR HBA hV hpj s0 s1 s2 s3 t0 t1 t2 t3
              have z1 : (1 : Int) ≤ ((I.size : Nat) : Int) := by omega
              have z0 : (0 : Int) ≤ 1 := by omega
              have HTI := Lib.hid (And.intro hT (And.intro hI hsn))
              obtain ⟨r0, r1, r2, r3, r4⟩ := (HR2.out.below HBA.out HS2.out).five
              have b1 : (T.toList == [52, 57, 48]) = false := e1.trans (by simpa using a1)
              have b2 : (T.toList == [56, 51, 48]) = true := e2.trans (by rw [a2]; simp)
              obtain ⟨PT, hPT⟩ : ∃ T, T = lb p.tag := ⟨_, rfl⟩
              obtain ⟨PI, hPI⟩ : ∃ I, I = lb p.ind := ⟨_, rfl⟩
              obtain ⟨pn, hpn⟩ : ∃ sn, sn = p.subs.length := ⟨_, rfl⟩
              simp only [← hPT, ← hPI, ← hpn] at s0 s1 s2 s3 t0 t1 t2 t3 hpj
              have hwp : IntKind.i64.wrap (j : Int) = (j : Int) := by rw [IntKind.wrap_i64]; omega
              have hj1 : (j : Int) < (n0 : Int) := by omega
              have hj2 : (0 : Int) ≤ (j : Int) := by omega
              cases J with
              | false =>
                rw [if_neg (by simp)] at hV hst
                subst hV
                have HXE : Hid (X = (rec0, 12)) := Lib.hid (by rw [HX.out, hst]; rfl)
                have HPJ := Lib.hid hpj
                clear hpj hst hcl hf hj hpv e1 e2 a1 a2 hT hI hsn hPT hPI hpn HK hif hJ hVV
                have HBD : Hid (Below w1.heap.size w1 (fldW wr T I f.sa sn f.sc f.auth).drew) := Lib.hid HBA.out.drew
                have HOD : Hid (OwnF (fldW wr T I f.sa sn f.sc f.auth).drew w1.heap.size u4 out) := Lib.hid (HOA.out.below (Below.refl _ _).drew)
                have HXD : Hid ((fldW wr T I f.sa sn f.sc f.auth).drew.heap[wr.heap.size]? = some (.cells #[.string T, .string I, .slice f.sa sn f.sc, .int .i64 f.auth] 41 (0, 0))) := Lib.hid (heap_alloc_new wr _)
                have HLD : Hid (wr.heap.size < (fldW wr T I f.sa sn f.sc f.auth).drew.heap.size) := Lib.hid (by show _ < (fldW wr T I f.sa sn f.sc f.auth).heap.size; rw [World.size_alloc]; exact Nat.lt_succ_self _)
                have HBE : Hid (Below w1.heap.size w1 ((fldW wr T I f.sa sn f.sc f.auth).alloc (.cells #[.string ⟨#[]⟩, .string ⟨#[]⟩, .slice none 0 0, .int .i64 0] 41)).drew) := Lib.hid (HBA.out.alloc HBA.out.size _).drew
                have HOE : Hid (OwnF ((fldW wr T I f.sa sn f.sc f.auth).alloc (.cells #[.string ⟨#[]⟩, .string ⟨#[]⟩, .slice none 0 0, .int .i64 0] 41)).drew w1.heap.size u4 out) := Lib.hid (HOA.out.below ((Below.refl _ _).alloc (Nat.le_refl _) _).drew)
                have HXE2 : Hid (((fldW wr T I f.sa sn f.sc f.auth).alloc (.cells #[.string ⟨#[]⟩, .string ⟨#[]⟩, .slice none 0 0, .int .i64 0] 41)).drew.heap[wr.heap.size]? = some (.cells #[.string T, .string I, .slice f.sa sn f.sc, .int .i64 f.auth] 41 (0, 0))) := Lib.hid ((Lib.alloc_old _ _ _ HLD.out).trans (heap_alloc_new wr _))
                have HLE : Hid (wr.heap.size < ((fldW wr T I f.sa sn f.sc f.auth).alloc (.cells #[.string ⟨#[]⟩, .string ⟨#[]⟩, .slice none 0 0, .int .i64 0] 41)).drew.heap.size) := Lib.hid (by show _ < ((fldW wr T I f.sa sn f.sc f.auth).alloc _).heap.size; rw [World.size_alloc]; exact Nat.lt_succ_of_lt HLD.out)
                obtain ⟨v0, v1, v2, v3, v4⟩ := (HR2.out.below HBE.out HS2.out).five
                have m0 := block_cells (((Below.refl (fldW wr T I f.sa sn f.sc f.auth).heap.size (fldW wr T I f.sa sn f.sc f.auth)).alloc (Nat.le_refl _) (.cells #[.string ⟨#[]⟩, .string ⟨#[]⟩, .slice none 0 0, .int .i64 0] 41)).drew) 0 _ rfl
                have m1 := block_cells (((Below.refl (fldW wr T I f.sa sn f.sc f.auth).heap.size (fldW wr T I f.sa sn f.sc f.auth)).alloc (Nat.le_refl _) (.cells #[.string ⟨#[]⟩, .string ⟨#[]⟩, .slice none 0 0, .int .i64 0] 41)).drew) 1 _ rfl
                have m2 := block_cells (((Below.refl (fldW wr T I f.sa sn f.sc f.auth).heap.size (fldW wr T I f.sa sn f.sc f.auth)).alloc (Nat.le_refl _) (.cells #[.string ⟨#[]⟩, .string ⟨#[]⟩, .slice none 0 0, .int .i64 0] 41)).drew) 2 _ rfl
                have m3 := block_cells (((Below.refl (fldW wr T I f.sa sn f.sc f.auth).heap.size (fldW wr T I f.sa sn f.sc f.auth)).alloc (Nat.le_refl _) (.cells #[.string ⟨#[]⟩, .string ⟨#[]⟩, .slice none 0 0, .int .i64 0] 41)).drew) 3 _ rfl
                have HG : Hid (∀ g, u4.ownBlock = some g → g < wr.heap.size) := Lib.hid (fun g e => (World.ownsRow.lt HO.out _ e).2)
                have HWW : Hid (w1.heap.size ≤ wr.heap.size) := Lib.hid HB.out.size
                go_wp2_with fail
                go_region_law (go_simp; go_at_call 38; refine (HPJ.out _ (by first | exact (Below.refl _ _).drew | exact ((Below.refl _ _).alloc (Nat.le_refl _) _).drew)).mono ?_; rintro e w3 ⟨rfl, b3⟩; first | (have hh := late_block b3; have e0 := Lib.cell_of_heap hh 0; have e1 := Lib.cell_of_heap hh 1; have e2 := Lib.cell_of_heap hh 2; have e3 := Lib.cell_of_heap hh 3; have i0 := Lib.frozen_of_heap hh 0; have i1 := Lib.frozen_of_heap hh 1; have i2 := Lib.frozen_of_heap hh 2; have i3 := Lib.frozen_of_heap hh 3) | skip)
                all_goals first
                  | with_reducible refine gen_world (JoinI w1 u4 out wr.heap.size w3.heap.size T I ⟨#[]⟩ ⟨#[]⟩ (.slice f.sa sn f.sc) (.slice none 0 0) f.auth 0) (join_after HBD.out HOD.out HXD.out HLD.out b3) ?_
                  | refine gen_world (JoinI w1 u4 out wr.heap.size (wr.heap.size + 1) T I ⟨#[]⟩ ⟨#[]⟩ (.slice f.sa sn f.sc) (.slice none 0 0) f.auth 0) (join_ahead HBE.out HOE.out HXE2.out HLE.out b3 hh rfl HG.out HWW.out) ?_
                all_goals
                  intro wz JI
                  have HBZ := Lib.hid (HW1.out.bt JI.bel)
                  clear q0 q1 q2 q3 q4 r0 r1 r2 r3 r4 v0 v1 v2 v3 v4 m0 m1 m2 m3 s0 s1 s2 s3 t0 t1 t2 t3 HRA
                  have hra := HR2.out.below JI.bel HS2.out
                  have HRA := Lib.hid hra
                  obtain ⟨q0, q1, q2, q3, q4⟩ := hra.five
                  have f0 := Lib.frozen_of_heap hra.par 0
                  have f1 := Lib.frozen_of_heap hra.par 1
                  have f4 := Lib.frozen_of_heap hra.par 4
                  have g0 := Lib.frozen_of_heap hra.res 0
                  have g1 := Lib.frozen_of_heap hra.res 1
                  have g2 := Lib.frozen_of_heap hra.res 2
                  have g3 := Lib.frozen_of_heap hra.res 3
                  have g4 := Lib.frozen_of_heap hra.res 4
                  have c0 := Lib.cell_of_heap hra.res 0
                  have c1 := Lib.cell_of_heap hra.res 1
                  have c2 := Lib.cell_of_heap hra.res 2
                  have c3 := Lib.cell_of_heap hra.res 3
                  have c4 := Lib.cell_of_heap hra.res 4
                  clear hra
                  clear JI
                  go_wp2
                  (try simp only [Exit.inBlock, Exit.then])
                  have S5 := five_put (id := 0) (ver := 0) (kind := 0) (lang := ⟨#[]⟩) (s := .slice none 0 0) HRA.out.some
                  have B5 : Below w.heap.size w (put5 wz (w.heap.size + 1) 0 0 0 ⟨#[]⟩ (.slice none 0 0)) := below_put5 HBZ.out (Nat.le_succ _)
                  change bodyPost _ _ _ _ _ (put5 wz (w.heap.size + 1) 0 0 0 ⟨#[]⟩ (.slice none 0 0))
                  generalize put5 wz (w.heap.size + 1) 0 0 0 ⟨#[]⟩ (.slice none 0 0) = w9 at S5 B5 ⊢
                  rw [HXE.out]
                  exact bodyPost_ret (results_rec rfl _ w9 (w.heap.size + 1) 0 0 0 ⟨#[]⟩ (.slice none 0 0) rfl S5) rfl ⟨_, rfl, recV_zero w9, B5⟩
              | true =>
                rw [if_pos rfl] at hV hst
                subst hV
                have HST : Hid (D = (dp (prevOf l (j + 1 + 1)) (l.drop (j + 1 + 1))).map ((out ++ [withF f t440 f.ind f.auth]) ++ ·)) := Lib.hid (by rw [hst, map_app])
                have HPJ := Lib.hid hpj
                clear hpj hst hcl hf hj hpv e1 e2 a1 a2 hT hI hsn hPT hPI hpn HK hif hJ hVV
                have HBD : Hid (Below w1.heap.size w1 (fldW wr T I f.sa sn f.sc f.auth).drew) := Lib.hid HBA.out.drew
                have HOD : Hid (OwnF (fldW wr T I f.sa sn f.sc f.auth).drew w1.heap.size u4 out) := Lib.hid (HOA.out.below (Below.refl _ _).drew)
                have HXD : Hid ((fldW wr T I f.sa sn f.sc f.auth).drew.heap[wr.heap.size]? = some (.cells #[.string T, .string I, .slice f.sa sn f.sc, .int .i64 f.auth] 41 (0, 0))) := Lib.hid (heap_alloc_new wr _)
                have HLD : Hid (wr.heap.size < (fldW wr T I f.sa sn f.sc f.auth).drew.heap.size) := Lib.hid (by show _ < (fldW wr T I f.sa sn f.sc f.auth).heap.size; rw [World.size_alloc]; exact Nat.lt_succ_self _)
                have HBE : Hid (Below w1.heap.size w1 ((fldW wr T I f.sa sn f.sc f.auth).alloc (.cells #[.string ⟨#[]⟩, .string ⟨#[]⟩, .slice none 0 0, .int .i64 0] 41)).drew) := Lib.hid (HBA.out.alloc HBA.out.size _).drew
                have HOE : Hid (OwnF ((fldW wr T I f.sa sn f.sc f.auth).alloc (.cells #[.string ⟨#[]⟩, .string ⟨#[]⟩, .slice none 0 0, .int .i64 0] 41)).drew w1.heap.size u4 out) := Lib.hid (HOA.out.below ((Below.refl _ _).alloc (Nat.le_refl _) _).drew)
                have HXE2 : Hid (((fldW wr T I f.sa sn f.sc f.auth).alloc (.cells #[.string ⟨#[]⟩, .string ⟨#[]⟩, .slice none 0 0, .int .i64 0] 41)).drew.heap[wr.heap.size]? = some (.cells #[.string T, .string I, .slice f.sa sn f.sc, .int .i64 f.auth] 41 (0, 0))) := Lib.hid ((Lib.alloc_old _ _ _ HLD.out).trans (heap_alloc_new wr _))
                have HLE : Hid (wr.heap.size < ((fldW wr T I f.sa sn f.sc f.auth).alloc (.cells #[.string ⟨#[]⟩, .string ⟨#[]⟩, .slice none 0 0, .int .i64 0] 41)).drew.heap.size) := Lib.hid (by show _ < ((fldW wr T I f.sa sn f.sc f.auth).alloc _).heap.size; rw [World.size_alloc]; exact Nat.lt_succ_of_lt HLD.out)
                obtain ⟨v0, v1, v2, v3, v4⟩ := (HR2.out.below HBE.out HS2.out).five
                have m0 := block_cells (((Below.refl (fldW wr T I f.sa sn f.sc f.auth).heap.size (fldW wr T I f.sa sn f.sc f.auth)).alloc (Nat.le_refl _) (.cells #[.string ⟨#[]⟩, .string ⟨#[]⟩, .slice none 0 0, .int .i64 0] 41)).drew) 0 _ rfl
                have m1 := block_cells (((Below.refl (fldW wr T I f.sa sn f.sc f.auth).heap.size (fldW wr T I f.sa sn f.sc f.auth)).alloc (Nat.le_refl _) (.cells #[.string ⟨#[]⟩, .string ⟨#[]⟩, .slice none 0 0, .int .i64 0] 41)).drew) 1 _ rfl
                have m2 := block_cells (((Below.refl (fldW wr T I f.sa sn f.sc f.auth).heap.size (fldW wr T I f.sa sn f.sc f.auth)).alloc (Nat.le_refl _) (.cells #[.string ⟨#[]⟩, .string ⟨#[]⟩, .slice none 0 0, .int .i64 0] 41)).drew) 2 _ rfl
                have m3 := block_cells (((Below.refl (fldW wr T I f.sa sn f.sc f.auth).heap.size (fldW wr T I f.sa sn f.sc f.auth)).alloc (Nat.le_refl _) (.cells #[.string ⟨#[]⟩, .string ⟨#[]⟩, .slice none 0 0, .int .i64 0] 41)).drew) 3 _ rfl
                have HG : Hid (∀ g, u4.ownBlock = some g → g < wr.heap.size) := Lib.hid (fun g e => (World.ownsRow.lt HO.out _ e).2)
                have HWW : Hid (w1.heap.size ≤ wr.heap.size) := Lib.hid HB.out.size
                go_wp2_with fail
                go_region_law (go_simp; go_at_call 38; refine (HPJ.out _ (by first | exact (Below.refl _ _).drew | exact ((Below.refl _ _).alloc (Nat.le_refl _) _).drew)).mono ?_; rintro e w3 ⟨rfl, b3⟩; first | (have hh := late_block b3; have e0 := Lib.cell_of_heap hh 0; have e1 := Lib.cell_of_heap hh 1; have e2 := Lib.cell_of_heap hh 2; have e3 := Lib.cell_of_heap hh 3; have i0 := Lib.frozen_of_heap hh 0; have i1 := Lib.frozen_of_heap hh 1; have i2 := Lib.frozen_of_heap hh 2; have i3 := Lib.frozen_of_heap hh 3) | skip)
                all_goals first
                  | with_reducible refine gen_world (JoinI w1 u4 out wr.heap.size w3.heap.size T I ⟨#[52, 52, 48]⟩ I (.slice f.sa sn f.sc) (.slice f.sa sn f.sc) f.auth f.auth) (join_after HBD.out HOD.out HXD.out HLD.out b3) ?_
                  | refine gen_world (JoinI w1 u4 out wr.heap.size (wr.heap.size + 1) T I ⟨#[52, 52, 48]⟩ I (.slice f.sa sn f.sc) (.slice f.sa sn f.sc) f.auth f.auth) (join_ahead HBE.out HOE.out HXE2.out HLE.out b3 hh rfl HG.out HWW.out) ?_
                all_goals
                  intro wz JI
                  have HJI := Lib.hid JI
                  have k0 := Lib.cell_of_heap JI.blk 0
                  have k1 := Lib.cell_of_heap JI.blk 1
                  have k2 := Lib.cell_of_heap JI.blk 2
                  have k3 := Lib.cell_of_heap JI.blk 3
                  have y0 := Lib.frozen_of_heap JI.blk 0
                  have y1 := Lib.frozen_of_heap JI.blk 1
                  have y2 := Lib.frozen_of_heap JI.blk 2
                  have y3 := Lib.frozen_of_heap JI.blk 3
                  obtain ⟨-, -, -, x0, x1, x2, x3⟩ := JI
                  go_wp2_with (at_builtin; refine append_flds rfl _ _ rfl w1.heap.size u4 out rfl (own_put _ HJI.out.own HG.out) ⟨wz.heap.size, 0, none⟩ 1 1 [withF f t440 f.ind f.auth] rfl rfl (cells_one (four_put_new wz wr.heap.size _ _ _ _ _ (withF f t440 f.ind f.auth) _ _ rfl HTI.out.2.1 _ HTI.out.2.2)) (by omega) (by have := HJI.out.bel.size; simp; omega) ?_)
                  intro v5 w5 hown hb5
                  have HO3 : Hid (OwnF w5 w1.heap.size v5 (out ++ [withF f t440 f.ind f.auth])) := Lib.hid hown
                  have HB3 : Hid (Below w1.heap.size w1 w5) := Lib.hid (((below_put4 HJI.out.bel HWW.out).alloc (by rw [put4_size]; exact HJI.out.bel.size) _).trans hb5)
                  clear hown hb5
                  go_wp2
                  go_roundw
                  case rel => exact ⟨j + 1 + 1, out ++ [withF f t440 f.ind f.auth], by go_num, by omega, by rw [List.length_append]; simp only [List.length_cons, List.length_nil]; omega, HST, HO3, HB3⟩
                  case measure => simp [intOf]; omega
            rw [if_neg a2] at hst
            obtain ⟨T, hT⟩ : ∃ T, T = lb f.tag := ⟨_, rfl⟩
            obtain ⟨I, hI⟩ : ∃ I, I = lb f.ind := ⟨_, rfl⟩
            obtain ⟨sn, hsn⟩ : ∃ sn, sn = f.subs.length := ⟨_, rfl⟩
            rw [← hT] at p0 HOA HFR HBA e1 e2
            rw [← hI] at p1 HOA HFR HBA hsz 
            rw [← hsn] at p2 HOA HFR HBA 
            have z1 : (1 : Int) ≤ ((I.size : Nat) : Int) := by omega
            have z0 : (0 : Int) ≤ 1 := by omega
            have HTI := Lib.hid (And.intro hT (And.intro hI hsn))
            obtain ⟨r0, r1, r2, r3, r4⟩ := (HR2.out.below HBA.out HS2.out).five
            have b1 : (T.toList == [52, 57, 48]) = false := e1.trans (by simpa using a1)
            have b2 : (T.toList == [56, 51, 48]) = false := e2.trans (by simpa using a2)
            have HST : Hid (D = (dp (prevOf l (k + 1)) (l.drop (k + 1))).map ((out ++ [f]) ++ ·)) := Lib.hid (by rw [hst, map_app])
            clear hst hcl hf e1 e2 a1 a2 hT hI hsn HK HFR hif
            go_wp2_with (at_builtin; refine append_flds rfl _ _ rfl w1.heap.size u4 out rfl (HOA.out.below ((Below.refl _ _).alloc (Nat.le_refl _) _)) ⟨wr.heap.size + 1, 0, none⟩ 1 1 [f] rfl rfl (HF4.out T I _ HTI.out.1 HTI.out.2.1 sn HTI.out.2.2) (by omega) (by have := HBA.out.size; simp at this ⊢; omega) ?_)
            intro v3 w3 hown hb3
            have HO3 : Hid (OwnF w3 w1.heap.size v3 (out ++ [f])) := Lib.hid hown
            have HB3 : Hid (Below w1.heap.size w1 w3) := Lib.hid ((HBA.out.alloc HBA.out.size _).trans hb3)
            clear hown hb3
            go_wp2
            go_roundw
            case rel => exact ⟨k + 1, out ++ [f], by go_num, by omega, by rw [List.length_append]; simp only [List.length_cons, List.length_nil]; omega, HST, HO3, HB3⟩
            case measure => simp [intOf]; omega
          · have hltz : ¬ (k : Int) < (n0 : Int) := by omega
            have hUo : D = some out := by
              rw [HK.out, List.drop_eq_nil_of_le (by have := HN.out; omega)]
              simp [dp]
            obtain ⟨va, vc, rfl⟩ := HO.out.val
            obtain ⟨U, hU⟩ : ∃ U, U = out := ⟨_, rfl⟩
            have HUO := Lib.hid hU
            have HUF : Hid (∀ f ∈ U, FldAt w f) := Lib.hid (by rw [hU]; exact HDF.out out hUo)
            have hra := HRA.out
            have f1 := Lib.frozen_of_heap hra.par 1
            have f4 := Lib.frozen_of_heap hra.par 4
            have g0 := Lib.frozen_of_heap hra.res 0
            have g1 := Lib.frozen_of_heap hra.res 1
            have g2 := Lib.frozen_of_heap hra.res 2
            have g3 := Lib.frozen_of_heap hra.res 3
            have g4 := Lib.frozen_of_heap hra.res 4
            have c0 := Lib.cell_of_heap hra.res 0
            have c1 := Lib.cell_of_heap hra.res 1
            have c2 := Lib.cell_of_heap hra.res 2
            have c3 := Lib.cell_of_heap hra.res 3
            have c4 := Lib.cell_of_heap hra.res 4
            obtain ⟨m, hm⟩ : ∃ m, m = out.length := ⟨_, rfl⟩
            have HMM := Lib.hid hm
            rw [← hm]
            have HXE : Hid (X = (⟨id, 2, kind, lang, U⟩, 0)) := Lib.hid (by rw [HX.out, hUo, hU]; rfl)
            clear hUo hm hra HK hU
            go_wp2
            (try simp only [Exit.inBlock, Exit.then])
            obtain ⟨w7, hw7⟩ : ∃ w7, w7 = (wr.setCell ⟨w.heap.size, 4, none⟩ (.slice va m vc)).setCell ⟨w.heap.size, 1, none⟩ (.int .i64 2) := ⟨_, rfl⟩
            have hs7 : w7.heap.size = wr.heap.size := by rw [hw7]; simp [World.setCell]
            have hc7 : ∀ g i, w.heap.size + 1 < g → (put5 w7 (w.heap.size + 1) id 2 kind lang (.slice va m vc)).cell? ⟨g, i, none⟩ = wr.cell? ⟨g, i, none⟩ := fun g i h => by
              rw [put5_away (by omega), hw7, cell_away (by omega), cell_away (by omega)]
            have hsm : ∀ j, j < 5 → (w7.cell? ⟨w.heap.size + 1, j, none⟩).isSome = true := fun j hj => by
              rw [hw7, cell_away (by omega), cell_away (by omega)]
              exact HRA.out.some j hj
            have B7 : Below w.heap.size w w7 := by
              rw [hw7]
              exact (HBW.out.setCell (p := ⟨w.heap.size, 4, none⟩) (Nat.le_refl _) _).setCell (p := ⟨w.heap.size, 1, none⟩) (Nat.le_refl _) _
            have S5 := five_put (id := id) (ver := 2) (kind := kind) (lang := lang) (s := .slice va m vc) hsm
            have B5 : Below w.heap.size w (put5 w7 (w.heap.size + 1) id 2 kind lang (.slice va m vc)) := below_put5 B7 (Nat.le_succ _)
            have F5 : Flds (put5 w7 (w.heap.size + 1) id 2 kind lang (.slice va m vc)) (.slice va m vc) U := by
              rw [HUO.out]
              have hu := HUF.out
              rw [HUO.out] at hu
              have ho := HO.out
              rw [← HMM.out] at ho
              refine flds_own ho (by rw [put5_size, hs7]; exact Nat.le_refl _) (fun g i h => hc7 g i ?_) hu B5
              have := HS2.out
              omega
            rw [← hw7]
            change bodyPost _ _ _ _ _ (put5 w7 (w.heap.size + 1) id 2 kind lang (.slice va m vc))
            generalize put5 w7 (w.heap.size + 1) id 2 kind lang (.slice va m vc) = w9 at S5 B5 F5 ⊢
            rw [HXE.out]
            exact bodyPost_ret (results_rec rfl _ w9 (w.heap.size + 1) id 2 kind lang (.slice va m vc) rfl S5) rfl ⟨_, rfl, ⟨va, m, vc, rfl, F5⟩, B5⟩
end Go.Proofs.YtimecccphbgdeaaDoor
