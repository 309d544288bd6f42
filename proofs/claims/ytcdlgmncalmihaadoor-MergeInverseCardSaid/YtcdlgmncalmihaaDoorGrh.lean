/- The walks of the reference's Copy, has and tagged (layer 16). -/
import Derived.Test.YtcdlgmncalmihaaDoorGpm
import Derived.Deep.RegionLaw
namespace Go.Proofs.YtcdlgmncalmihaaDoor
open Go Go.RowKit

theorem sameF_comm (f g : Fld) : sameF f g = sameF g f := by
  unfold sameF
  rw [Bool.eq_iff_iff]
  simp only [Bool.and_eq_true, decide_eq_true_eq]
  constructor <;> rintro ⟨⟨⟨h1, h2⟩, h3⟩, h4⟩ <;> exact ⟨⟨⟨h1.symm, h2.symm⟩, h3.symm⟩, h4.symm⟩
theorem results_one {fn : Func} {t : Tmp} (h : fn.results = #[.cell t 31]) (tmps : Array Value) (w : World) (g : Nat) (a b c : Int) (d : ByteArray) (e : Value) {T : TypeId} (ht : tmps.getD t undef = .pointer (some ⟨g, 0, none⟩))
    (hg : w.heap[g]? = some (.cells #[.int .i64 a, .int .i64 b, .int .i64 c, .string d, e] T (0, 0))) :
    (results fn tmps).run Tryd.prog w = .ok (.agg #[.int .i64 a, .int .i64 b, .int .i64 c, .string d, e]) w := by
  have q0 := Lib.cell_of_heap hg 0
  have q1 := Lib.cell_of_heap hg 1
  have q2 := Lib.cell_of_heap hg 2
  have q3 := Lib.cell_of_heap hg 3
  have q4 := Lib.cell_of_heap hg 4
  clear hg
  unfold results
  rw [h]
  simp only [List.mapM_toArray, List.mapM_cons, List.mapM_nil]
  rw [ht]
  go_simp
abbrev cW (w : World) (id ver kind : Int) (lang : ByteArray) (xa : Option Addr) (xn xc : Nat) : World := (w.alloc (.cells #[.int .i64 id, .int .i64 ver, .int .i64 kind, .string lang, .slice xa xn xc] 31)).alloc (.cells #[.int .i64 0, .int .i64 0, .int .i64 0, .string ⟨#[]⟩, .slice none 0 0] 31)
structure CBlk (W : World) (n : Nat) (id ver kind : Int) (lang : ByteArray) (xa : Option Addr) (xn xc : Nat) : Prop where
  b0 : W.heap[n]? = some (.cells #[.int .i64 id, .int .i64 ver, .int .i64 kind, .string lang, .slice xa xn xc] 31 (0, 0))
  b1 : W.heap[n + 1]? = some (.cells #[.int .i64 0, .int .i64 0, .int .i64 0, .string ⟨#[]⟩, .slice none 0 0] 31 (0, 0))
theorem cW_blk {w W : World} {id ver kind : Int} {lang : ByteArray} {xa : Option Addr} {xn xc : Nat} {B : Nat} (hB : B = w.heap.size + 2) (h : Below B (cW w id ver kind lang xa xn xc) W) : CBlk W w.heap.size id ver kind lang xa xn xc := by
  subst hB
  exact ⟨(h.block _ (by omega)).trans ((alloc_old (by simp)).trans (alloc_at rfl)), (h.block _ (by omega)).trans (alloc_at (by simp))⟩

set_option maxRecDepth 100000 in
set_option maxHeartbeats 4000000 in
theorem rCopy (x : Rcd) (w : World) (hx : RcdAt w x) (hxl : x.r.fields.length ≤ 1000) :
    Calls Tryd.prog 33 #[recV5 x] w fun e w' => ∃ a n c, e = .returned (.agg #[.int .i64 x.r.id, .int .i64 x.r.ver, .int .i64 x.r.kind, .string x.r.lang, .slice a n c]) ∧ OwnF w' w.heap.size (.slice a n c) x.r.fields ∧ Below w.heap.size w w' := by
  have HXC := Lib.hid (rcd_cells hx)
  unfold recV5
  obtain ⟨⟨id, ver, kind, lang, xf⟩, xa, xc⟩ := x
  simp only at HXC hxl ⊢
  obtain ⟨xn, hxn⟩ : ∃ n, n = xf.length := ⟨_, rfl⟩
  rw [← hxn] at hxl ⊢
  have HXN := Lib.hid hxn
  have hb0 : Below w.heap.size w (cW w id ver kind lang xa xn xc) := ((Below.refl _ _).alloc (Nat.le_refl _) _).alloc (by simp) _
  have HB0 := Lib.hid hb0
  obtain ⟨B, hB⟩ : ∃ B, B = w.heap.size + 2 := ⟨_, rfl⟩
  have HBL : Hid (∀ W, Below B (cW w id ver kind lang xa xn xc) W → CBlk W w.heap.size id ver kind lang xa xn xc) := Lib.hid (fun W h => cW_blk hB h)
  have HBB : Hid (B = (cW w id ver kind lang xa xn xc).heap.size ∧ w.heap.size + 2 = B) := Lib.hid ⟨by rw [hB]; simp, hB.symm⟩
  clear hx hxn hb0 hB
  go_enter Tryd.func33, Tryd.ntmps33
  go_wp2
  go_loopw [3, 4] (fun vl vk wr => ∃ (k : Nat) (fa : Option Addr) (fn fc : Nat), vl = .slice fa fn fc ∧ vk = .int .i64 k ∧ k ≤ xn ∧ Hid (OwnF wr B (.slice fa fn fc) (xf.take k)) ∧ Hid (Below B (cW w id ver kind lang xa xn xc) wr)) (fun _ vk _ => xn - (intOf vk).toNat)
  case atStart => exact ⟨0, none, 0, 0, rfl, rfl, by omega, Lib.hid (OwnE.nil _ _ _ _), Lib.hid (Below.refl _ _)⟩
  case round =>
    obtain ⟨k, fa, fn, fc, rfl, rfl, hk, HO, HB⟩ := hrel
    have hblk := HBL.out _ HB.out
    have HKR := Lib.hid hblk
    have HBW : Hid (Below w.heap.size w wr) := Lib.hid (HB0.out.bt (by rw [← HBB.out.1]; exact HB.out))
    have q4 := Lib.cell_of_heap hblk.b0 4
    clear hblk
    by_cases hlt : k < xn
    · have hltz : (k : Int) < (xn : Int) := by omega
      obtain ⟨f, hf⟩ : ∃ f, xf[k]? = some f := ⟨_, List.getElem?_eq_getElem (by have := HXN.out; omega)⟩
      rcases HXC.out with h0 | ⟨b, o, hxa, hbl, hcl⟩
      · rw [h0] at hf; cases hf
      subst hxa
      obtain ⟨p0, p1, p2, p3⟩ := (hcl k f hf).below HBW.out hbl
      have HSTEP : Hid (xf.take (k + 1) = xf.take k ++ [f]) := Lib.hid (by rw [List.take_add_one, hf]; rfl)
      have HTL : Hid ((xf.take k).length + 1 ≤ 1000000) := Lib.hid (by rw [List.length_take]; omega)
      obtain ⟨T, hT⟩ : ∃ T, T = lb f.tag := ⟨_, rfl⟩
      obtain ⟨I, hI⟩ : ∃ I, I = lb f.ind := ⟨_, rfl⟩
      obtain ⟨sn, hsn⟩ : ∃ sn, sn = f.subs.length := ⟨_, rfl⟩
      have hnw : ∀ j u, (flatE fldE [f])[j]? = some u → (wr.alloc (.cells #[.string T, .string I, .slice f.sa sn f.sc, .int .i64 f.auth] 46)).cell? ((⟨wr.heap.size, 0, none⟩ : Addr).add j) = some u := cells_fld (by
        rw [hT, hI, hsn]
        refine ⟨?_, ?_, ?_, ?_⟩ <;> (rw [new1_cell]; rfl))
      rw [← hT] at p0
      rw [← hI] at p1
      rw [← hsn] at p2
      have HNW := Lib.hid hnw
      have hba : Below wr.heap.size wr (wr.alloc (.cells #[.string T, .string I, .slice f.sa sn f.sc, .int .i64 f.auth] 46)) := (Below.refl _ _).alloc (Nat.le_refl _) _
      have HO1 := Lib.hid (HO.out.below hba (Nat.le_refl _))
      have hBs : B ≤ wr.heap.size := by rw [HBB.out.1]; exact HB.out.size
      have HB1 := Lib.hid (HB.out.trans (hba.mono hBs))
      have hBs1 : B ≤ (wr.alloc (.cells #[.string T, .string I, .slice f.sa sn f.sc, .int .i64 f.auth] 46)).heap.size := Nat.le_trans hBs (by simp)
      clear hnw hba hcl hf hT hI hsn
      go_wp2_with (at_builtin; refine append_fldsE rfl _ _ rfl B (.slice fa fn fc) (xf.take k) rfl HO1.out ⟨wr.heap.size, 0, none⟩ 1 1 [f] rfl rfl (.inl (by decide)) HNW.out HTL.out hBs1 ?_)
      intro v6 w6 hown hgr hb6
      obtain ⟨a6, n6, c6, rfl⟩ : ∃ a n c, v6 = .slice a n c := by
        obtain ⟨a, c, h, -⟩ := (OwnE.rows fldE_len hown).shape
        exact ⟨a, _, c, h⟩
      have HO6 : Hid (OwnF w6 B (.slice a6 n6 c6) (xf.take (k + 1))) := Lib.hid (by rw [HSTEP.out]; exact hown)
      have HB6 : Hid (Below B (cW w id ver kind lang (some ⟨b, o, none⟩) xn xc) w6) := Lib.hid (HB1.out.trans hb6)
      clear hown hgr hb6 HTL
      go_wp2
      go_roundw
      case rel => exact ⟨k + 1, a6, n6, c6, rfl, by go_num, by omega, HO6, HB6⟩
      case measure => simp [intOf]; omega
    · have hltz : ¬ (k : Int) < (xn : Int) := by omega
      have HT : Hid (xf.take k = xf) := Lib.hid (List.take_of_length_le (by have := HXN.out; omega))
      have h0 := HKR.out
      have qf := Lib.frozen_of_heap h0.b0 4
      have e0 : (wr.setCell ⟨w.heap.size, 4, none⟩ (.slice fa fn fc)).heap[w.heap.size]? = some (.cells #[.int .i64 id, .int .i64 ver, .int .i64 kind, .string lang, .slice fa fn fc] 31 (0, 0)) := heap_setCell_same wr w.heap.size 4 _ _ (.slice fa fn fc) h0.b0
      have e1 := (set_block wr ⟨w.heap.size, 4, none⟩ (.slice fa fn fc) (w.heap.size + 1) (by show w.heap.size ≠ _; omega)).trans h0.b1
      have HE1 := Lib.hid e1
      have ho : OwnF (wr.setCell ⟨w.heap.size, 4, none⟩ (.slice fa fn fc)) B (.slice fa fn fc) xf := by
        have := HO.out
        rw [HT.out] at this
        exact OwnE.set this h0.b0 (by decide) 4 _
      have HOF := Lib.hid ho
      have HBS : Hid (Below w.heap.size w (wr.setCell ⟨w.heap.size, 4, none⟩ (.slice fa fn fc))) := Lib.hid (HBW.out.setCell (p := ⟨w.heap.size, 4, none⟩) (Nat.le_refl _) _)
      have HW0 := Lib.hid HBB.out.2
      have a0 := Lib.cell_of_heap e0 0
      have a1 := Lib.cell_of_heap e0 1
      have a2 := Lib.cell_of_heap e0 2
      have a3 := Lib.cell_of_heap e0 3
      have a4 := Lib.cell_of_heap e0 4
      have c0 := Lib.cell_of_heap e1 0
      have f0 := Lib.frozen_of_heap e1 0
      have c1 := Lib.cell_of_heap e1 1
      have f1 := Lib.frozen_of_heap e1 1
      have c2 := Lib.cell_of_heap e1 2
      have f2 := Lib.frozen_of_heap e1 2
      have c3 := Lib.cell_of_heap e1 3
      have f3 := Lib.frozen_of_heap e1 3
      have c4 := Lib.cell_of_heap e1 4
      have f4 := Lib.frozen_of_heap e1 4
      clear e0 e1 h0 ho HO HB
      go_wp2
      (try simp only [Exit.inBlock, Exit.then])
      change bodyPost _ _ _ _ _ (put5 (wr.setCell ⟨w.heap.size, 4, none⟩ (.slice fa fn fc)) (w.heap.size + 1) (.int .i64 id) (.int .i64 ver) (.int .i64 kind) (.string lang) (.slice fa fn fc))
      rw [put5_eq]
      have hb5 := putL_all [.int .i64 id, .int .i64 ver, .int .i64 kind, .string lang, .slice fa fn fc] _ (w.heap.size + 1) _ _ HE1.out rfl
      refine bodyPost_ret (results_one rfl _ _ (w.heap.size + 1) id ver kind lang (.slice fa fn fc) rfl hb5) rfl ⟨fa, fn, fc, rfl, ?_, putL_below _ _ _ _ HBS.out (by omega)⟩
      exact (OwnE.putL HOF.out HE1.out (by decide) 0 _).weaken (by have := HW0.out; omega)

set_option maxRecDepth 100000 in
set_option maxHeartbeats 2000000 in
theorem rHas (vf : Value) (l : List Fld) (f : Fld) (w : World) (hv : Flds w vf l) (hf : FldAt w f) (hl : l.length ≤ 1000000) (hs : ∀ g ∈ l, g.subs.length ≤ 1000000) (hsf : f.subs.length ≤ 1000000) :
    Calls Tryd.prog 34 #[vf, fldV f] w fun e w' => e = .returned (.bool (l.any (sameF f))) ∧ Below w.heap.size w w' := by
  obtain ⟨⟨pa, pc, rfl, hpc, hcells⟩, hfl⟩ := hv
  have hb0 : Below w.heap.size w (fldX w (lb f.tag) (lb f.ind) f.sa f.subs.length f.sc f.auth) := (Below.refl _ _).alloc (Nat.le_refl _) _
  have hcall : ∀ W, Below w.heap.size w W → ∀ g ∈ l, Calls Tryd.prog 17 #[.agg #[.string (lb g.tag), .string (lb g.ind), .slice g.sa g.subs.length g.sc, .int .i64 g.auth], .agg #[.string (lb f.tag), .string (lb f.ind), .slice f.sa f.subs.length f.sc, .int .i64 f.auth]] W fun e w' => e = .returned (.bool (sameF f g)) ∧ Below W.heap.size W w' := fun W hW g hg => by
    rw [sameF_comm]
    exact rSame07 g f W ((hfl g hg).below hW (Nat.le_refl _)) (hf.below hW (Nat.le_refl _)) (hs g hg) hsf
  have hfc : ∀ W, Below (fldX w (lb f.tag) (lb f.ind) f.sa f.subs.length f.sc f.auth).heap.size (fldX w (lb f.tag) (lb f.ind) f.sa f.subs.length f.sc f.auth) W → W.cell? ⟨w.heap.size, 0, none⟩ = some (.string (lb f.tag)) ∧ W.cell? ⟨w.heap.size, 1, none⟩ = some (.string (lb f.ind)) ∧ W.cell? ⟨w.heap.size, 2, none⟩ = some (.slice f.sa f.subs.length f.sc) ∧ W.cell? ⟨w.heap.size, 3, none⟩ = some (.int .i64 f.auth) := fun W h => ⟨block_cells h 0 _ rfl, block_cells h 1 _ rfl, block_cells h 2 _ rfl, block_cells h 3 _ rfl⟩
  obtain ⟨R, hR⟩ : ∃ R, R = l.any (sameF f) := ⟨_, rfl⟩
  rw [← hR]
  unfold fldV
  obtain ⟨n, hnn⟩ : ∃ n, n = l.length := ⟨_, rfl⟩
  rw [← hnn] at hl hpc ⊢
  obtain ⟨TF, hTF⟩ : ∃ T, T = lb f.tag := ⟨_, rfl⟩
  obtain ⟨IF, hIF⟩ : ∃ I, I = lb f.ind := ⟨_, rfl⟩
  obtain ⟨fn, hfn⟩ : ∃ sn, sn = f.subs.length := ⟨_, rfl⟩
  rw [← hTF, ← hIF, ← hfn] at hb0 hcall hfc ⊢
  have HB0 := Lib.hid hb0
  have HN := Lib.hid hnn
  have HC := Lib.hid hcells
  have HR := Lib.hid hR
  have HX := Lib.hid hcall
  have HFC := Lib.hid hfc
  clear hnn hcells hR hcall hfc hb0 hTF hIF hfn hfl hf hs hsf
  go_enter Tryd.func34, Tryd.ntmps34
  go_wp2
  go_loopw [5] (fun vk wr => ∃ k : Nat, vk = .int .i64 k ∧ k ≤ n ∧ Hid (R = (l.drop k).any (sameF f)) ∧ Hid (Below (fldX w TF IF f.sa fn f.sc f.auth).heap.size (fldX w TF IF f.sa fn f.sc f.auth) wr)) (fun vk _ => n - (intOf vk).toNat)
  case atStart => exact ⟨0, rfl, by omega, Lib.hid (by rw [HR.out, List.drop_zero]), Lib.hid (Below.refl _ _)⟩
  case round =>
    obtain ⟨k, rfl, hk, HK, HB⟩ := hrel
    have HBW := Lib.hid (HB0.out.bt HB.out)
    by_cases hlt : k < n
    · have hltz : (k : Int) < (n : Int) := by omega
      obtain ⟨g, hg⟩ : ∃ f, l[k]? = some f := ⟨_, List.getElem?_eq_getElem (by have := HN.out; omega)⟩
      rcases HC.out with h0 | ⟨b, o, rfl, hbl, hcl⟩
      · rw [h0] at hg; cases hg
      have hst := HK.out
      rw [any_step hg] at hst
      obtain ⟨p0, p1, p2, p3⟩ := (four_of (hcl k g hg)).below HBW.out hbl
      obtain ⟨q0, q1, q2, q3⟩ := HFC.out wr HB.out
      have hcall := HX.out wr.drew HBW.out.drew g (List.mem_of_getElem? hg)
      obtain ⟨S, hS⟩ : ∃ B, B = sameF f g := ⟨_, rfl⟩
      rw [← hS] at hst hcall
      obtain ⟨T, hT⟩ : ∃ T, T = lb g.tag := ⟨_, rfl⟩
      obtain ⟨I, hI⟩ : ∃ I, I = lb g.ind := ⟨_, rfl⟩
      obtain ⟨sn, hsn⟩ : ∃ sn, sn = g.subs.length := ⟨_, rfl⟩
      rw [← hT] at p0 hcall
      rw [← hI] at p1 hcall
      rw [← hsn] at p2 hcall
      have HCALL := Lib.hid hcall
      have HST := Lib.hid hst
      have HBD := Lib.hid HB.out.drew
      clear HK hcl hg hcall hst hS hT hI hsn HR
      cases S with
      | true =>
        have HF : Hid (R = true) := Lib.hid (by rw [HST.out]; rfl)
        clear HST
        go_wp2_with fail
        go_region_law (go_simp; go_at_call 17; refine HCALL.out.mono ?_; rintro e w3 ⟨rfl, b3⟩)
        all_goals have HB3 := Lib.hid (HB0.out.bt (HBD.out.bt b3))
        all_goals clear b3
        all_goals go_wp2
        all_goals go_ret
        all_goals exact ⟨by rw [HF.out]; rfl, HB3.out⟩
      | false =>
        have HF : Hid (R = (l.drop (k + 1)).any (sameF f)) := Lib.hid (by rw [HST.out]; rfl)
        clear HST
        go_wp2_with fail
        go_region_law (go_simp; go_at_call 17; refine HCALL.out.mono ?_; rintro e w3 ⟨rfl, b3⟩)
        all_goals have HB3 := Lib.hid (HBD.out.bt b3)
        all_goals clear b3
        all_goals go_wp2
        all_goals go_roundw
        all_goals first
          | exact ⟨k + 1, by go_num, by omega, HF, HB3⟩
          | (simp [intOf]; omega)
    · have hltz : ¬ (k : Int) < (n : Int) := by omega
      have HF : Hid (R = false) := Lib.hid (by rw [HK.out, List.drop_eq_nil_of_le (by have := HN.out; omega)]; rfl)
      clear HK HR
      go_wp2
      go_ret
      exact ⟨by rw [HF.out]; rfl, HBW.out⟩

set_option maxRecDepth 100000 in
set_option maxHeartbeats 2000000 in
theorem rTagged (vf : Value) (l : List Fld) (f : Fld) (w : World) (hv : Flds w vf l) (hl : l.length ≤ 1000000) :
    Calls Tryd.prog 35 #[vf, .string (lb f.tag)] w fun e w' => e = .returned (.bool (l.any (tagB f))) ∧ Below w.heap.size w w' := by
  obtain ⟨⟨pa, pc, rfl, hpc, hcells⟩, -⟩ := hv
  obtain ⟨R, hR⟩ : ∃ R, R = l.any (tagB f) := ⟨_, rfl⟩
  rw [← hR]
  obtain ⟨n, hnn⟩ : ∃ n, n = l.length := ⟨_, rfl⟩
  rw [← hnn] at hl hpc ⊢
  obtain ⟨TF, hTF⟩ : ∃ T, T = lb f.tag := ⟨_, rfl⟩
  rw [← hTF]
  have HTF := Lib.hid hTF
  have HN := Lib.hid hnn
  have HC := Lib.hid hcells
  have HR := Lib.hid hR
  clear hnn hcells hR hTF
  go_enter Tryd.func35, Tryd.ntmps35
  go_wp2
  go_loopw [5] (fun vk wr => ∃ k : Nat, vk = .int .i64 k ∧ k ≤ n ∧ Hid (R = (l.drop k).any (tagB f)) ∧ Hid (Below w.heap.size w wr)) (fun vk _ => n - (intOf vk).toNat)
  case atStart => exact ⟨0, rfl, by omega, Lib.hid (by rw [HR.out, List.drop_zero]), Lib.hid (Below.refl _ _)⟩
  case round =>
    obtain ⟨k, rfl, hk, HK, HBW⟩ := hrel
    by_cases hlt : k < n
    · have hltz : (k : Int) < (n : Int) := by omega
      obtain ⟨g, hg⟩ : ∃ f, l[k]? = some f := ⟨_, List.getElem?_eq_getElem (by have := HN.out; omega)⟩
      rcases HC.out with h0 | ⟨b, o, rfl, hbl, hcl⟩
      · rw [h0] at hg; cases hg
      have hst := HK.out
      rw [any_step hg] at hst
      obtain ⟨p0, -, -, -⟩ := (four_of (hcl k g hg)).below HBW.out hbl
      have d := lb_deq g.tag f.tag
      rw [← HTF.out] at d
      change _ = tagB f g at d
      obtain ⟨S, hS⟩ : ∃ B, B = tagB f g := ⟨_, rfl⟩
      rw [← hS] at hst d
      obtain ⟨T, hT⟩ : ∃ T, T = lb g.tag := ⟨_, rfl⟩
      rw [← hT] at p0 d
      have HST := Lib.hid hst
      clear HK hcl hg hst hS hT HR
      cases S with
      | true =>
        have HF : Hid (R = true) := Lib.hid (by rw [HST.out]; rfl)
        clear HST
        go_wp2
        go_ret
        exact ⟨by rw [HF.out]; rfl, HBW.out⟩
      | false =>
        have HF : Hid (R = (l.drop (k + 1)).any (tagB f)) := Lib.hid (by rw [HST.out]; rfl)
        clear HST
        go_wp2
        go_roundw
        case rel => exact ⟨k + 1, by go_num, by omega, HF, HBW⟩
        case measure => simp [intOf]; omega
    · have hltz : ¬ (k : Int) < (n : Int) := by omega
      have HF : Hid (R = false) := Lib.hid (by rw [HK.out, List.drop_eq_nil_of_le (by have := HN.out; omega)]; rfl)
      clear HK HR
      go_wp2
      go_ret
      exact ⟨by rw [HF.out]; rfl, HBW.out⟩
end Go.Proofs.YtcdlgmncalmihaaDoor
