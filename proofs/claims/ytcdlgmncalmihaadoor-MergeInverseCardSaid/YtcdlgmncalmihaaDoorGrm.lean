/- The walk of the reference's Merge (layer 16). -/
import Derived.Test.YtcdlgmncalmihaaDoorGrh
namespace Go.Proofs.YtcdlgmncalmihaaDoor
open Go Go.RowKit

/-- The blocks of the call: the two records, the two results. -/
abbrev rW (w : World) (id ver kind : Int) (lang : ByteArray) (xa : Option Addr) (xn xc : Nat) (id2 ver2 kind2 : Int) (lang2 : ByteArray) (ya : Option Addr) (yn yc : Nat) : World :=
  (((w.alloc (.cells #[.int .i64 id, .int .i64 ver, .int .i64 kind, .string lang, .slice xa xn xc] 31)).alloc (.cells #[.int .i64 id2, .int .i64 ver2, .int .i64 kind2, .string lang2, .slice ya yn yc] 31)).alloc (.cells #[.int .i64 0, .int .i64 0, .int .i64 0, .string ⟨#[]⟩, .slice none 0 0] 31)).alloc (.cells #[.int .i64 0, .int .i64 0, .int .i64 0, .int .i64 0, .string ⟨#[]⟩, .slice none 0 0, .slice none 0 0] 36)
structure RBlk (W : World) (n : Nat) (id ver kind : Int) (lang : ByteArray) (xa : Option Addr) (xn xc : Nat) (id2 ver2 kind2 : Int) (lang2 : ByteArray) (ya : Option Addr) (yn yc : Nat) : Prop where
  b0 : W.heap[n]? = some (.cells #[.int .i64 id, .int .i64 ver, .int .i64 kind, .string lang, .slice xa xn xc] 31 (0, 0))
  b1 : W.heap[n + 1]? = some (.cells #[.int .i64 id2, .int .i64 ver2, .int .i64 kind2, .string lang2, .slice ya yn yc] 31 (0, 0))
  b2 : W.heap[n + 1 + 1]? = some (.cells #[.int .i64 0, .int .i64 0, .int .i64 0, .string ⟨#[]⟩, .slice none 0 0] 31 (0, 0))
  b3 : W.heap[n + 1 + 1 + 1]? = some (.cells #[.int .i64 0, .int .i64 0, .int .i64 0, .int .i64 0, .string ⟨#[]⟩, .slice none 0 0, .slice none 0 0] 36 (0, 0))
theorem rW_size (w : World) (id ver kind : Int) (lang : ByteArray) (xa : Option Addr) (xn xc : Nat) (id2 ver2 kind2 : Int) (lang2 : ByteArray) (ya : Option Addr) (yn yc : Nat) : (rW w id ver kind lang xa xn xc id2 ver2 kind2 lang2 ya yn yc).heap.size = w.heap.size + 4 := by simp
theorem rW_blk {w W : World} {id ver kind : Int} {lang : ByteArray} {xa : Option Addr} {xn xc : Nat} {id2 ver2 kind2 : Int} {lang2 : ByteArray} {ya : Option Addr} {yn yc : Nat} {B : Nat} (hB : B = w.heap.size + 4) (h : Below B (rW w id ver kind lang xa xn xc id2 ver2 kind2 lang2 ya yn yc) W) : RBlk W w.heap.size id ver kind lang xa xn xc id2 ver2 kind2 lang2 ya yn yc := by
  subst hB
  exact ⟨(h.block _ (by omega)).trans ((alloc_old (by (try simp only [World.size_alloc]) <;> omega)).trans ((alloc_old (by (try simp only [World.size_alloc]) <;> omega)).trans ((alloc_old (by (try simp only [World.size_alloc]) <;> omega)).trans (alloc_at rfl)))), (h.block _ (by omega)).trans ((alloc_old (by (try simp only [World.size_alloc]) <;> omega)).trans ((alloc_old (by (try simp only [World.size_alloc]) <;> omega)).trans (alloc_at (by (try simp only [World.size_alloc]) <;> omega)))), (h.block _ (by omega)).trans ((alloc_old (by (try simp only [World.size_alloc]) <;> omega)).trans (alloc_at (by (try simp only [World.size_alloc]) <;> omega))), (h.block _ (by omega)).trans (alloc_at (by (try simp only [World.size_alloc]) <;> omega))⟩
/-- What holds in the loop: the record in its cell. -/
structure RI (w W0 : World) (B g : Nat) (id ver kind : Int) (lang : ByteArray) (W : World) (fs : List Fld) (ts : List Int) (vf tv : Value) : Prop where
  hg : W.heap[g]? = some (.cells #[.int .i64 id, .int .i64 ver, .int .i64 kind, .string lang, vf] 31 (0, 0))
  of : OwnF W B vf fs
  oi : OwnI W B tv ts
  hat : ∀ f ∈ fs, FldAt w f
  bel : Below B W0 W
theorem RI.below {w W0 : World} {B g : Nat} {id ver kind : Int} {lang : ByteArray} {W W' : World} {fs : List Fld} {ts : List Int} {vf tv : Value} (h : RI w W0 B g id ver kind lang W fs ts vf tv) (hb : Below W.heap.size W W') (hB : B ≤ W.heap.size) : RI w W0 B g id ver kind lang W' fs ts vf tv :=
  ⟨(hb.block g (Array.getElem?_eq_some_iff.1 h.hg).1).trans h.hg, h.of.below hb (Nat.le_refl _), h.oi.below hb (Nat.le_refl _), h.hat, h.bel.trans (hb.mono hB)⟩
theorem RI.fstep {w W0 : World} {B g : Nat} {id ver kind : Int} {lang : ByteArray} {W w5 : World} {fs : List Fld} {ts : List Int} {vf tv v5 : Value} {f : Fld} (h : RI w W0 B g id ver kind lang W fs ts vf tv) (ho : OwnF w5 B v5 (fs ++ [f])) (hgr : W.grownBy w5 vf.ownBlock) (hb : Below B W w5) (hf : FldAt w f) (hBg : B ≤ g) :
    w5.heap[g]? = some (.cells #[.int .i64 id, .int .i64 ver, .int .i64 kind, .string lang, vf] 31 (0, 0)) ∧ RI w W0 B g id ver kind lang (w5.setCell ⟨g, 4, none⟩ v5) (fs ++ [f]) ts v5 tv := by
  have h1 := block_grown hgr h.hg (h.of.apart h.hg (by decide))
  have h3 : OwnI w5 B tv ts := OwnE.other h.oi h.of (by decide) hgr
  refine ⟨h1, heap_setCell_same _ g 4 _ _ _ h1, OwnE.set ho h1 (by decide) 4 v5, OwnE.set h3 h1 (by decide) 4 v5, fun x hx => ?_, (h.bel.trans hb).setCell (p := ⟨g, 4, none⟩) hBg v5⟩
  rcases List.mem_append.1 hx with hx | hx
  · exact h.hat x hx
  · cases List.mem_singleton.1 hx; exact hf
theorem RI.istep {w W0 : World} {B g : Nat} {id ver kind : Int} {lang : ByteArray} {W w5 : World} {fs : List Fld} {ts : List Int} {vf tv v5 : Value} {i : Int} (h : RI w W0 B g id ver kind lang W fs ts vf tv) (ho : OwnI w5 B v5 (ts ++ [i])) (hgr : W.grownBy w5 tv.ownBlock) (hb : Below B W w5) : RI w W0 B g id ver kind lang w5 fs (ts ++ [i]) vf v5 :=
  ⟨block_grown hgr h.hg (h.oi.apart h.hg (by decide)), OwnE.other h.of h.oi (by decide) hgr, ho, h.hat, h.bel.trans hb⟩


set_option maxRecDepth 100000 in
set_option maxHeartbeats 8000000 in
theorem rMerge (x y : Rcd) (vk : Value) (keeps : List (ByteArray × Int)) (w : World) (hx : RcdAt w x) (hy : RcdAt w y) (hk : Keeps w vk keeps) (hsx : x.r.small) (hsy : y.r.small) (hkl : keeps.length ≤ 1000) (hxl : x.r.fields.length ≤ 1000) (hyl : y.r.fields.length ≤ 1000) :
    Calls Tryd.prog 14 #[recV5 x, recV5 y, vk] w (RetMerge w (mergeP x y keeps)) := by
  have HRX : Hid (∀ W, Below w.heap.size w W → Calls Tryd.prog 32 #[recV5 x] W fun e w' => e = .returned (.int .i64 (recErr x.r)) ∧ Below W.heap.size W w') := Lib.hid (fun W h => rRecRight x.r x.sa x.r.fields.length x.sc W (hx.below h (Nat.le_refl _)) hsx)
  have HRY : Hid (∀ W, Below w.heap.size w W → Calls Tryd.prog 32 #[recV5 y] W fun e w' => e = .returned (.int .i64 (recErr y.r)) ∧ Below W.heap.size W w') := Lib.hid (fun W h => rRecRight y.r y.sa y.r.fields.length y.sc W (hy.below h (Nat.le_refl _)) hsy)
  have HCLN : Hid (∀ W, Below w.heap.size w W → Calls Tryd.prog 33 #[recV5 x] W fun e w' => ∃ a n c, e = .returned (.agg #[.int .i64 x.r.id, .int .i64 x.r.ver, .int .i64 x.r.kind, .string x.r.lang, .slice a n c]) ∧ OwnF w' W.heap.size (.slice a n c) x.r.fields ∧ Below W.heap.size W w') := Lib.hid (fun W h => rCopy x W (Flds.below hx h (Nat.le_refl _)) (by omega))
  have HHOW : Hid (∀ W (f : Fld), Below w.heap.size w W → Calls Tryd.prog 11 #[vk, .string (lb f.tag)] W fun e w' => e = .returned (.int .i64 (howL keeps (lb f.tag))) ∧ Below W.heap.size W w') := Lib.hid (fun W f h => rHow vk keeps (lb f.tag) W (Rows.below hk h (Nat.le_refl _)) (by omega))
  have HHAS : Hid (∀ W (vf : Value) (fields : List Fld) (f : Fld), Below w.heap.size w W → Flds W vf fields → f ∈ y.r.fields → fields.length ≤ 1000000 → (∀ g ∈ fields, g ∈ x.r.fields ∨ g ∈ y.r.fields) → Calls Tryd.prog 34 #[vf, fldV f] W fun e w' => e = .returned (.bool (fields.any (sameF f))) ∧ Below W.heap.size W w') := Lib.hid (fun W vf fields f h h1 hf hl hm => rHas vf fields f W h1 ((hy.2 f hf).below h (Nat.le_refl _)) hl (fun g hg => (hm g hg).elim (fun h => (hsx.2 g h).subs) (fun h => (hsy.2 g h).subs)) (hsy.2 f hf).subs)
  have HTAG : Hid (∀ W (f : Fld), Below w.heap.size w W → Calls Tryd.prog 35 #[.slice x.sa x.r.fields.length x.sc, .string (lb f.tag)] W fun e w' => e = .returned (.bool (x.r.fields.any (tagB f))) ∧ Below W.heap.size W w') := Lib.hid (fun W f h => rTagged _ x.r.fields f W (Flds.below hx h (Nat.le_refl _)) (by omega))
  have HYC := Lib.hid (rcd_cells hy)
  have HFX : Hid (∀ f ∈ x.r.fields, FldAt w f) := Lib.hid hx.2
  have HFY : Hid (∀ f ∈ y.r.fields, FldAt w f) := Lib.hid hy.2
  have HYA : Hid (∀ W, Below w.heap.size w W → RcdAt W y) := Lib.hid (fun W h => hy.below h (Nat.le_refl _))
  obtain ⟨ka, kc, rfl, -⟩ := Rows.shape hk
  obtain ⟨P, hP⟩ : ∃ P, P = mergeP x y keeps := ⟨_, rfl⟩
  rw [← hP]
  unfold mergeP mergeErr at hP
  obtain ⟨E1, hE1⟩ : ∃ E, E = recErr x.r := ⟨_, rfl⟩
  obtain ⟨E2, hE2⟩ : ∃ E, E = recErr y.r := ⟨_, rfl⟩
  rw [← hE1] at HRX hP
  rw [← hE2] at HRY hP
  obtain ⟨⟨id, ver, kind, lang, xf⟩, xa, xc⟩ := x
  obtain ⟨⟨id2, ver2, kind2, lang2, yf⟩, ya, yc⟩ := y
  unfold recV5 at HRX HRY HCLN ⊢
  simp only at HRX HRY HCLN HHAS HTAG HYC HFX HFY hP hxl hyl ⊢
  obtain ⟨xn, hxn⟩ : ∃ n, n = xf.length := ⟨_, rfl⟩
  obtain ⟨yn, hyn⟩ : ∃ n, n = yf.length := ⟨_, rfl⟩
  obtain ⟨kn, hkn⟩ : ∃ n, n = keeps.length := ⟨_, rfl⟩
  rw [← hxn] at HRX HCLN HTAG hxl ⊢
  rw [← hyn] at HRY hyl ⊢
  rw [← hkn] at HHOW hkl ⊢
  have HXN := Lib.hid hxn
  have HYN := Lib.hid hyn
  have hb0 : Below w.heap.size w (rW w id ver kind lang xa xn xc id2 ver2 kind2 lang2 ya yn yc) := ((((Below.refl _ _).alloc (Nat.le_refl _) _).alloc (by simp) _).alloc (by simp; omega) _).alloc (by simp; omega) _
  have HB0 := Lib.hid hb0
  obtain ⟨B, hB⟩ : ∃ B, B = w.heap.size + 4 := ⟨_, rfl⟩
  have HBL : Hid (∀ W, Below B (rW w id ver kind lang xa xn xc id2 ver2 kind2 lang2 ya yn yc) W → RBlk W w.heap.size id ver kind lang xa xn xc id2 ver2 kind2 lang2 ya yn yc) := Lib.hid (fun W h => rW_blk hB h)
  have HBB : Hid (B = (rW w id ver kind lang xa xn xc id2 ver2 kind2 lang2 ya yn yc).heap.size ∧ w.heap.size + 4 = B) := Lib.hid ⟨by rw [rW_size, hB], hB.symm⟩
  have HBR : Hid (Below B (rW w id ver kind lang xa xn xc id2 ver2 kind2 lang2 ya yn yc) (rW w id ver kind lang xa xn xc id2 ver2 kind2 lang2 ya yn yc)) := Lib.hid (Below.refl _ _)
  clear hx hy hk hsx hsy hE1 hE2 hxn hyn hkn hb0 hB hkl
  have hblk := HBL.out _ HBR.out
  have q0 := Lib.cell_of_heap hblk.b0 0
  have q1 := Lib.cell_of_heap hblk.b0 1
  have q2 := Lib.cell_of_heap hblk.b0 2
  have q3 := Lib.cell_of_heap hblk.b0 3
  have q4 := Lib.cell_of_heap hblk.b0 4
  have r0 := Lib.cell_of_heap hblk.b1 0
  have r1 := Lib.cell_of_heap hblk.b1 1
  have r2 := Lib.cell_of_heap hblk.b1 2
  have r3 := Lib.cell_of_heap hblk.b1 3
  have r4 := Lib.cell_of_heap hblk.b1 4
  clear hblk
  by_cases e1 : E1 = 0
  case neg =>
    have e1z : (E1 == 0) = false := by simpa using e1
    have e1n : (E1 != 0) = true := by rw [bne, e1z]; rfl
    have HP : Hid (P = (rec0, part0, E1)) := Lib.hid (by rw [hP, if_pos e1]; rw [if_pos]; exact e1)
    clear hP e1
    go_enter Tryd.func14, Tryd.ntmps14
    go_wp2_with fail
    refine (HRX.out _ HB0.out).mono ?_
    rintro e w1 ⟨rfl, b1⟩
    have HM1 : Hid (Below B (rW w id ver kind lang xa xn xc id2 ver2 kind2 lang2 ya yn yc) w1) := Lib.hid (by rw [HBB.out.1]; exact b1)
    have HB1 := Lib.hid (HB0.out.bt b1)
    clear b1 q0 q1 q2 q3 q4 r0 r1 r2 r3 r4
    have HK := Lib.hid (HBL.out _ HM1.out)
    have HBW := HB1
    have c0 := Lib.cell_of_heap HK.out.b2 0
    have f0 := Lib.frozen_of_heap HK.out.b2 0
    have c1 := Lib.cell_of_heap HK.out.b2 1
    have f1 := Lib.frozen_of_heap HK.out.b2 1
    have c2 := Lib.cell_of_heap HK.out.b2 2
    have f2 := Lib.frozen_of_heap HK.out.b2 2
    have c3 := Lib.cell_of_heap HK.out.b2 3
    have f3 := Lib.frozen_of_heap HK.out.b2 3
    have c4 := Lib.cell_of_heap HK.out.b2 4
    have f4 := Lib.frozen_of_heap HK.out.b2 4
    have d0 := Lib.cell_of_heap HK.out.b3 0
    have g0 := Lib.frozen_of_heap HK.out.b3 0
    have d1 := Lib.cell_of_heap HK.out.b3 1
    have g1 := Lib.frozen_of_heap HK.out.b3 1
    have d2 := Lib.cell_of_heap HK.out.b3 2
    have g2 := Lib.frozen_of_heap HK.out.b3 2
    have d3 := Lib.cell_of_heap HK.out.b3 3
    have g3 := Lib.frozen_of_heap HK.out.b3 3
    have d4 := Lib.cell_of_heap HK.out.b3 4
    have g4 := Lib.frozen_of_heap HK.out.b3 4
    have d5 := Lib.cell_of_heap HK.out.b3 5
    have g5 := Lib.frozen_of_heap HK.out.b3 5
    have d6 := Lib.cell_of_heap HK.out.b3 6
    have g6 := Lib.frozen_of_heap HK.out.b3 6
    go_wp2
    (try simp only [Exit.inBlock, Exit.then])
    change bodyPost _ _ _ _ _ (put7 (put5 w1 (w.heap.size + 1 + 1) (.int .i64 0) (.int .i64 0) (.int .i64 0) (.string ⟨#[]⟩) (.slice none 0 0)) (w.heap.size + 1 + 1 + 1) (.int .i64 0) (.int .i64 0) (.int .i64 0) (.int .i64 0) (.string ⟨#[]⟩) (.slice none 0 0) (.slice none 0 0))
    exact merge_end rfl rfl rfl rfl HK.out.b2 rfl HK.out.b3 rfl HBW.out (by omega) (fun e w' h => by rw [HP.out]; exact h)
  subst e1
  rw [if_neg (by decide : ¬ (0 : Int) ≠ 0)] at hP
  by_cases e2 : E2 = 0
  case neg =>
    have e1z : (E2 == 0) = false := by simpa using e2
    have e1n : (E2 != 0) = true := by rw [bne, e1z]; rfl
    have HP : Hid (P = (rec0, part0, E2)) := Lib.hid (by rw [hP, if_pos e2]; rw [if_pos]; exact e2)
    clear hP e2
    go_enter Tryd.func14, Tryd.ntmps14
    go_wp2_with fail
    refine (HRX.out _ HB0.out).mono ?_
    rintro e w1 ⟨rfl, b1⟩
    have HM1 : Hid (Below B (rW w id ver kind lang xa xn xc id2 ver2 kind2 lang2 ya yn yc) w1) := Lib.hid (by rw [HBB.out.1]; exact b1)
    have HB1 := Lib.hid (HB0.out.bt b1)
    clear b1 q0 q1 q2 q3 q4 r0 r1 r2 r3 r4
    have HK1 := Lib.hid (HBL.out _ HM1.out)
    have q0 := Lib.cell_of_heap HK1.out.b0 0
    have q1 := Lib.cell_of_heap HK1.out.b0 1
    have q2 := Lib.cell_of_heap HK1.out.b0 2
    have q3 := Lib.cell_of_heap HK1.out.b0 3
    have q4 := Lib.cell_of_heap HK1.out.b0 4
    have r0 := Lib.cell_of_heap HK1.out.b1 0
    have r1 := Lib.cell_of_heap HK1.out.b1 1
    have r2 := Lib.cell_of_heap HK1.out.b1 2
    have r3 := Lib.cell_of_heap HK1.out.b1 3
    have r4 := Lib.cell_of_heap HK1.out.b1 4
    go_wp2_with fail
    refine (HRY.out _ HB1.out).mono ?_
    rintro e w2 ⟨rfl, b2⟩
    have HM2 : Hid (Below B (rW w id ver kind lang xa xn xc id2 ver2 kind2 lang2 ya yn yc) w2) := Lib.hid (HM1.out.trans (b2.mono (by rw [HBB.out.1]; exact HM1.out.size)))
    have HB2 := Lib.hid (HB1.out.bt b2)
    clear b2 q0 q1 q2 q3 q4 r0 r1 r2 r3 r4
    have HK := Lib.hid (HBL.out _ HM2.out)
    have HBW := HB2
    have c0 := Lib.cell_of_heap HK.out.b2 0
    have f0 := Lib.frozen_of_heap HK.out.b2 0
    have c1 := Lib.cell_of_heap HK.out.b2 1
    have f1 := Lib.frozen_of_heap HK.out.b2 1
    have c2 := Lib.cell_of_heap HK.out.b2 2
    have f2 := Lib.frozen_of_heap HK.out.b2 2
    have c3 := Lib.cell_of_heap HK.out.b2 3
    have f3 := Lib.frozen_of_heap HK.out.b2 3
    have c4 := Lib.cell_of_heap HK.out.b2 4
    have f4 := Lib.frozen_of_heap HK.out.b2 4
    have d0 := Lib.cell_of_heap HK.out.b3 0
    have g0 := Lib.frozen_of_heap HK.out.b3 0
    have d1 := Lib.cell_of_heap HK.out.b3 1
    have g1 := Lib.frozen_of_heap HK.out.b3 1
    have d2 := Lib.cell_of_heap HK.out.b3 2
    have g2 := Lib.frozen_of_heap HK.out.b3 2
    have d3 := Lib.cell_of_heap HK.out.b3 3
    have g3 := Lib.frozen_of_heap HK.out.b3 3
    have d4 := Lib.cell_of_heap HK.out.b3 4
    have g4 := Lib.frozen_of_heap HK.out.b3 4
    have d5 := Lib.cell_of_heap HK.out.b3 5
    have g5 := Lib.frozen_of_heap HK.out.b3 5
    have d6 := Lib.cell_of_heap HK.out.b3 6
    have g6 := Lib.frozen_of_heap HK.out.b3 6
    go_wp2
    (try simp only [Exit.inBlock, Exit.then])
    change bodyPost _ _ _ _ _ (put7 (put5 w2 (w.heap.size + 1 + 1) (.int .i64 0) (.int .i64 0) (.int .i64 0) (.string ⟨#[]⟩) (.slice none 0 0)) (w.heap.size + 1 + 1 + 1) (.int .i64 0) (.int .i64 0) (.int .i64 0) (.int .i64 0) (.string ⟨#[]⟩) (.slice none 0 0) (.slice none 0 0))
    exact merge_end rfl rfl rfl rfl HK.out.b2 rfl HK.out.b3 rfl HBW.out (by omega) (fun e w' h => by rw [HP.out]; exact h)
  subst e2
  rw [if_neg (by decide : ¬ (0 : Int) ≠ 0)] at hP
  by_cases z1 : id = 0
  · have z1b : (id == 0) = true := by simpa using z1
    have HP : Hid (P = (rec0, part0, 2)) := Lib.hid (by rw [hP, if_pos (Or.inl z1 : id = 0 ∨ id2 = 0), if_pos (by decide)])
    clear hP z1
    go_enter Tryd.func14, Tryd.ntmps14
    go_wp2_with fail
    refine (HRX.out _ HB0.out).mono ?_
    rintro e w1 ⟨rfl, b1⟩
    have HM1 : Hid (Below B (rW w id ver kind lang xa xn xc id2 ver2 kind2 lang2 ya yn yc) w1) := Lib.hid (by rw [HBB.out.1]; exact b1)
    have HB1 := Lib.hid (HB0.out.bt b1)
    clear b1 q0 q1 q2 q3 q4 r0 r1 r2 r3 r4
    have HK1 := Lib.hid (HBL.out _ HM1.out)
    have q0 := Lib.cell_of_heap HK1.out.b0 0
    have q1 := Lib.cell_of_heap HK1.out.b0 1
    have q2 := Lib.cell_of_heap HK1.out.b0 2
    have q3 := Lib.cell_of_heap HK1.out.b0 3
    have q4 := Lib.cell_of_heap HK1.out.b0 4
    have r0 := Lib.cell_of_heap HK1.out.b1 0
    have r1 := Lib.cell_of_heap HK1.out.b1 1
    have r2 := Lib.cell_of_heap HK1.out.b1 2
    have r3 := Lib.cell_of_heap HK1.out.b1 3
    have r4 := Lib.cell_of_heap HK1.out.b1 4
    go_wp2_with fail
    refine (HRY.out _ HB1.out).mono ?_
    rintro e w2 ⟨rfl, b2⟩
    have HM2 : Hid (Below B (rW w id ver kind lang xa xn xc id2 ver2 kind2 lang2 ya yn yc) w2) := Lib.hid (HM1.out.trans (b2.mono (by rw [HBB.out.1]; exact HM1.out.size)))
    have HB2 := Lib.hid (HB1.out.bt b2)
    clear b2 q0 q1 q2 q3 q4 r0 r1 r2 r3 r4
    have HK := Lib.hid (HBL.out _ HM2.out)
    have HBW := HB2
    have q0 := Lib.cell_of_heap HK.out.b0 0
    have q1 := Lib.cell_of_heap HK.out.b0 1
    have q2 := Lib.cell_of_heap HK.out.b0 2
    have q3 := Lib.cell_of_heap HK.out.b0 3
    have q4 := Lib.cell_of_heap HK.out.b0 4
    have r0 := Lib.cell_of_heap HK.out.b1 0
    have r1 := Lib.cell_of_heap HK.out.b1 1
    have r2 := Lib.cell_of_heap HK.out.b1 2
    have r3 := Lib.cell_of_heap HK.out.b1 3
    have r4 := Lib.cell_of_heap HK.out.b1 4
    have c0 := Lib.cell_of_heap HK.out.b2 0
    have f0 := Lib.frozen_of_heap HK.out.b2 0
    have c1 := Lib.cell_of_heap HK.out.b2 1
    have f1 := Lib.frozen_of_heap HK.out.b2 1
    have c2 := Lib.cell_of_heap HK.out.b2 2
    have f2 := Lib.frozen_of_heap HK.out.b2 2
    have c3 := Lib.cell_of_heap HK.out.b2 3
    have f3 := Lib.frozen_of_heap HK.out.b2 3
    have c4 := Lib.cell_of_heap HK.out.b2 4
    have f4 := Lib.frozen_of_heap HK.out.b2 4
    have d0 := Lib.cell_of_heap HK.out.b3 0
    have g0 := Lib.frozen_of_heap HK.out.b3 0
    have d1 := Lib.cell_of_heap HK.out.b3 1
    have g1 := Lib.frozen_of_heap HK.out.b3 1
    have d2 := Lib.cell_of_heap HK.out.b3 2
    have g2 := Lib.frozen_of_heap HK.out.b3 2
    have d3 := Lib.cell_of_heap HK.out.b3 3
    have g3 := Lib.frozen_of_heap HK.out.b3 3
    have d4 := Lib.cell_of_heap HK.out.b3 4
    have g4 := Lib.frozen_of_heap HK.out.b3 4
    have d5 := Lib.cell_of_heap HK.out.b3 5
    have g5 := Lib.frozen_of_heap HK.out.b3 5
    have d6 := Lib.cell_of_heap HK.out.b3 6
    have g6 := Lib.frozen_of_heap HK.out.b3 6
    go_wp2
    (try simp only [Exit.inBlock, Exit.then])
    change bodyPost _ _ _ _ _ (put7 (put5 w2 (w.heap.size + 1 + 1) (.int .i64 0) (.int .i64 0) (.int .i64 0) (.string ⟨#[]⟩) (.slice none 0 0)) (w.heap.size + 1 + 1 + 1) (.int .i64 0) (.int .i64 0) (.int .i64 0) (.int .i64 0) (.string ⟨#[]⟩) (.slice none 0 0) (.slice none 0 0))
    exact merge_end rfl rfl rfl rfl HK.out.b2 rfl HK.out.b3 rfl HBW.out (by omega) (fun e w' h => by rw [HP.out]; exact h)
  have z1b : (id == 0) = false := by simpa using z1
  by_cases z2 : id2 = 0
  · have z2b : (id2 == 0) = true := by simpa using z2
    have HP : Hid (P = (rec0, part0, 2)) := Lib.hid (by rw [hP, if_pos (Or.inr z2 : id = 0 ∨ id2 = 0), if_pos (by decide)])
    clear hP z2 z1
    go_enter Tryd.func14, Tryd.ntmps14
    go_wp2_with fail
    refine (HRX.out _ HB0.out).mono ?_
    rintro e w1 ⟨rfl, b1⟩
    have HM1 : Hid (Below B (rW w id ver kind lang xa xn xc id2 ver2 kind2 lang2 ya yn yc) w1) := Lib.hid (by rw [HBB.out.1]; exact b1)
    have HB1 := Lib.hid (HB0.out.bt b1)
    clear b1 q0 q1 q2 q3 q4 r0 r1 r2 r3 r4
    have HK1 := Lib.hid (HBL.out _ HM1.out)
    have q0 := Lib.cell_of_heap HK1.out.b0 0
    have q1 := Lib.cell_of_heap HK1.out.b0 1
    have q2 := Lib.cell_of_heap HK1.out.b0 2
    have q3 := Lib.cell_of_heap HK1.out.b0 3
    have q4 := Lib.cell_of_heap HK1.out.b0 4
    have r0 := Lib.cell_of_heap HK1.out.b1 0
    have r1 := Lib.cell_of_heap HK1.out.b1 1
    have r2 := Lib.cell_of_heap HK1.out.b1 2
    have r3 := Lib.cell_of_heap HK1.out.b1 3
    have r4 := Lib.cell_of_heap HK1.out.b1 4
    go_wp2_with fail
    refine (HRY.out _ HB1.out).mono ?_
    rintro e w2 ⟨rfl, b2⟩
    have HM2 : Hid (Below B (rW w id ver kind lang xa xn xc id2 ver2 kind2 lang2 ya yn yc) w2) := Lib.hid (HM1.out.trans (b2.mono (by rw [HBB.out.1]; exact HM1.out.size)))
    have HB2 := Lib.hid (HB1.out.bt b2)
    clear b2 q0 q1 q2 q3 q4 r0 r1 r2 r3 r4
    have HK := Lib.hid (HBL.out _ HM2.out)
    have HBW := HB2
    have q0 := Lib.cell_of_heap HK.out.b0 0
    have q1 := Lib.cell_of_heap HK.out.b0 1
    have q2 := Lib.cell_of_heap HK.out.b0 2
    have q3 := Lib.cell_of_heap HK.out.b0 3
    have q4 := Lib.cell_of_heap HK.out.b0 4
    have r0 := Lib.cell_of_heap HK.out.b1 0
    have r1 := Lib.cell_of_heap HK.out.b1 1
    have r2 := Lib.cell_of_heap HK.out.b1 2
    have r3 := Lib.cell_of_heap HK.out.b1 3
    have r4 := Lib.cell_of_heap HK.out.b1 4
    have c0 := Lib.cell_of_heap HK.out.b2 0
    have f0 := Lib.frozen_of_heap HK.out.b2 0
    have c1 := Lib.cell_of_heap HK.out.b2 1
    have f1 := Lib.frozen_of_heap HK.out.b2 1
    have c2 := Lib.cell_of_heap HK.out.b2 2
    have f2 := Lib.frozen_of_heap HK.out.b2 2
    have c3 := Lib.cell_of_heap HK.out.b2 3
    have f3 := Lib.frozen_of_heap HK.out.b2 3
    have c4 := Lib.cell_of_heap HK.out.b2 4
    have f4 := Lib.frozen_of_heap HK.out.b2 4
    have d0 := Lib.cell_of_heap HK.out.b3 0
    have g0 := Lib.frozen_of_heap HK.out.b3 0
    have d1 := Lib.cell_of_heap HK.out.b3 1
    have g1 := Lib.frozen_of_heap HK.out.b3 1
    have d2 := Lib.cell_of_heap HK.out.b3 2
    have g2 := Lib.frozen_of_heap HK.out.b3 2
    have d3 := Lib.cell_of_heap HK.out.b3 3
    have g3 := Lib.frozen_of_heap HK.out.b3 3
    have d4 := Lib.cell_of_heap HK.out.b3 4
    have g4 := Lib.frozen_of_heap HK.out.b3 4
    have d5 := Lib.cell_of_heap HK.out.b3 5
    have g5 := Lib.frozen_of_heap HK.out.b3 5
    have d6 := Lib.cell_of_heap HK.out.b3 6
    have g6 := Lib.frozen_of_heap HK.out.b3 6
    go_wp2
    (try simp only [Exit.inBlock, Exit.then])
    change bodyPost _ _ _ _ _ (put7 (put5 w2 (w.heap.size + 1 + 1) (.int .i64 0) (.int .i64 0) (.int .i64 0) (.string ⟨#[]⟩) (.slice none 0 0)) (w.heap.size + 1 + 1 + 1) (.int .i64 0) (.int .i64 0) (.int .i64 0) (.int .i64 0) (.string ⟨#[]⟩) (.slice none 0 0) (.slice none 0 0))
    exact merge_end rfl rfl rfl rfl HK.out.b2 rfl HK.out.b3 rfl HBW.out (by omega) (fun e w' h => by rw [HP.out]; exact h)
  have z2b : (id2 == 0) = false := by simpa using z2
  rw [if_neg (show ¬ (id = 0 ∨ id2 = 0) from fun h => h.elim z1 z2)] at hP
  by_cases z3 : id = id2
  · have z3b : (id == id2) = true := by simpa using z3
    have HP : Hid (P = (rec0, part0, 1)) := Lib.hid (by rw [hP, if_pos z3, if_pos (by decide)])
    clear hP z3 z1 z2
    go_enter Tryd.func14, Tryd.ntmps14
    go_wp2_with fail
    refine (HRX.out _ HB0.out).mono ?_
    rintro e w1 ⟨rfl, b1⟩
    have HM1 : Hid (Below B (rW w id ver kind lang xa xn xc id2 ver2 kind2 lang2 ya yn yc) w1) := Lib.hid (by rw [HBB.out.1]; exact b1)
    have HB1 := Lib.hid (HB0.out.bt b1)
    clear b1 q0 q1 q2 q3 q4 r0 r1 r2 r3 r4
    have HK1 := Lib.hid (HBL.out _ HM1.out)
    have q0 := Lib.cell_of_heap HK1.out.b0 0
    have q1 := Lib.cell_of_heap HK1.out.b0 1
    have q2 := Lib.cell_of_heap HK1.out.b0 2
    have q3 := Lib.cell_of_heap HK1.out.b0 3
    have q4 := Lib.cell_of_heap HK1.out.b0 4
    have r0 := Lib.cell_of_heap HK1.out.b1 0
    have r1 := Lib.cell_of_heap HK1.out.b1 1
    have r2 := Lib.cell_of_heap HK1.out.b1 2
    have r3 := Lib.cell_of_heap HK1.out.b1 3
    have r4 := Lib.cell_of_heap HK1.out.b1 4
    go_wp2_with fail
    refine (HRY.out _ HB1.out).mono ?_
    rintro e w2 ⟨rfl, b2⟩
    have HM2 : Hid (Below B (rW w id ver kind lang xa xn xc id2 ver2 kind2 lang2 ya yn yc) w2) := Lib.hid (HM1.out.trans (b2.mono (by rw [HBB.out.1]; exact HM1.out.size)))
    have HB2 := Lib.hid (HB1.out.bt b2)
    clear b2 q0 q1 q2 q3 q4 r0 r1 r2 r3 r4
    have HK := Lib.hid (HBL.out _ HM2.out)
    have HBW := HB2
    have q0 := Lib.cell_of_heap HK.out.b0 0
    have q1 := Lib.cell_of_heap HK.out.b0 1
    have q2 := Lib.cell_of_heap HK.out.b0 2
    have q3 := Lib.cell_of_heap HK.out.b0 3
    have q4 := Lib.cell_of_heap HK.out.b0 4
    have r0 := Lib.cell_of_heap HK.out.b1 0
    have r1 := Lib.cell_of_heap HK.out.b1 1
    have r2 := Lib.cell_of_heap HK.out.b1 2
    have r3 := Lib.cell_of_heap HK.out.b1 3
    have r4 := Lib.cell_of_heap HK.out.b1 4
    have c0 := Lib.cell_of_heap HK.out.b2 0
    have f0 := Lib.frozen_of_heap HK.out.b2 0
    have c1 := Lib.cell_of_heap HK.out.b2 1
    have f1 := Lib.frozen_of_heap HK.out.b2 1
    have c2 := Lib.cell_of_heap HK.out.b2 2
    have f2 := Lib.frozen_of_heap HK.out.b2 2
    have c3 := Lib.cell_of_heap HK.out.b2 3
    have f3 := Lib.frozen_of_heap HK.out.b2 3
    have c4 := Lib.cell_of_heap HK.out.b2 4
    have f4 := Lib.frozen_of_heap HK.out.b2 4
    have d0 := Lib.cell_of_heap HK.out.b3 0
    have g0 := Lib.frozen_of_heap HK.out.b3 0
    have d1 := Lib.cell_of_heap HK.out.b3 1
    have g1 := Lib.frozen_of_heap HK.out.b3 1
    have d2 := Lib.cell_of_heap HK.out.b3 2
    have g2 := Lib.frozen_of_heap HK.out.b3 2
    have d3 := Lib.cell_of_heap HK.out.b3 3
    have g3 := Lib.frozen_of_heap HK.out.b3 3
    have d4 := Lib.cell_of_heap HK.out.b3 4
    have g4 := Lib.frozen_of_heap HK.out.b3 4
    have d5 := Lib.cell_of_heap HK.out.b3 5
    have g5 := Lib.frozen_of_heap HK.out.b3 5
    have d6 := Lib.cell_of_heap HK.out.b3 6
    have g6 := Lib.frozen_of_heap HK.out.b3 6
    go_wp2
    (try simp only [Exit.inBlock, Exit.then])
    change bodyPost _ _ _ _ _ (put7 (put5 w2 (w.heap.size + 1 + 1) (.int .i64 0) (.int .i64 0) (.int .i64 0) (.string ⟨#[]⟩) (.slice none 0 0)) (w.heap.size + 1 + 1 + 1) (.int .i64 0) (.int .i64 0) (.int .i64 0) (.int .i64 0) (.string ⟨#[]⟩) (.slice none 0 0) (.slice none 0 0))
    exact merge_end rfl rfl rfl rfl HK.out.b2 rfl HK.out.b3 rfl HBW.out (by omega) (fun e w' h => by rw [HP.out]; exact h)
  have z3b : (id == id2) = false := by simpa using z3
  rw [if_neg z3] at hP
  by_cases z4 : ver = ver2
  case neg =>
    have z4b : (ver == ver2) = false := by simpa using z4
    have z4n : (ver != ver2) = true := by rw [bne, z4b]; rfl
    have HP : Hid (P = (rec0, part0, 20)) := Lib.hid (by rw [hP, if_pos (show ver ≠ ver2 from z4), if_pos (by decide)])
    clear hP z4 z1 z2 z3
    go_enter Tryd.func14, Tryd.ntmps14
    go_wp2_with fail
    refine (HRX.out _ HB0.out).mono ?_
    rintro e w1 ⟨rfl, b1⟩
    have HM1 : Hid (Below B (rW w id ver kind lang xa xn xc id2 ver2 kind2 lang2 ya yn yc) w1) := Lib.hid (by rw [HBB.out.1]; exact b1)
    have HB1 := Lib.hid (HB0.out.bt b1)
    clear b1 q0 q1 q2 q3 q4 r0 r1 r2 r3 r4
    have HK1 := Lib.hid (HBL.out _ HM1.out)
    have q0 := Lib.cell_of_heap HK1.out.b0 0
    have q1 := Lib.cell_of_heap HK1.out.b0 1
    have q2 := Lib.cell_of_heap HK1.out.b0 2
    have q3 := Lib.cell_of_heap HK1.out.b0 3
    have q4 := Lib.cell_of_heap HK1.out.b0 4
    have r0 := Lib.cell_of_heap HK1.out.b1 0
    have r1 := Lib.cell_of_heap HK1.out.b1 1
    have r2 := Lib.cell_of_heap HK1.out.b1 2
    have r3 := Lib.cell_of_heap HK1.out.b1 3
    have r4 := Lib.cell_of_heap HK1.out.b1 4
    go_wp2_with fail
    refine (HRY.out _ HB1.out).mono ?_
    rintro e w2 ⟨rfl, b2⟩
    have HM2 : Hid (Below B (rW w id ver kind lang xa xn xc id2 ver2 kind2 lang2 ya yn yc) w2) := Lib.hid (HM1.out.trans (b2.mono (by rw [HBB.out.1]; exact HM1.out.size)))
    have HB2 := Lib.hid (HB1.out.bt b2)
    clear b2 q0 q1 q2 q3 q4 r0 r1 r2 r3 r4
    have HK := Lib.hid (HBL.out _ HM2.out)
    have HBW := HB2
    have q0 := Lib.cell_of_heap HK.out.b0 0
    have q1 := Lib.cell_of_heap HK.out.b0 1
    have q2 := Lib.cell_of_heap HK.out.b0 2
    have q3 := Lib.cell_of_heap HK.out.b0 3
    have q4 := Lib.cell_of_heap HK.out.b0 4
    have r0 := Lib.cell_of_heap HK.out.b1 0
    have r1 := Lib.cell_of_heap HK.out.b1 1
    have r2 := Lib.cell_of_heap HK.out.b1 2
    have r3 := Lib.cell_of_heap HK.out.b1 3
    have r4 := Lib.cell_of_heap HK.out.b1 4
    have c0 := Lib.cell_of_heap HK.out.b2 0
    have f0 := Lib.frozen_of_heap HK.out.b2 0
    have c1 := Lib.cell_of_heap HK.out.b2 1
    have f1 := Lib.frozen_of_heap HK.out.b2 1
    have c2 := Lib.cell_of_heap HK.out.b2 2
    have f2 := Lib.frozen_of_heap HK.out.b2 2
    have c3 := Lib.cell_of_heap HK.out.b2 3
    have f3 := Lib.frozen_of_heap HK.out.b2 3
    have c4 := Lib.cell_of_heap HK.out.b2 4
    have f4 := Lib.frozen_of_heap HK.out.b2 4
    have d0 := Lib.cell_of_heap HK.out.b3 0
    have g0 := Lib.frozen_of_heap HK.out.b3 0
    have d1 := Lib.cell_of_heap HK.out.b3 1
    have g1 := Lib.frozen_of_heap HK.out.b3 1
    have d2 := Lib.cell_of_heap HK.out.b3 2
    have g2 := Lib.frozen_of_heap HK.out.b3 2
    have d3 := Lib.cell_of_heap HK.out.b3 3
    have g3 := Lib.frozen_of_heap HK.out.b3 3
    have d4 := Lib.cell_of_heap HK.out.b3 4
    have g4 := Lib.frozen_of_heap HK.out.b3 4
    have d5 := Lib.cell_of_heap HK.out.b3 5
    have g5 := Lib.frozen_of_heap HK.out.b3 5
    have d6 := Lib.cell_of_heap HK.out.b3 6
    have g6 := Lib.frozen_of_heap HK.out.b3 6
    go_wp2
    (try simp only [Exit.inBlock, Exit.then])
    change bodyPost _ _ _ _ _ (put7 (put5 w2 (w.heap.size + 1 + 1) (.int .i64 0) (.int .i64 0) (.int .i64 0) (.string ⟨#[]⟩) (.slice none 0 0)) (w.heap.size + 1 + 1 + 1) (.int .i64 0) (.int .i64 0) (.int .i64 0) (.int .i64 0) (.string ⟨#[]⟩) (.slice none 0 0) (.slice none 0 0))
    exact merge_end rfl rfl rfl rfl HK.out.b2 rfl HK.out.b3 rfl HBW.out (by omega) (fun e w' h => by rw [HP.out]; exact h)
  have z4b : (ver == ver2) = true := by simpa using z4
  have z4n : (ver != ver2) = false := by rw [bne, z4b]; rfl
  rw [if_neg (show ¬ (ver ≠ ver2) by simpa using z4), if_neg (show ¬ ((0 : Int) ≠ 0) by decide)] at hP
  obtain ⟨G, hG⟩ : ∃ G, G = mergeGo keeps xf yf 0 xf [] := ⟨_, rfl⟩
  rw [← hG] at hP
  have HP0 := Lib.hid hP
  have HG := Lib.hid hG
  clear hP hG z1 z2 z3 z4
  go_enter Tryd.func14, Tryd.ntmps14
  go_wp2_with fail
  refine (HRX.out _ HB0.out).mono ?_
  rintro e w1 ⟨rfl, b1⟩
  have HM1 : Hid (Below B (rW w id ver kind lang xa xn xc id2 ver2 kind2 lang2 ya yn yc) w1) := Lib.hid (by rw [HBB.out.1]; exact b1)
  have HB1 := Lib.hid (HB0.out.bt b1)
  clear b1 q0 q1 q2 q3 q4 r0 r1 r2 r3 r4
  have HK1 := Lib.hid (HBL.out _ HM1.out)
  have q0 := Lib.cell_of_heap HK1.out.b0 0
  have q1 := Lib.cell_of_heap HK1.out.b0 1
  have q2 := Lib.cell_of_heap HK1.out.b0 2
  have q3 := Lib.cell_of_heap HK1.out.b0 3
  have q4 := Lib.cell_of_heap HK1.out.b0 4
  have r0 := Lib.cell_of_heap HK1.out.b1 0
  have r1 := Lib.cell_of_heap HK1.out.b1 1
  have r2 := Lib.cell_of_heap HK1.out.b1 2
  have r3 := Lib.cell_of_heap HK1.out.b1 3
  have r4 := Lib.cell_of_heap HK1.out.b1 4
  go_wp2_with fail
  refine (HRY.out _ HB1.out).mono ?_
  rintro e w2 ⟨rfl, b2⟩
  have HM2 : Hid (Below B (rW w id ver kind lang xa xn xc id2 ver2 kind2 lang2 ya yn yc) w2) := Lib.hid (HM1.out.trans (b2.mono (by rw [HBB.out.1]; exact HM1.out.size)))
  have HB2 := Lib.hid (HB1.out.bt b2)
  clear b2 q0 q1 q2 q3 q4 r0 r1 r2 r3 r4
  have HK2 := Lib.hid (HBL.out _ HM2.out)
  have q0 := Lib.cell_of_heap HK2.out.b0 0
  have q1 := Lib.cell_of_heap HK2.out.b0 1
  have q2 := Lib.cell_of_heap HK2.out.b0 2
  have q3 := Lib.cell_of_heap HK2.out.b0 3
  have q4 := Lib.cell_of_heap HK2.out.b0 4
  have r0 := Lib.cell_of_heap HK2.out.b1 0
  have r1 := Lib.cell_of_heap HK2.out.b1 1
  have r2 := Lib.cell_of_heap HK2.out.b1 2
  have r3 := Lib.cell_of_heap HK2.out.b1 3
  have r4 := Lib.cell_of_heap HK2.out.b1 4
  go_wp2_with fail
  refine (HCLN.out _ HB2.out).mono ?_
  rintro e w3 ⟨a3, n3, c3, rfl, ho3, b3⟩
  have hw2B : B ≤ w2.heap.size := by rw [HBB.out.1]; exact HM2.out.size
  have HM3 : Hid (Below B (rW w id ver kind lang xa xn xc id2 ver2 kind2 lang2 ya yn yc) w3) := Lib.hid (HM2.out.trans (b3.mono hw2B))
  have HG3 : Hid (B ≤ w3.heap.size) := Lib.hid (Nat.le_trans hw2B b3.size)
  have HO3 : Hid (OwnF w3 B (.slice a3 n3 c3) xf) := Lib.hid (ho3.weaken hw2B)
  have HB3 := Lib.hid (HB2.out.bt b3)
  clear b3 ho3 hw2B q0 q1 q2 q3 q4 r0 r1 r2 r3 r4
  have hal : Below w3.heap.size w3 (w3.alloc (.cells #[.int .i64 id, .int .i64 ver, .int .i64 kind, .string lang, .slice a3 n3 c3] 31)) := (Below.refl _ _).alloc (Nat.le_refl _) _
  have HRI0 : Hid (RI w (rW w id ver kind lang xa xn xc id2 ver2 kind2 lang2 ya yn yc) B w3.heap.size id ver kind lang (w3.alloc (.cells #[.int .i64 id, .int .i64 ver, .int .i64 kind, .string lang, .slice a3 n3 c3] 31)) xf [] (.slice a3 n3 c3) (.slice none 0 0)) := Lib.hid ⟨alloc_at rfl, HO3.out.below hal (Nat.le_refl _), OwnE.nil _ _ _ _, HFX.out, HM3.out.trans (hal.mono HG3.out)⟩
  have hbw := HB3.out.bt hal
  have HBL0 := Lib.hid hbw
  clear hal hbw
  go_wp2
  go_loopw [11, 12] (fun vt vk wr => ∃ (k : Nat) (fs : List Fld) (ts : List Int) (fa : Option Addr) (fn fc : Nat) (ta : Option Addr) (tn tc : Nat), vt = .slice ta tn tc ∧ vk = .int .i64 k ∧ k ≤ yn ∧ fs.length ≤ xn + k ∧ ts.length ≤ k ∧ Hid (∀ g ∈ fs, g ∈ xf ∨ g ∈ yf) ∧ Hid (G = mergeGo keeps xf (yf.drop k) k fs ts) ∧ Hid (RI w (rW w id ver kind lang xa xn xc id2 ver2 kind2 lang2 ya yn yc) B w3.heap.size id ver kind lang wr fs ts (.slice fa fn fc) (.slice ta tn tc)) ∧ Hid (Below w.heap.size w wr)) (fun _ vk _ => yn - (intOf vk).toNat)
  case atStart => exact ⟨0, xf, [], a3, n3, c3, none, 0, 0, rfl, rfl, by omega, by have := HXN.out; omega, by simp, Lib.hid (fun g hg => .inl hg), Lib.hid (by rw [HG.out, List.drop_zero]), HRI0, HBL0⟩
  case round =>
    obtain ⟨k, fs, ts, fa, fn, fc, ta, tn, tc, rfl, rfl, hk, hfl, htl, HMEM, HGO, HRI, HBW⟩ := hrel
    have HKR := Lib.hid (HBL.out _ HRI.out.bel)
    have v0 := Lib.cell_of_heap HKR.out.b1 4
    by_cases hlt : k < yn
    · have hltz : (k : Int) < (yn : Int) := by omega
      obtain ⟨f, hf⟩ : ∃ f, yf[k]? = some f := ⟨_, List.getElem?_eq_getElem (by have := HYN.out; omega)⟩
      rcases HYC.out with h0 | ⟨b, o, hya, hbl, hcl⟩
      · rw [h0] at hf; cases hf
      subst hya
      obtain ⟨p0, p1, p2, p3⟩ := (hcl k f hf).below HBW.out hbl
      have hst := HGO.out
      rw [mergeGo_step hf] at hst
      unfold takesL at hst
      have hfy := List.mem_of_getElem? hf
      have HFA : Hid (FldAt w f) := Lib.hid (HFY.out f hfy)
      have HMEM1 : Hid (∀ g ∈ fs ++ [f], g ∈ xf ∨ g ∈ yf) := Lib.hid (fun g hg => by
        rcases List.mem_append.1 hg with h | h
        · exact HMEM.out g h
        · cases List.mem_singleton.1 h; exact .inr hfy)
      have HHOWf := fun W h => HHOW.out W f h
      have HHASf : ∀ W, Below w.heap.size w W → RI w (rW w id ver kind lang xa xn xc id2 ver2 kind2 lang2 (some ⟨b, o, none⟩) yn yc) B w3.heap.size id ver kind lang W fs ts (.slice fa fn fc) (.slice ta tn tc) → Calls Tryd.prog 34 #[.slice fa fn fc, fldV f] W fun e w' => e = .returned (.bool (fs.any (sameF f))) ∧ Below W.heap.size W w' := fun W h hr => HHAS.out W _ fs f h (OwnF.flds hr.of (fun x hx => (hr.hat x hx).below h (Nat.le_refl _))) hfy (by omega) HMEM.out
      have HTAGf := fun W h => HTAG.out W f h
      have hFC : ∀ W0 W : World, Below (W0.alloc (.cells #[.string (lb f.tag), .string (lb f.ind), .slice f.sa f.subs.length f.sc, .int .i64 f.auth] 46)).heap.size (W0.alloc (.cells #[.string (lb f.tag), .string (lb f.ind), .slice f.sa f.subs.length f.sc, .int .i64 f.auth] 46)) W → W.cell? ⟨W0.heap.size, 0, none⟩ = some (.string (lb f.tag)) ∧ W.cell? ⟨W0.heap.size, 1, none⟩ = some (.string (lb f.ind)) ∧ W.cell? ⟨W0.heap.size, 2, none⟩ = some (.slice f.sa f.subs.length f.sc) ∧ W.cell? ⟨W0.heap.size, 3, none⟩ = some (.int .i64 f.auth) := fun W0 W h => ⟨block_cells h 0 _ rfl, block_cells h 1 _ rfl, block_cells h 2 _ rfl, block_cells h 3 _ rfl⟩
      have hnw : ∀ W : World, ∀ j u, (flatE fldE [f])[j]? = some u → (W.alloc (.cells #[.string (lb f.tag), .string (lb f.ind), .slice f.sa f.subs.length f.sc, .int .i64 f.auth] 46)).cell? ((⟨W.heap.size, 0, none⟩ : Addr).add j) = some u := fun W => cells_fld (by
        refine ⟨?_, ?_, ?_, ?_⟩ <;> (rw [new1_cell]; rfl))
      obtain ⟨H, hH⟩ : ∃ H, H = howL keeps (lb f.tag) := ⟨_, rfl⟩
      obtain ⟨A, hA⟩ : ∃ A, A = fs.any (sameF f) := ⟨_, rfl⟩
      obtain ⟨Z, hZ⟩ : ∃ Z, Z = xf.any (tagB f) := ⟨_, rfl⟩
      rw [← hH] at hst HHOWf
      rw [← hA] at hst HHASf
      rw [← hZ] at hst HTAGf
      unfold fldV at HHASf
      obtain ⟨T, hT⟩ : ∃ T, T = lb f.tag := ⟨_, rfl⟩
      obtain ⟨I, hI⟩ : ∃ I, I = lb f.ind := ⟨_, rfl⟩
      obtain ⟨sn, hsn⟩ : ∃ sn, sn = f.subs.length := ⟨_, rfl⟩
      simp only [← hT, ← hI, ← hsn] at p0 p1 p2 HHOWf HHASf HTAGf hFC hnw
      have HHO := Lib.hid HHOWf
      have HHA := Lib.hid HHASf
      have HTA := Lib.hid HTAGf
      have HFC := Lib.hid hFC
      have HNW := Lib.hid hnw
      have hB : B ≤ wr.heap.size := Nat.le_trans HG3.out (Nat.le_of_lt (Array.getElem?_eq_some_iff.1 HRI.out.hg).1)
      have hba : Below wr.heap.size wr (wr.alloc (.cells #[.string T, .string I, .slice f.sa sn f.sc, .int .i64 f.auth] 46)) := (Below.refl _ _).alloc (Nat.le_refl _) _
      have HRIa := Lib.hid (HRI.out.below hba hB)
      have HBWa := Lib.hid (HBW.out.bt hba)
      have hBa : B ≤ (wr.alloc (.cells #[.string T, .string I, .slice f.sa sn f.sc, .int .i64 f.auth] 46)).heap.size := Nat.le_trans hB (by simp)
      clear hcl hf hT hI hsn hba hH hA hZ HHOWf HHASf HTAGf hFC hnw hfy
      by_cases e1 : H = 1
      · subst e1
        rw [if_pos rfl] at hst
        cases A with
        | true =>
          have HST : Hid (G = mergeGo keeps xf (yf.drop (k + 1)) (k + 1) fs ts) := Lib.hid hst
          clear hst
          go_wp2_with fail
          refine (HHO.out _ HBWa.out).mono ?_
          rintro e w4 ⟨rfl, b4⟩
          have HF4 := Lib.hid b4
          have HRI4 := Lib.hid (HRIa.out.below b4 hBa)
          have hB4 : B ≤ w4.heap.size := Nat.le_trans hBa b4.size
          have HBW4 := Lib.hid (HBWa.out.bt b4)
          have HK4 := Lib.hid (HBL.out _ HRI4.out.bel)
          have m4 := Lib.cell_of_heap HK4.out.b0 4
          obtain ⟨s0, s1, s2, s3⟩ := HFC.out wr w4 b4
          have t0 := Lib.cell_of_heap HRI4.out.hg 4
          clear b4 v0 p0 p1 p2 p3
          go_wp2_with fail
          refine (HHA.out _ HBW4.out HRI4.out).mono ?_
          rintro e w5 ⟨rfl, b5⟩
          have HF5 := Lib.hid (HF4.out.trans (b5.mono HF4.out.size))
          have HRI5 := Lib.hid (HRI4.out.below b5 hB4)
          have hB5 : B ≤ w5.heap.size := Nat.le_trans hB4 b5.size
          have HBW5 := Lib.hid (HBW4.out.bt b5)
          clear b5 s0 s1 s2 s3 t0 m4
          go_wp2
          go_roundw
          case rel => exact ⟨k + 1, fs, ts, fa, fn, fc, ta, tn, tc, rfl, by go_num, by omega, by omega, by omega, HMEM, HST, HRI5, HBW5⟩
          case measure => simp [intOf]; omega
        | false =>
          have HST : Hid (G = mergeGo keeps xf (yf.drop (k + 1)) (k + 1) (fs ++ [f]) (ts ++ [(k : Int)])) := Lib.hid hst
          clear hst
          go_wp2_with fail
          refine (HHO.out _ HBWa.out).mono ?_
          rintro e w4 ⟨rfl, b4⟩
          have HF4 := Lib.hid b4
          have HRI4 := Lib.hid (HRIa.out.below b4 hBa)
          have hB4 : B ≤ w4.heap.size := Nat.le_trans hBa b4.size
          have HBW4 := Lib.hid (HBWa.out.bt b4)
          have HK4 := Lib.hid (HBL.out _ HRI4.out.bel)
          have m4 := Lib.cell_of_heap HK4.out.b0 4
          obtain ⟨s0, s1, s2, s3⟩ := HFC.out wr w4 b4
          have t0 := Lib.cell_of_heap HRI4.out.hg 4
          clear b4 v0 p0 p1 p2 p3
          go_wp2_with fail
          refine (HHA.out _ HBW4.out HRI4.out).mono ?_
          rintro e w5 ⟨rfl, b5⟩
          have HF5 := Lib.hid (HF4.out.trans (b5.mono HF4.out.size))
          have HRI5 := Lib.hid (HRI4.out.below b5 hB4)
          have hB5 : B ≤ w5.heap.size := Nat.le_trans hB4 b5.size
          have HBW5 := Lib.hid (HBW4.out.bt b5)
          clear b5 s0 s1 s2 s3 t0 m4
          obtain ⟨s0, s1, s2, s3⟩ := HFC.out wr w5 HF5.out
          have t0 := Lib.cell_of_heap HRI5.out.hg 4
          have hb5 : Below w5.heap.size w5 (w5.alloc (.cells #[.string T, .string I, .slice f.sa sn f.sc, .int .i64 f.auth] 46)) := (Below.refl _ _).alloc (Nat.le_refl _) _
          have HRI6 := Lib.hid (HRI5.out.below hb5 hB5)
          have HBW6 := Lib.hid (HBW5.out.bt hb5)
          have hB6 : B ≤ (w5.alloc (.cells #[.string T, .string I, .slice f.sa sn f.sc, .int .i64 f.auth] 46)).heap.size := Nat.le_trans hB5 (by simp)
          have HW0 := Lib.hid HBB.out.2
          clear hb5
          go_wp2_with (at_builtin; refine append_fldsE rfl _ _ rfl B (.slice fa fn fc) fs rfl HRI6.out.of ⟨w5.heap.size, 0, none⟩ 1 1 [f] rfl rfl (.inl (by decide)) (HNW.out w5) (by omega) hB6 ?_)
          intro v6 w6 hown hgr hb6
          obtain ⟨a6, n6, c6, rfl⟩ : ∃ a n c, v6 = .slice a n c := by
            obtain ⟨a, c, h, -⟩ := (OwnE.rows fldE_len hown).shape
            exact ⟨a, _, c, h⟩
          obtain ⟨hk6, hri6⟩ := HRI6.out.fstep hown hgr hb6 HFA.out HG3.out
          have hs6 : B ≤ w6.heap.size := Nat.le_trans hB6 hb6.size
          have HBW7 : Hid (Below w.heap.size w (w6.setCell ⟨w3.heap.size, 4, none⟩ (.slice a6 n6 c6))) := Lib.hid ((HBW6.out.trans (hb6.mono (by have := HW0.out; omega))).setCell (p := ⟨w3.heap.size, 4, none⟩) (by have h1 := HW0.out; have h2 := HG3.out; show w.heap.size ≤ w3.heap.size; omega) _)
          have t1 := Lib.cell_of_heap hk6 4
          have t2 := Lib.frozen_of_heap hk6 4
          have hs7 : B ≤ (w6.setCell ⟨w3.heap.size, 4, none⟩ (.slice a6 n6 c6)).heap.size := by rw [set_size]; exact hs6
          have hb7 : Below (w6.setCell ⟨w3.heap.size, 4, none⟩ (.slice a6 n6 c6)).heap.size (w6.setCell ⟨w3.heap.size, 4, none⟩ (.slice a6 n6 c6)) ((w6.setCell ⟨w3.heap.size, 4, none⟩ (.slice a6 n6 c6)).alloc (.cells #[.int .i64 k] 3)) := (Below.refl _ _).alloc (Nat.le_refl _) _
          have HRI7 := Lib.hid (hri6.below hb7 hs7)
          have HBW8 := Lib.hid (HBW7.out.bt hb7)
          have hs8 : B ≤ ((w6.setCell ⟨w3.heap.size, 4, none⟩ (.slice a6 n6 c6)).alloc (.cells #[.int .i64 k] 3)).heap.size := Nat.le_trans hs7 (by simp)
          have HN8 : Hid (∀ j u, (flatE intE [(k : Int)])[j]? = some u → ((w6.setCell ⟨w3.heap.size, 4, none⟩ (.slice a6 n6 c6)).alloc (.cells #[.int .i64 k] 3)).cell? ((⟨w6.heap.size, 0, none⟩ : Addr).add j) = some u) := Lib.hid (by
            have := new1_cell (w6.setCell ⟨w3.heap.size, 4, none⟩ (.slice a6 n6 c6)) #[.int .i64 k] 3 0
            rw [set_size] at this
            exact cells_int this)
          clear hk6 hri6 hown hgr hb6 hb7 t0 s0 s1 s2 s3
          go_wp2_with (at_builtin; refine append_intsE rfl _ _ rfl B (.slice ta tn tc) ts rfl HRI7.out.oi ⟨w6.heap.size, 0, none⟩ 1 1 [(k : Int)] rfl rfl (by decide) HN8.out (by omega) hs8 ?_)
          intro v8 w8 hown hgr hb8
          obtain ⟨a8, n8, c8, rfl⟩ : ∃ a n c, v8 = .slice a n c := by
            obtain ⟨a, c, h, -⟩ := (OwnE.rows intE_len hown).shape
            exact ⟨a, _, c, h⟩
          have HRI8 := Lib.hid (HRI7.out.istep hown hgr hb8)
          have HBW9 := Lib.hid (HBW8.out.trans (hb8.mono (by have := HW0.out; omega)))
          clear hown hgr hb8 t1 t2
          go_wp2
          go_roundw
          case rel => exact ⟨k + 1, fs ++ [f], ts ++ [(k : Int)], a6, n6, c6, a8, n8, c8, rfl, by go_num, by omega, by rw [List.length_append]; simp only [List.length_cons, List.length_nil]; omega, by rw [List.length_append]; simp only [List.length_cons, List.length_nil]; omega, Lib.hid (fun g hg => HMEM1.out g (by simpa using hg)), HST, HRI8, HBW9⟩
          case measure => simp [intOf]; omega
      · have e1z : (H == 1) = false := by simpa using e1
        rw [if_neg e1] at hst
        by_cases e2 : H = 2
        · subst e2
          rw [if_pos rfl] at hst
          clear e1 e1z
          cases Z with
          | true =>
            have HST : Hid (G = mergeGo keeps xf (yf.drop (k + 1)) (k + 1) fs ts) := Lib.hid hst
            clear hst
            go_wp2_with fail
            refine (HHO.out _ HBWa.out).mono ?_
            rintro e w4 ⟨rfl, b4⟩
            have HF4 := Lib.hid b4
            have HRI4 := Lib.hid (HRIa.out.below b4 hBa)
            have hB4 : B ≤ w4.heap.size := Nat.le_trans hBa b4.size
            have HBW4 := Lib.hid (HBWa.out.bt b4)
            have HK4 := Lib.hid (HBL.out _ HRI4.out.bel)
            have m4 := Lib.cell_of_heap HK4.out.b0 4
            obtain ⟨s0, s1, s2, s3⟩ := HFC.out wr w4 b4
            have t0 := Lib.cell_of_heap HRI4.out.hg 4
            clear b4 v0 p0 p1 p2 p3
            go_wp2_with fail
            refine (HTA.out _ HBW4.out).mono ?_
            rintro e w5 ⟨rfl, b5⟩
            have HF5 := Lib.hid (HF4.out.trans (b5.mono HF4.out.size))
            have HRI5 := Lib.hid (HRI4.out.below b5 hB4)
            have hB5 : B ≤ w5.heap.size := Nat.le_trans hB4 b5.size
            have HBW5 := Lib.hid (HBW4.out.bt b5)
            clear b5 s0 s1 s2 s3 t0 m4
            go_wp2
            go_roundw
            case rel => exact ⟨k + 1, fs, ts, fa, fn, fc, ta, tn, tc, rfl, by go_num, by omega, by omega, by omega, HMEM, HST, HRI5, HBW5⟩
            case measure => simp [intOf]; omega
          | false =>
            have HST : Hid (G = mergeGo keeps xf (yf.drop (k + 1)) (k + 1) (fs ++ [f]) (ts ++ [(k : Int)])) := Lib.hid hst
            clear hst
            go_wp2_with fail
            refine (HHO.out _ HBWa.out).mono ?_
            rintro e w4 ⟨rfl, b4⟩
            have HF4 := Lib.hid b4
            have HRI4 := Lib.hid (HRIa.out.below b4 hBa)
            have hB4 : B ≤ w4.heap.size := Nat.le_trans hBa b4.size
            have HBW4 := Lib.hid (HBWa.out.bt b4)
            have HK4 := Lib.hid (HBL.out _ HRI4.out.bel)
            have m4 := Lib.cell_of_heap HK4.out.b0 4
            obtain ⟨s0, s1, s2, s3⟩ := HFC.out wr w4 b4
            have t0 := Lib.cell_of_heap HRI4.out.hg 4
            clear b4 v0 p0 p1 p2 p3
            go_wp2_with fail
            refine (HTA.out _ HBW4.out).mono ?_
            rintro e w5 ⟨rfl, b5⟩
            have HF5 := Lib.hid (HF4.out.trans (b5.mono HF4.out.size))
            have HRI5 := Lib.hid (HRI4.out.below b5 hB4)
            have hB5 : B ≤ w5.heap.size := Nat.le_trans hB4 b5.size
            have HBW5 := Lib.hid (HBW4.out.bt b5)
            clear b5 s0 s1 s2 s3 t0 m4
            obtain ⟨s0, s1, s2, s3⟩ := HFC.out wr w5 HF5.out
            have t0 := Lib.cell_of_heap HRI5.out.hg 4
            have hb5 : Below w5.heap.size w5 (w5.alloc (.cells #[.string T, .string I, .slice f.sa sn f.sc, .int .i64 f.auth] 46)) := (Below.refl _ _).alloc (Nat.le_refl _) _
            have HRI6 := Lib.hid (HRI5.out.below hb5 hB5)
            have HBW6 := Lib.hid (HBW5.out.bt hb5)
            have hB6 : B ≤ (w5.alloc (.cells #[.string T, .string I, .slice f.sa sn f.sc, .int .i64 f.auth] 46)).heap.size := Nat.le_trans hB5 (by simp)
            have HW0 := Lib.hid HBB.out.2
            clear hb5
            go_wp2_with (at_builtin; refine append_fldsE rfl _ _ rfl B (.slice fa fn fc) fs rfl HRI6.out.of ⟨w5.heap.size, 0, none⟩ 1 1 [f] rfl rfl (.inl (by decide)) (HNW.out w5) (by omega) hB6 ?_)
            intro v6 w6 hown hgr hb6
            obtain ⟨a6, n6, c6, rfl⟩ : ∃ a n c, v6 = .slice a n c := by
              obtain ⟨a, c, h, -⟩ := (OwnE.rows fldE_len hown).shape
              exact ⟨a, _, c, h⟩
            obtain ⟨hk6, hri6⟩ := HRI6.out.fstep hown hgr hb6 HFA.out HG3.out
            have hs6 : B ≤ w6.heap.size := Nat.le_trans hB6 hb6.size
            have HBW7 : Hid (Below w.heap.size w (w6.setCell ⟨w3.heap.size, 4, none⟩ (.slice a6 n6 c6))) := Lib.hid ((HBW6.out.trans (hb6.mono (by have := HW0.out; omega))).setCell (p := ⟨w3.heap.size, 4, none⟩) (by have h1 := HW0.out; have h2 := HG3.out; show w.heap.size ≤ w3.heap.size; omega) _)
            have t1 := Lib.cell_of_heap hk6 4
            have t2 := Lib.frozen_of_heap hk6 4
            have hs7 : B ≤ (w6.setCell ⟨w3.heap.size, 4, none⟩ (.slice a6 n6 c6)).heap.size := by rw [set_size]; exact hs6
            have hb7 : Below (w6.setCell ⟨w3.heap.size, 4, none⟩ (.slice a6 n6 c6)).heap.size (w6.setCell ⟨w3.heap.size, 4, none⟩ (.slice a6 n6 c6)) ((w6.setCell ⟨w3.heap.size, 4, none⟩ (.slice a6 n6 c6)).alloc (.cells #[.int .i64 k] 3)) := (Below.refl _ _).alloc (Nat.le_refl _) _
            have HRI7 := Lib.hid (hri6.below hb7 hs7)
            have HBW8 := Lib.hid (HBW7.out.bt hb7)
            have hs8 : B ≤ ((w6.setCell ⟨w3.heap.size, 4, none⟩ (.slice a6 n6 c6)).alloc (.cells #[.int .i64 k] 3)).heap.size := Nat.le_trans hs7 (by simp)
            have HN8 : Hid (∀ j u, (flatE intE [(k : Int)])[j]? = some u → ((w6.setCell ⟨w3.heap.size, 4, none⟩ (.slice a6 n6 c6)).alloc (.cells #[.int .i64 k] 3)).cell? ((⟨w6.heap.size, 0, none⟩ : Addr).add j) = some u) := Lib.hid (by
              have := new1_cell (w6.setCell ⟨w3.heap.size, 4, none⟩ (.slice a6 n6 c6)) #[.int .i64 k] 3 0
              rw [set_size] at this
              exact cells_int this)
            clear hk6 hri6 hown hgr hb6 hb7 t0 s0 s1 s2 s3
            go_wp2_with (at_builtin; refine append_intsE rfl _ _ rfl B (.slice ta tn tc) ts rfl HRI7.out.oi ⟨w6.heap.size, 0, none⟩ 1 1 [(k : Int)] rfl rfl (by decide) HN8.out (by omega) hs8 ?_)
            intro v8 w8 hown hgr hb8
            obtain ⟨a8, n8, c8, rfl⟩ : ∃ a n c, v8 = .slice a n c := by
              obtain ⟨a, c, h, -⟩ := (OwnE.rows intE_len hown).shape
              exact ⟨a, _, c, h⟩
            have HRI8 := Lib.hid (HRI7.out.istep hown hgr hb8)
            have HBW9 := Lib.hid (HBW8.out.trans (hb8.mono (by have := HW0.out; omega)))
            clear hown hgr hb8 t1 t2
            go_wp2
            go_roundw
            case rel => exact ⟨k + 1, fs ++ [f], ts ++ [(k : Int)], a6, n6, c6, a8, n8, c8, rfl, by go_num, by omega, by rw [List.length_append]; simp only [List.length_cons, List.length_nil]; omega, by rw [List.length_append]; simp only [List.length_cons, List.length_nil]; omega, Lib.hid (fun g hg => HMEM1.out g (by simpa using hg)), HST, HRI8, HBW9⟩
            case measure => simp [intOf]; omega
        · have e2z : (H == 2) = false := by simpa using e2
          rw [if_neg e2] at hst
          have HST : Hid (G = mergeGo keeps xf (yf.drop (k + 1)) (k + 1) fs ts) := Lib.hid hst
          clear hst e1 e2
          go_wp2_with fail
          refine (HHO.out _ HBWa.out).mono ?_
          rintro e w4 ⟨rfl, b4⟩
          have HF4 := Lib.hid b4
          have HRI4 := Lib.hid (HRIa.out.below b4 hBa)
          have hB4 : B ≤ w4.heap.size := Nat.le_trans hBa b4.size
          have HBW4 := Lib.hid (HBWa.out.bt b4)
          have HK4 := Lib.hid (HBL.out _ HRI4.out.bel)
          have m4 := Lib.cell_of_heap HK4.out.b0 4
          obtain ⟨s0, s1, s2, s3⟩ := HFC.out wr w4 b4
          have t0 := Lib.cell_of_heap HRI4.out.hg 4
          clear b4 v0 p0 p1 p2 p3
          go_wp2
          go_roundw
          case rel => exact ⟨k + 1, fs, ts, fa, fn, fc, ta, tn, tc, rfl, by go_num, by omega, by omega, by omega, HMEM, HST, HRI4, HBW4⟩
          case measure => simp [intOf]; omega
    · have hltz : ¬ (k : Int) < (yn : Int) := by omega
      have HGE : Hid (G = (fs, ts)) := Lib.hid (by rw [HGO.out, List.drop_eq_nil_of_le (by have := HYN.out; omega)]; rfl)
      have HFN : Hid (fn = fs.length) := Lib.hid (by
        obtain ⟨a', c', h, -⟩ := (OwnE.rows fldE_len HRI.out.of).shape
        cases h; rfl)
      have HW0 := Lib.hid HBB.out.2
      have t0 := Lib.cell_of_heap HRI.out.hg 4
      by_cases h64 : 64 < fn
      · have h64z : (64 : Int) < (fn : Int) := by omega
        have HP : Hid (P = (rec0, part0, 13)) := Lib.hid (by rw [HP0.out, HGE.out, if_pos (by have := HFN.out; show 64 < fs.length; omega)])
        have HK := HKR
        clear h64 HP0 HGO
        have c0 := Lib.cell_of_heap HK.out.b2 0
        have f0 := Lib.frozen_of_heap HK.out.b2 0
        have c1 := Lib.cell_of_heap HK.out.b2 1
        have f1 := Lib.frozen_of_heap HK.out.b2 1
        have c2 := Lib.cell_of_heap HK.out.b2 2
        have f2 := Lib.frozen_of_heap HK.out.b2 2
        have c3 := Lib.cell_of_heap HK.out.b2 3
        have f3 := Lib.frozen_of_heap HK.out.b2 3
        have c4 := Lib.cell_of_heap HK.out.b2 4
        have f4 := Lib.frozen_of_heap HK.out.b2 4
        have d0 := Lib.cell_of_heap HK.out.b3 0
        have g0 := Lib.frozen_of_heap HK.out.b3 0
        have d1 := Lib.cell_of_heap HK.out.b3 1
        have g1 := Lib.frozen_of_heap HK.out.b3 1
        have d2 := Lib.cell_of_heap HK.out.b3 2
        have g2 := Lib.frozen_of_heap HK.out.b3 2
        have d3 := Lib.cell_of_heap HK.out.b3 3
        have g3 := Lib.frozen_of_heap HK.out.b3 3
        have d4 := Lib.cell_of_heap HK.out.b3 4
        have g4 := Lib.frozen_of_heap HK.out.b3 4
        have d5 := Lib.cell_of_heap HK.out.b3 5
        have g5 := Lib.frozen_of_heap HK.out.b3 5
        have d6 := Lib.cell_of_heap HK.out.b3 6
        have g6 := Lib.frozen_of_heap HK.out.b3 6
        go_wp2
        (try simp only [Exit.inBlock, Exit.then])
        change bodyPost _ _ _ _ _ (put7 (put5 wr (w.heap.size + 1 + 1) (.int .i64 0) (.int .i64 0) (.int .i64 0) (.string ⟨#[]⟩) (.slice none 0 0)) (w.heap.size + 1 + 1 + 1) (.int .i64 0) (.int .i64 0) (.int .i64 0) (.int .i64 0) (.string ⟨#[]⟩) (.slice none 0 0) (.slice none 0 0))
        exact merge_end rfl rfl rfl rfl HK.out.b2 rfl HK.out.b3 rfl HBW.out (by omega) (fun e w' h => by rw [HP.out]; exact h)
      · have h64z : (fn : Int) ≤ 64 := by omega
        have HP : Hid (P = (⟨id, ver, kind, lang, fs⟩, ⟨id, ⟨⟨id2, ver2, kind2, lang2, yf⟩, ya, yc⟩, ts⟩, 0)) := Lib.hid (by rw [HP0.out, HGE.out, if_neg (by have := HFN.out; show ¬ 64 < fs.length; omega)])
        clear h64 HP0 HGO
        have hri := HRI.out
        have hgn : w.heap.size + 4 ≤ w3.heap.size := by have := HG3.out; have := HW0.out; omega
        have HE0 := Lib.hid HKR.out.b0
        have HE1 := Lib.hid HKR.out.b1
        have HE2 := Lib.hid HKR.out.b2
        have HE3 := Lib.hid HKR.out.b3
        have HEG := Lib.hid hri.hg
        have HOF := Lib.hid hri.of
        have HOI := Lib.hid hri.oi
        have HAT := Lib.hid hri.hat
        clear hri HRI HKR
        go_wp2_with fail
        refine tailR (fun W => OwnF W B (.slice fa fn fc) fs ∧ OwnI W B (.slice ta tn tc) ts ∧ Below w.heap.size w W) (w.heap.size + 1 + 1 + 1) (w.heap.size + 1 + 1) w3.heap.size (w.heap.size + 1) w.heap.size id ver kind lang fa fn fc id2 ver2 kind2 lang2 ya yn yc ta tn tc id ver kind lang xa xn xc (by rfl) (by rfl) (by rfl) (by rfl) (by rfl) (by rfl) (by rfl) HE0.out HE1.out HEG.out ⟨_, HE2.out, rfl⟩ ⟨_, HE3.out, rfl⟩ (by omega) (by omega) (by omega) (by omega) (by omega) (by omega) (by omega) ⟨HOF.out.below (Below.refl _ _).drew (Nat.le_refl _), HOI.out.below (Below.refl _ _).drew (Nat.le_refl _), HBW.out.drew⟩ (fun W vs cs hc h => ⟨OwnE.putL h.1 hc (by decide) 0 vs, OwnE.putL h.2.1 hc (by decide) 0 vs, putL_below vs W _ 0 h.2.2 (by omega)⟩) (fun W vs cs hc h => ⟨OwnE.putL h.1 hc (by decide) 0 vs, OwnE.putL h.2.1 hc (by decide) 0 vs, putL_below vs W _ 0 h.2.2 (by omega)⟩) (by kernel_rfl) (by kernel_rfl) (by kernel_rfl) (by kernel_rfl) (by kernel_rfl) (by kernel_rfl) (by kernel_rfl) ?_
        intro tm W hp6 hp7 hp8 hbx hbp hinv
        go_wp2
        (try simp only [Exit.inBlock, Exit.then])
        refine bodyPost_ret (results_mrg rfl tm W _ _ id ver kind lang (.slice fa fn fc) id id2 ver2 kind2 lang2 (.slice ya yn yc) (.slice ta tn tc) hp6 hp7 hbx hbp) rfl ?_
        rw [hp8, HP.out]
        refine ⟨fa, fc, .slice ta tn tc, ?_, ?_, HYA.out W hinv.2.2, OwnE.rows intE_len hinv.2.1, hinv.2.2⟩
        · unfold recV5 partV
          simp only
          rw [← HFN.out, ← HYN.out]
        · have := OwnF.flds hinv.1 (fun f hf => (HAT.out f hf).below hinv.2.2 (Nat.le_refl _))
          unfold RcdAt
          simp only
          rw [← HFN.out]
          exact this
end Go.Proofs.YtcdlgmncalmihaaDoor
