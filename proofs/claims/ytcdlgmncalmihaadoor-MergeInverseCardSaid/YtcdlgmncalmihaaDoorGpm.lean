/- The walk of the program's Merge (layer 16). -/
import Derived.Test.YtcdlgmncalmihaaDoorGtl
namespace Go.Proofs.YtcdlgmncalmihaaDoor
open Go Go.RowKit

theorem alloc_at {w : World} {O : Obj} {n : Nat} (h : n = w.heap.size) : (w.alloc O).heap[n]? = some O := by rw [h]; exact heap_alloc_new w O
theorem alloc_old {w : World} {O : Obj} {n : Nat} (h : n < w.heap.size) : (w.alloc O).heap[n]? = w.heap[n]? := Go.heap_alloc_old w O h
theorem OwnE.weaken {α : Type} {E : α → List Value} {T : TypeId} {w : World} {B B' : Nat} {v : Value} {l : List α} (h : OwnE E T w B v l) (hB : B' ≤ B) : OwnE E T w B' v l := by
  rcases h with h | ⟨g, cap, sp, h1, h2, h3⟩
  · exact .inl h
  · exact .inr ⟨g, cap, sp, h1, Nat.le_trans hB h2, h3⟩
theorem OwnE.putL {α : Type} {E : α → List Value} {T : TypeId} {w : World} {B : Nat} {v : Value} {l : List α} (h : OwnE E T w B v l) {g : Nat} {cs : Array Value} {T' : TypeId} {fz : Nat × Nat} (hg : w.heap[g]? = some (.cells cs T' fz)) (hT : T ≠ T') (i : Nat) (us : List Value) : OwnE E T (putL w g i us) B v l := by
  have ha := h.apart hg hT
  rcases h with h | ⟨g', cap, sp, rfl, h2, h3, h4⟩
  · exact .inl h
  · refine .inr ⟨g', cap, sp, rfl, h2, ?_, h4⟩
    rw [putL_other us w g i (by intro e; exact ha (by simp [Value.ownBlock]; exact e.symm))]
    exact h3
/-- The blocks of the call: the two records, the rules, the two results. -/
abbrev mW (w : World) (id ver kind : Int) (lang : ByteArray) (xa : Option Addr) (xn xc : Nat) (id2 ver2 kind2 : Int) (lang2 : ByteArray) (ya : Option Addr) (yn yc : Nat) (vk : Value) : World :=
  ((((w.alloc (.cells #[.int .i64 id, .int .i64 ver, .int .i64 kind, .string lang, .slice xa xn xc] 31)).alloc (.cells #[.int .i64 id2, .int .i64 ver2, .int .i64 kind2, .string lang2, .slice ya yn yc] 31)).alloc (.cells #[vk] 22)).alloc (.cells #[.int .i64 0, .int .i64 0, .int .i64 0, .string ⟨#[]⟩, .slice none 0 0] 31)).alloc (.cells #[.int .i64 0, .int .i64 0, .int .i64 0, .int .i64 0, .string ⟨#[]⟩, .slice none 0 0, .slice none 0 0] 36)
structure MBlk (W : World) (n : Nat) (id ver kind : Int) (lang : ByteArray) (xa : Option Addr) (xn xc : Nat) (id2 ver2 kind2 : Int) (lang2 : ByteArray) (ya : Option Addr) (yn yc : Nat) (vk : Value) : Prop where
  b0 : W.heap[n]? = some (.cells #[.int .i64 id, .int .i64 ver, .int .i64 kind, .string lang, .slice xa xn xc] 31 (0, 0))
  b1 : W.heap[n + 1]? = some (.cells #[.int .i64 id2, .int .i64 ver2, .int .i64 kind2, .string lang2, .slice ya yn yc] 31 (0, 0))
  b2 : W.heap[n + 1 + 1]? = some (.cells #[vk] 22 (0, 0))
  b3 : W.heap[n + 1 + 1 + 1]? = some (.cells #[.int .i64 0, .int .i64 0, .int .i64 0, .string ⟨#[]⟩, .slice none 0 0] 31 (0, 0))
  b4 : W.heap[n + 1 + 1 + 1 + 1]? = some (.cells #[.int .i64 0, .int .i64 0, .int .i64 0, .int .i64 0, .string ⟨#[]⟩, .slice none 0 0, .slice none 0 0] 36 (0, 0))
theorem mW_size (w : World) (id ver kind : Int) (lang : ByteArray) (xa : Option Addr) (xn xc : Nat) (id2 ver2 kind2 : Int) (lang2 : ByteArray) (ya : Option Addr) (yn yc : Nat) (vk : Value) : (mW w id ver kind lang xa xn xc id2 ver2 kind2 lang2 ya yn yc vk).heap.size = w.heap.size + 5 := by simp
theorem mW_blk {w W : World} {id ver kind : Int} {lang : ByteArray} {xa : Option Addr} {xn xc : Nat} {id2 ver2 kind2 : Int} {lang2 : ByteArray} {ya : Option Addr} {yn yc : Nat} {vk : Value} {B : Nat} (hB : B = w.heap.size + 5) (h : Below B (mW w id ver kind lang xa xn xc id2 ver2 kind2 lang2 ya yn yc vk) W) : MBlk W w.heap.size id ver kind lang xa xn xc id2 ver2 kind2 lang2 ya yn yc vk := by
  subst hB
  refine ⟨?_, ?_, ?_, ?_, ?_⟩
  · exact (h.block _ (by omega)).trans ((alloc_old (by (try simp only [World.size_alloc]) <;> omega)).trans ((alloc_old (by (try simp only [World.size_alloc]) <;> omega)).trans ((alloc_old (by (try simp only [World.size_alloc]) <;> omega)).trans ((alloc_old (by (try simp only [World.size_alloc]) <;> omega)).trans (alloc_at rfl)))))
  · exact (h.block _ (by omega)).trans ((alloc_old (by (try simp only [World.size_alloc]) <;> omega)).trans ((alloc_old (by (try simp only [World.size_alloc]) <;> omega)).trans ((alloc_old (by (try simp only [World.size_alloc]) <;> omega)).trans (alloc_at (by (try simp only [World.size_alloc]) <;> omega)))))
  · exact (h.block _ (by omega)).trans ((alloc_old (by (try simp only [World.size_alloc]) <;> omega)).trans ((alloc_old (by (try simp only [World.size_alloc]) <;> omega)).trans (alloc_at (by (try simp only [World.size_alloc]) <;> omega))))
  · exact (h.block _ (by omega)).trans ((alloc_old (by (try simp only [World.size_alloc]) <;> omega)).trans (alloc_at (by (try simp only [World.size_alloc]) <;> omega)))
  · exact (h.block _ (by omega)).trans (alloc_at (by (try simp only [World.size_alloc]) <;> omega))
/-- What holds in the loop: the fields and the parting, each in its cell. -/
structure MI (w W0 : World) (B g : Nat) (id : Int) (y : Rcd) (W : World) (fs : List Fld) (ts : List Int) (vf tv : Value) : Prop where
  hg : W.heap[g]? = some (.cells #[vf] 29 (0, 0))
  hp : W.heap[g + 1]? = some (.cells #[.int .i64 id, .int .i64 y.r.id, .int .i64 y.r.ver, .int .i64 y.r.kind, .string y.r.lang, .slice y.sa y.r.fields.length y.sc, tv] 36 (0, 0))
  of : OwnF W B vf fs
  oi : OwnI W B tv ts
  hat : ∀ f ∈ fs, FldAt w f
  bel : Below B W0 W
theorem MI.below {w W0 : World} {B g : Nat} {id : Int} {y : Rcd} {W W' : World} {fs : List Fld} {ts : List Int} {vf tv : Value} (h : MI w W0 B g id y W fs ts vf tv) (hb : Below W.heap.size W W') (hB : B ≤ W.heap.size) : MI w W0 B g id y W' fs ts vf tv :=
  ⟨(hb.block g (Array.getElem?_eq_some_iff.1 h.hg).1).trans h.hg, (hb.block (g + 1) (Array.getElem?_eq_some_iff.1 h.hp).1).trans h.hp, h.of.below hb (Nat.le_refl _), h.oi.below hb (Nat.le_refl _), h.hat, h.bel.trans (hb.mono hB)⟩
theorem MI.fstep {w W0 : World} {B g : Nat} {id : Int} {y : Rcd} {W w5 : World} {fs : List Fld} {ts : List Int} {vf tv v5 : Value} {f : Fld} (h : MI w W0 B g id y W fs ts vf tv) (ho : OwnF w5 B v5 (fs ++ [f])) (hgr : W.grownBy w5 vf.ownBlock) (hb : Below B W w5) (hf : FldAt w f) (hBg : B ≤ g) :
    w5.heap[g]? = some (.cells #[vf] 29 (0, 0)) ∧ MI w W0 B g id y (w5.setCell ⟨g, 0, none⟩ v5) (fs ++ [f]) ts v5 tv := by
  have h1 := block_grown hgr h.hg (h.of.apart h.hg (by decide))
  have h2 := block_grown hgr h.hp (h.of.apart h.hp (by decide))
  have h3 : OwnI w5 B tv ts := OwnE.other h.oi h.of (by decide) hgr
  refine ⟨h1, heap_setCell_same _ g 0 _ _ _ h1, (set_block _ _ _ _ (by show g ≠ g + 1; omega)).trans h2, OwnE.set ho h1 (by decide) 0 v5, OwnE.set h3 h1 (by decide) 0 v5, fun x hx => ?_, (h.bel.trans hb).setCell (p := ⟨g, 0, none⟩) hBg v5⟩
  rcases List.mem_append.1 hx with hx | hx
  · exact h.hat x hx
  · cases List.mem_singleton.1 hx; exact hf
theorem MI.istep {w W0 : World} {B g : Nat} {id : Int} {y : Rcd} {W w5 : World} {fs : List Fld} {ts : List Int} {vf tv v5 : Value} {i : Int} (h : MI w W0 B g id y W fs ts vf tv) (ho : OwnI w5 B v5 (ts ++ [i])) (hgr : W.grownBy w5 tv.ownBlock) (hb : Below B W w5) (hBg : B ≤ g) :
    w5.heap[g + 1]? = some (.cells #[.int .i64 id, .int .i64 y.r.id, .int .i64 y.r.ver, .int .i64 y.r.kind, .string y.r.lang, .slice y.sa y.r.fields.length y.sc, tv] 36 (0, 0)) ∧ MI w W0 B g id y (w5.setCell ⟨g + 1, 6, none⟩ v5) fs (ts ++ [i]) vf v5 := by
  have h1 := block_grown hgr h.hg (h.oi.apart h.hg (by decide))
  have h2 := block_grown hgr h.hp (h.oi.apart h.hp (by decide))
  have h3 : OwnF w5 B vf fs := OwnE.other h.of h.oi (by decide) hgr
  exact ⟨h2, (set_block _ _ _ _ (by show g + 1 ≠ g; omega)).trans h1, heap_setCell_same _ (g + 1) 6 _ _ _ h2, OwnE.set h3 h2 (by decide) 6 v5, OwnE.set ho h2 (by decide) 6 v5, h.hat, (h.bel.trans hb).setCell (p := ⟨g + 1, 6, none⟩) (Nat.le_succ_of_le hBg) v5⟩
theorem mergeGo_step {keeps : List (ByteArray × Int)} {into l : List Fld} {k : Nat} {f : Fld} {fs : List Fld} {ts : List Int} (h : l[k]? = some f) : mergeGo keeps into (l.drop k) k fs ts = if takesL keeps fs into f = true then mergeGo keeps into (l.drop (k + 1)) (k + 1) (fs ++ [f]) (ts ++ [(k : Int)]) else mergeGo keeps into (l.drop (k + 1)) (k + 1) fs ts := by
  rw [drop_step h, mergeGo]


set_option maxRecDepth 100000 in
set_option maxHeartbeats 8000000 in
theorem pMerge (x y : Rcd) (vk : Value) (keeps : List (ByteArray × Int)) (w : World) (hE : Env w) (hx : RcdAt w x) (hy : RcdAt w y) (hk : Keeps w vk keeps) (hsx : x.r.small) (hsy : y.r.small) (hkl : keeps.length ≤ 1000) (hxl : x.r.fields.length ≤ 1000) (hyl : y.r.fields.length ≤ 1000) :
    Calls Tryd.prog 13 #[recV5 x, recV5 y, vk] w (RetMerge w (mergeP x y keeps)) := by
  have HRX : Hid (∀ W, Below w.heap.size w W → Calls Tryd.prog 26 #[recV5 x] W fun e w' => e = .returned (.int .i64 (recErr x.r)) ∧ Below W.heap.size W w') := Lib.hid (fun W h => pRecRight x.r x.sa x.r.fields.length x.sc W (hE.below h) (hx.below h (Nat.le_refl _)) hsx)
  have HRY : Hid (∀ W, Below w.heap.size w W → Calls Tryd.prog 26 #[recV5 y] W fun e w' => e = .returned (.int .i64 (recErr y.r)) ∧ Below W.heap.size W w') := Lib.hid (fun W h => pRecRight y.r y.sa y.r.fields.length y.sc W (hE.below h) (hy.below h (Nat.le_refl _)) hsy)
  have HCLN : Hid (∀ W, Below w.heap.size w W → Calls Tryd.prog 27 #[.slice x.sa x.r.fields.length x.sc] W fun e w' => ∃ v, e = .returned v ∧ OwnF w' W.heap.size v x.r.fields ∧ Below W.heap.size W w') := Lib.hid (fun W h => pClone _ x.r.fields W (Flds.below hx h (Nat.le_refl _)) (by omega))
  have HTK : Hid (∀ W (cl cf ci : Nat) (vf : Value) (fields : List Fld) (f : Fld), Below w.heap.size w W → W.cell? ⟨cl, 0, none⟩ = some vk → W.cell? ⟨cf, 0, none⟩ = some vf → Flds W vf fields → W.cell? ⟨ci, 4, none⟩ = some (.slice x.sa x.r.fields.length x.sc) → f ∈ y.r.fields → fields.length ≤ 1000000 → Calls Tryd.prog 28 #[fldV f, .pointer (some ⟨cl, 0, none⟩), .pointer (some ⟨cf, 0, none⟩), .pointer (some ⟨ci, 0, none⟩)] W fun e w' => e = .returned (.bool (takesL keeps fields x.r.fields f)) ∧ Below W.heap.size W w') := Lib.hid (fun W cl cf ci vf fields f h h0 h1 h2 h3 hf hl => pTakes f cl cf ci vk vf _ keeps fields x.r.fields W h0 (Rows.below hk h (Nat.le_refl _)) h1 h2 h3 (Flds.below hx h (Nat.le_refl _)) ((hy.2 f hf).below h (Nat.le_refl _)) (hsy.2 f hf).subs (by omega) hl (by omega))
  have HYC := Lib.hid (rcd_cells hy)
  have HFX : Hid (∀ f ∈ x.r.fields, FldAt w f) := Lib.hid hx.2
  have HFY : Hid (∀ f ∈ y.r.fields, FldAt w f) := Lib.hid hy.2
  have HYA : Hid (∀ W, Below w.heap.size w W → RcdAt W y) := Lib.hid (fun W h => hy.below h (Nat.le_refl _))
  obtain ⟨ka, kc, rfl, -⟩ := Rows.shape hk
  obtain ⟨P, hP⟩ : ∃ P, P = mergeP x y keeps := ⟨_, rfl⟩
  rw [← hP]
  unfold mergeP mergeErr at hP
  obtain ⟨E1, hE1⟩ : ∃ E, E = recErr x.r := ⟨_, rfl⟩
  obtain ⟨E2, hE2⟩ : ∃ E, E = recErr y.r := ⟨_, rfl⟩
  rw [← hE1] at HRX hP
  rw [← hE2] at HRY hP
  have HY : Hid (∃ z : Rcd, z = y) := Lib.hid ⟨y, rfl⟩
  obtain ⟨⟨id, ver, kind, lang, xf⟩, xa, xc⟩ := x
  obtain ⟨⟨id2, ver2, kind2, lang2, yf⟩, ya, yc⟩ := y
  unfold recV5 at HRX HRY ⊢
  simp only at HRX HRY HCLN HTK HYC HFX HFY hP hxl hyl ⊢
  obtain ⟨xn, hxn⟩ : ∃ n, n = xf.length := ⟨_, rfl⟩
  obtain ⟨yn, hyn⟩ : ∃ n, n = yf.length := ⟨_, rfl⟩
  obtain ⟨kn, hkn⟩ : ∃ n, n = keeps.length := ⟨_, rfl⟩
  rw [← hxn] at HRX HCLN HTK hxl ⊢
  rw [← hyn] at HRY hyl ⊢
  rw [← hkn] at HTK hkl ⊢
  have HXN := Lib.hid hxn
  have HYN := Lib.hid hyn
  have hb0 : Below w.heap.size w (mW w id ver kind lang xa xn xc id2 ver2 kind2 lang2 ya yn yc (.slice ka kn kc)) := (((((Below.refl _ _).alloc (Nat.le_refl _) _).alloc (by simp) _).alloc (by simp; omega) _).alloc (by simp; omega) _).alloc (by simp; omega) _
  have HB0 := Lib.hid hb0
  obtain ⟨B, hB⟩ : ∃ B, B = w.heap.size + 5 := ⟨_, rfl⟩
  have HBL : Hid (∀ W, Below B (mW w id ver kind lang xa xn xc id2 ver2 kind2 lang2 ya yn yc (.slice ka kn kc)) W → MBlk W w.heap.size id ver kind lang xa xn xc id2 ver2 kind2 lang2 ya yn yc (.slice ka kn kc)) := Lib.hid (fun W h => mW_blk hB h)
  have HBB : Hid (B = (mW w id ver kind lang xa xn xc id2 ver2 kind2 lang2 ya yn yc (.slice ka kn kc)).heap.size ∧ w.heap.size + 5 = B) := Lib.hid ⟨by rw [mW_size, hB], hB.symm⟩
  have HBR : Hid (Below B (mW w id ver kind lang xa xn xc id2 ver2 kind2 lang2 ya yn yc (.slice ka kn kc)) (mW w id ver kind lang xa xn xc id2 ver2 kind2 lang2 ya yn yc (.slice ka kn kc))) := Lib.hid (Below.refl _ _)
  clear hx hy hk hsx hsy hE hE1 hE2 hxn hyn hkn hb0 hB
  have hblk := HBL.out _ HBR.out
  have q0 := Lib.cell_of_heap hblk.b0 0
  have q1 := Lib.cell_of_heap hblk.b0 1
  have q2 := Lib.cell_of_heap hblk.b0 2
  have q3 := Lib.cell_of_heap hblk.b0 3
  have q4 := Lib.cell_of_heap hblk.b0 4
  have r0 := Lib.cell_of_heap hblk.b1 0
  have r1 := Lib.cell_of_heap hblk.b1 1
  have r2 := Lib.cell_of_heap hblk.b1 2
  have r3 := Lib.cell_of_heap hblk.b1 3
  have r4 := Lib.cell_of_heap hblk.b1 4
  have s0 := Lib.cell_of_heap hblk.b2 0
  clear hblk
  by_cases e1 : E1 = 0
  case neg =>
    have e1z : (E1 == 0) = false := by simpa using e1
    have e1n : (E1 != 0) = true := by rw [bne, e1z]; rfl
    have HP : Hid (P = (rec0, part0, E1)) := Lib.hid (by rw [hP, if_pos e1]; rw [if_pos]; exact e1)
    clear hP e1
    go_enter Tryd.func13, Tryd.ntmps13
    go_wp2_with fail
    refine (HRX.out _ HB0.out).mono ?_
    rintro e w1 ⟨rfl, b1⟩
    have HM1 : Hid (Below B (mW w id ver kind lang xa xn xc id2 ver2 kind2 lang2 ya yn yc (.slice ka kn kc)) w1) := Lib.hid (by rw [HBB.out.1]; exact b1)
    have HB1 := Lib.hid (HB0.out.bt b1)
    clear b1 q0 q1 q2 q3 q4 r0 r1 r2 r3 r4 s0
    have HK := Lib.hid (HBL.out _ HM1.out)
    have HBW := HB1
    have c0 := Lib.cell_of_heap HK.out.b3 0
    have f0 := Lib.frozen_of_heap HK.out.b3 0
    have c1 := Lib.cell_of_heap HK.out.b3 1
    have f1 := Lib.frozen_of_heap HK.out.b3 1
    have c2 := Lib.cell_of_heap HK.out.b3 2
    have f2 := Lib.frozen_of_heap HK.out.b3 2
    have c3 := Lib.cell_of_heap HK.out.b3 3
    have f3 := Lib.frozen_of_heap HK.out.b3 3
    have c4 := Lib.cell_of_heap HK.out.b3 4
    have f4 := Lib.frozen_of_heap HK.out.b3 4
    have d0 := Lib.cell_of_heap HK.out.b4 0
    have g0 := Lib.frozen_of_heap HK.out.b4 0
    have d1 := Lib.cell_of_heap HK.out.b4 1
    have g1 := Lib.frozen_of_heap HK.out.b4 1
    have d2 := Lib.cell_of_heap HK.out.b4 2
    have g2 := Lib.frozen_of_heap HK.out.b4 2
    have d3 := Lib.cell_of_heap HK.out.b4 3
    have g3 := Lib.frozen_of_heap HK.out.b4 3
    have d4 := Lib.cell_of_heap HK.out.b4 4
    have g4 := Lib.frozen_of_heap HK.out.b4 4
    have d5 := Lib.cell_of_heap HK.out.b4 5
    have g5 := Lib.frozen_of_heap HK.out.b4 5
    have d6 := Lib.cell_of_heap HK.out.b4 6
    have g6 := Lib.frozen_of_heap HK.out.b4 6
    go_wp2
    (try simp only [Exit.inBlock, Exit.then])
    change bodyPost _ _ _ _ _ (put7 (put5 w1 (w.heap.size + 1 + 1 + 1) (.int .i64 0) (.int .i64 0) (.int .i64 0) (.string ⟨#[]⟩) (.slice none 0 0)) (w.heap.size + 1 + 1 + 1 + 1) (.int .i64 0) (.int .i64 0) (.int .i64 0) (.int .i64 0) (.string ⟨#[]⟩) (.slice none 0 0) (.slice none 0 0))
    exact merge_end rfl rfl rfl rfl HK.out.b3 rfl HK.out.b4 rfl HBW.out (by omega) (fun e w' h => by rw [HP.out]; exact h)
  subst e1
  rw [if_neg (by decide : ¬ (0 : Int) ≠ 0)] at hP
  by_cases e2 : E2 = 0
  case neg =>
    have e1z : (E2 == 0) = false := by simpa using e2
    have e1n : (E2 != 0) = true := by rw [bne, e1z]; rfl
    have HP : Hid (P = (rec0, part0, E2)) := Lib.hid (by rw [hP, if_pos e2]; rw [if_pos]; exact e2)
    clear hP e2
    go_enter Tryd.func13, Tryd.ntmps13
    go_wp2_with fail
    refine (HRX.out _ HB0.out).mono ?_
    rintro e w1 ⟨rfl, b1⟩
    have HM1 : Hid (Below B (mW w id ver kind lang xa xn xc id2 ver2 kind2 lang2 ya yn yc (.slice ka kn kc)) w1) := Lib.hid (by rw [HBB.out.1]; exact b1)
    have HB1 := Lib.hid (HB0.out.bt b1)
    clear b1 q0 q1 q2 q3 q4 r0 r1 r2 r3 r4 s0
    have HK1 := Lib.hid (HBL.out _ HM1.out)
    have q0 := Lib.cell_of_heap HK1.out.b0 0
    have q1 := Lib.cell_of_heap HK1.out.b0 1
    have q2 := Lib.cell_of_heap HK1.out.b0 2
    have q3 := Lib.cell_of_heap HK1.out.b0 3
    have q4 := Lib.cell_of_heap HK1.out.b0 4
    have r0 := Lib.cell_of_heap HK1.out.b1 0
    have r1 := Lib.cell_of_heap HK1.out.b1 1
    have r2 := Lib.cell_of_heap HK1.out.b1 2
    have r3 := Lib.cell_of_heap HK1.out.b1 3
    have r4 := Lib.cell_of_heap HK1.out.b1 4
    have s0 := Lib.cell_of_heap HK1.out.b2 0
    go_wp2_with fail
    refine (HRY.out _ HB1.out).mono ?_
    rintro e w2 ⟨rfl, b2⟩
    have HM2 : Hid (Below B (mW w id ver kind lang xa xn xc id2 ver2 kind2 lang2 ya yn yc (.slice ka kn kc)) w2) := Lib.hid (HM1.out.trans (b2.mono (by rw [HBB.out.1]; exact HM1.out.size)))
    have HB2 := Lib.hid (HB1.out.bt b2)
    clear b2 q0 q1 q2 q3 q4 r0 r1 r2 r3 r4 s0
    have HK := Lib.hid (HBL.out _ HM2.out)
    have HBW := HB2
    have c0 := Lib.cell_of_heap HK.out.b3 0
    have f0 := Lib.frozen_of_heap HK.out.b3 0
    have c1 := Lib.cell_of_heap HK.out.b3 1
    have f1 := Lib.frozen_of_heap HK.out.b3 1
    have c2 := Lib.cell_of_heap HK.out.b3 2
    have f2 := Lib.frozen_of_heap HK.out.b3 2
    have c3 := Lib.cell_of_heap HK.out.b3 3
    have f3 := Lib.frozen_of_heap HK.out.b3 3
    have c4 := Lib.cell_of_heap HK.out.b3 4
    have f4 := Lib.frozen_of_heap HK.out.b3 4
    have d0 := Lib.cell_of_heap HK.out.b4 0
    have g0 := Lib.frozen_of_heap HK.out.b4 0
    have d1 := Lib.cell_of_heap HK.out.b4 1
    have g1 := Lib.frozen_of_heap HK.out.b4 1
    have d2 := Lib.cell_of_heap HK.out.b4 2
    have g2 := Lib.frozen_of_heap HK.out.b4 2
    have d3 := Lib.cell_of_heap HK.out.b4 3
    have g3 := Lib.frozen_of_heap HK.out.b4 3
    have d4 := Lib.cell_of_heap HK.out.b4 4
    have g4 := Lib.frozen_of_heap HK.out.b4 4
    have d5 := Lib.cell_of_heap HK.out.b4 5
    have g5 := Lib.frozen_of_heap HK.out.b4 5
    have d6 := Lib.cell_of_heap HK.out.b4 6
    have g6 := Lib.frozen_of_heap HK.out.b4 6
    go_wp2
    (try simp only [Exit.inBlock, Exit.then])
    change bodyPost _ _ _ _ _ (put7 (put5 w2 (w.heap.size + 1 + 1 + 1) (.int .i64 0) (.int .i64 0) (.int .i64 0) (.string ⟨#[]⟩) (.slice none 0 0)) (w.heap.size + 1 + 1 + 1 + 1) (.int .i64 0) (.int .i64 0) (.int .i64 0) (.int .i64 0) (.string ⟨#[]⟩) (.slice none 0 0) (.slice none 0 0))
    exact merge_end rfl rfl rfl rfl HK.out.b3 rfl HK.out.b4 rfl HBW.out (by omega) (fun e w' h => by rw [HP.out]; exact h)
  subst e2
  rw [if_neg (by decide : ¬ (0 : Int) ≠ 0)] at hP
  by_cases z1 : id = 0
  · have z1b : (id == 0) = true := by simpa using z1
    have HP : Hid (P = (rec0, part0, 2)) := Lib.hid (by rw [hP, if_pos (Or.inl z1 : id = 0 ∨ id2 = 0), if_pos (by decide)])
    clear hP z1
    go_enter Tryd.func13, Tryd.ntmps13
    go_wp2_with fail
    refine (HRX.out _ HB0.out).mono ?_
    rintro e w1 ⟨rfl, b1⟩
    have HM1 : Hid (Below B (mW w id ver kind lang xa xn xc id2 ver2 kind2 lang2 ya yn yc (.slice ka kn kc)) w1) := Lib.hid (by rw [HBB.out.1]; exact b1)
    have HB1 := Lib.hid (HB0.out.bt b1)
    clear b1 q0 q1 q2 q3 q4 r0 r1 r2 r3 r4 s0
    have HK1 := Lib.hid (HBL.out _ HM1.out)
    have q0 := Lib.cell_of_heap HK1.out.b0 0
    have q1 := Lib.cell_of_heap HK1.out.b0 1
    have q2 := Lib.cell_of_heap HK1.out.b0 2
    have q3 := Lib.cell_of_heap HK1.out.b0 3
    have q4 := Lib.cell_of_heap HK1.out.b0 4
    have r0 := Lib.cell_of_heap HK1.out.b1 0
    have r1 := Lib.cell_of_heap HK1.out.b1 1
    have r2 := Lib.cell_of_heap HK1.out.b1 2
    have r3 := Lib.cell_of_heap HK1.out.b1 3
    have r4 := Lib.cell_of_heap HK1.out.b1 4
    have s0 := Lib.cell_of_heap HK1.out.b2 0
    go_wp2_with fail
    refine (HRY.out _ HB1.out).mono ?_
    rintro e w2 ⟨rfl, b2⟩
    have HM2 : Hid (Below B (mW w id ver kind lang xa xn xc id2 ver2 kind2 lang2 ya yn yc (.slice ka kn kc)) w2) := Lib.hid (HM1.out.trans (b2.mono (by rw [HBB.out.1]; exact HM1.out.size)))
    have HB2 := Lib.hid (HB1.out.bt b2)
    clear b2 q0 q1 q2 q3 q4 r0 r1 r2 r3 r4 s0
    have HK := Lib.hid (HBL.out _ HM2.out)
    have HBW := HB2
    have q0 := Lib.cell_of_heap HK.out.b0 0
    have q1 := Lib.cell_of_heap HK.out.b0 1
    have q2 := Lib.cell_of_heap HK.out.b0 2
    have q3 := Lib.cell_of_heap HK.out.b0 3
    have q4 := Lib.cell_of_heap HK.out.b0 4
    have r0 := Lib.cell_of_heap HK.out.b1 0
    have r1 := Lib.cell_of_heap HK.out.b1 1
    have r2 := Lib.cell_of_heap HK.out.b1 2
    have r3 := Lib.cell_of_heap HK.out.b1 3
    have r4 := Lib.cell_of_heap HK.out.b1 4
    have c0 := Lib.cell_of_heap HK.out.b3 0
    have f0 := Lib.frozen_of_heap HK.out.b3 0
    have c1 := Lib.cell_of_heap HK.out.b3 1
    have f1 := Lib.frozen_of_heap HK.out.b3 1
    have c2 := Lib.cell_of_heap HK.out.b3 2
    have f2 := Lib.frozen_of_heap HK.out.b3 2
    have c3 := Lib.cell_of_heap HK.out.b3 3
    have f3 := Lib.frozen_of_heap HK.out.b3 3
    have c4 := Lib.cell_of_heap HK.out.b3 4
    have f4 := Lib.frozen_of_heap HK.out.b3 4
    have d0 := Lib.cell_of_heap HK.out.b4 0
    have g0 := Lib.frozen_of_heap HK.out.b4 0
    have d1 := Lib.cell_of_heap HK.out.b4 1
    have g1 := Lib.frozen_of_heap HK.out.b4 1
    have d2 := Lib.cell_of_heap HK.out.b4 2
    have g2 := Lib.frozen_of_heap HK.out.b4 2
    have d3 := Lib.cell_of_heap HK.out.b4 3
    have g3 := Lib.frozen_of_heap HK.out.b4 3
    have d4 := Lib.cell_of_heap HK.out.b4 4
    have g4 := Lib.frozen_of_heap HK.out.b4 4
    have d5 := Lib.cell_of_heap HK.out.b4 5
    have g5 := Lib.frozen_of_heap HK.out.b4 5
    have d6 := Lib.cell_of_heap HK.out.b4 6
    have g6 := Lib.frozen_of_heap HK.out.b4 6
    go_wp2
    (try simp only [Exit.inBlock, Exit.then])
    change bodyPost _ _ _ _ _ (put7 (put5 w2 (w.heap.size + 1 + 1 + 1) (.int .i64 0) (.int .i64 0) (.int .i64 0) (.string ⟨#[]⟩) (.slice none 0 0)) (w.heap.size + 1 + 1 + 1 + 1) (.int .i64 0) (.int .i64 0) (.int .i64 0) (.int .i64 0) (.string ⟨#[]⟩) (.slice none 0 0) (.slice none 0 0))
    exact merge_end rfl rfl rfl rfl HK.out.b3 rfl HK.out.b4 rfl HBW.out (by omega) (fun e w' h => by rw [HP.out]; exact h)
  have z1b : (id == 0) = false := by simpa using z1
  by_cases z2 : id2 = 0
  · have z2b : (id2 == 0) = true := by simpa using z2
    have HP : Hid (P = (rec0, part0, 2)) := Lib.hid (by rw [hP, if_pos (Or.inr z2 : id = 0 ∨ id2 = 0), if_pos (by decide)])
    clear hP z2 z1
    go_enter Tryd.func13, Tryd.ntmps13
    go_wp2_with fail
    refine (HRX.out _ HB0.out).mono ?_
    rintro e w1 ⟨rfl, b1⟩
    have HM1 : Hid (Below B (mW w id ver kind lang xa xn xc id2 ver2 kind2 lang2 ya yn yc (.slice ka kn kc)) w1) := Lib.hid (by rw [HBB.out.1]; exact b1)
    have HB1 := Lib.hid (HB0.out.bt b1)
    clear b1 q0 q1 q2 q3 q4 r0 r1 r2 r3 r4 s0
    have HK1 := Lib.hid (HBL.out _ HM1.out)
    have q0 := Lib.cell_of_heap HK1.out.b0 0
    have q1 := Lib.cell_of_heap HK1.out.b0 1
    have q2 := Lib.cell_of_heap HK1.out.b0 2
    have q3 := Lib.cell_of_heap HK1.out.b0 3
    have q4 := Lib.cell_of_heap HK1.out.b0 4
    have r0 := Lib.cell_of_heap HK1.out.b1 0
    have r1 := Lib.cell_of_heap HK1.out.b1 1
    have r2 := Lib.cell_of_heap HK1.out.b1 2
    have r3 := Lib.cell_of_heap HK1.out.b1 3
    have r4 := Lib.cell_of_heap HK1.out.b1 4
    have s0 := Lib.cell_of_heap HK1.out.b2 0
    go_wp2_with fail
    refine (HRY.out _ HB1.out).mono ?_
    rintro e w2 ⟨rfl, b2⟩
    have HM2 : Hid (Below B (mW w id ver kind lang xa xn xc id2 ver2 kind2 lang2 ya yn yc (.slice ka kn kc)) w2) := Lib.hid (HM1.out.trans (b2.mono (by rw [HBB.out.1]; exact HM1.out.size)))
    have HB2 := Lib.hid (HB1.out.bt b2)
    clear b2 q0 q1 q2 q3 q4 r0 r1 r2 r3 r4 s0
    have HK := Lib.hid (HBL.out _ HM2.out)
    have HBW := HB2
    have q0 := Lib.cell_of_heap HK.out.b0 0
    have q1 := Lib.cell_of_heap HK.out.b0 1
    have q2 := Lib.cell_of_heap HK.out.b0 2
    have q3 := Lib.cell_of_heap HK.out.b0 3
    have q4 := Lib.cell_of_heap HK.out.b0 4
    have r0 := Lib.cell_of_heap HK.out.b1 0
    have r1 := Lib.cell_of_heap HK.out.b1 1
    have r2 := Lib.cell_of_heap HK.out.b1 2
    have r3 := Lib.cell_of_heap HK.out.b1 3
    have r4 := Lib.cell_of_heap HK.out.b1 4
    have c0 := Lib.cell_of_heap HK.out.b3 0
    have f0 := Lib.frozen_of_heap HK.out.b3 0
    have c1 := Lib.cell_of_heap HK.out.b3 1
    have f1 := Lib.frozen_of_heap HK.out.b3 1
    have c2 := Lib.cell_of_heap HK.out.b3 2
    have f2 := Lib.frozen_of_heap HK.out.b3 2
    have c3 := Lib.cell_of_heap HK.out.b3 3
    have f3 := Lib.frozen_of_heap HK.out.b3 3
    have c4 := Lib.cell_of_heap HK.out.b3 4
    have f4 := Lib.frozen_of_heap HK.out.b3 4
    have d0 := Lib.cell_of_heap HK.out.b4 0
    have g0 := Lib.frozen_of_heap HK.out.b4 0
    have d1 := Lib.cell_of_heap HK.out.b4 1
    have g1 := Lib.frozen_of_heap HK.out.b4 1
    have d2 := Lib.cell_of_heap HK.out.b4 2
    have g2 := Lib.frozen_of_heap HK.out.b4 2
    have d3 := Lib.cell_of_heap HK.out.b4 3
    have g3 := Lib.frozen_of_heap HK.out.b4 3
    have d4 := Lib.cell_of_heap HK.out.b4 4
    have g4 := Lib.frozen_of_heap HK.out.b4 4
    have d5 := Lib.cell_of_heap HK.out.b4 5
    have g5 := Lib.frozen_of_heap HK.out.b4 5
    have d6 := Lib.cell_of_heap HK.out.b4 6
    have g6 := Lib.frozen_of_heap HK.out.b4 6
    go_wp2
    (try simp only [Exit.inBlock, Exit.then])
    change bodyPost _ _ _ _ _ (put7 (put5 w2 (w.heap.size + 1 + 1 + 1) (.int .i64 0) (.int .i64 0) (.int .i64 0) (.string ⟨#[]⟩) (.slice none 0 0)) (w.heap.size + 1 + 1 + 1 + 1) (.int .i64 0) (.int .i64 0) (.int .i64 0) (.int .i64 0) (.string ⟨#[]⟩) (.slice none 0 0) (.slice none 0 0))
    exact merge_end rfl rfl rfl rfl HK.out.b3 rfl HK.out.b4 rfl HBW.out (by omega) (fun e w' h => by rw [HP.out]; exact h)
  have z2b : (id2 == 0) = false := by simpa using z2
  rw [if_neg (show ¬ (id = 0 ∨ id2 = 0) from fun h => h.elim z1 z2)] at hP
  by_cases z3 : id = id2
  · have z3b : (id == id2) = true := by simpa using z3
    have HP : Hid (P = (rec0, part0, 1)) := Lib.hid (by rw [hP, if_pos z3, if_pos (by decide)])
    clear hP z3 z1 z2
    go_enter Tryd.func13, Tryd.ntmps13
    go_wp2_with fail
    refine (HRX.out _ HB0.out).mono ?_
    rintro e w1 ⟨rfl, b1⟩
    have HM1 : Hid (Below B (mW w id ver kind lang xa xn xc id2 ver2 kind2 lang2 ya yn yc (.slice ka kn kc)) w1) := Lib.hid (by rw [HBB.out.1]; exact b1)
    have HB1 := Lib.hid (HB0.out.bt b1)
    clear b1 q0 q1 q2 q3 q4 r0 r1 r2 r3 r4 s0
    have HK1 := Lib.hid (HBL.out _ HM1.out)
    have q0 := Lib.cell_of_heap HK1.out.b0 0
    have q1 := Lib.cell_of_heap HK1.out.b0 1
    have q2 := Lib.cell_of_heap HK1.out.b0 2
    have q3 := Lib.cell_of_heap HK1.out.b0 3
    have q4 := Lib.cell_of_heap HK1.out.b0 4
    have r0 := Lib.cell_of_heap HK1.out.b1 0
    have r1 := Lib.cell_of_heap HK1.out.b1 1
    have r2 := Lib.cell_of_heap HK1.out.b1 2
    have r3 := Lib.cell_of_heap HK1.out.b1 3
    have r4 := Lib.cell_of_heap HK1.out.b1 4
    have s0 := Lib.cell_of_heap HK1.out.b2 0
    go_wp2_with fail
    refine (HRY.out _ HB1.out).mono ?_
    rintro e w2 ⟨rfl, b2⟩
    have HM2 : Hid (Below B (mW w id ver kind lang xa xn xc id2 ver2 kind2 lang2 ya yn yc (.slice ka kn kc)) w2) := Lib.hid (HM1.out.trans (b2.mono (by rw [HBB.out.1]; exact HM1.out.size)))
    have HB2 := Lib.hid (HB1.out.bt b2)
    clear b2 q0 q1 q2 q3 q4 r0 r1 r2 r3 r4 s0
    have HK := Lib.hid (HBL.out _ HM2.out)
    have HBW := HB2
    have q0 := Lib.cell_of_heap HK.out.b0 0
    have q1 := Lib.cell_of_heap HK.out.b0 1
    have q2 := Lib.cell_of_heap HK.out.b0 2
    have q3 := Lib.cell_of_heap HK.out.b0 3
    have q4 := Lib.cell_of_heap HK.out.b0 4
    have r0 := Lib.cell_of_heap HK.out.b1 0
    have r1 := Lib.cell_of_heap HK.out.b1 1
    have r2 := Lib.cell_of_heap HK.out.b1 2
    have r3 := Lib.cell_of_heap HK.out.b1 3
    have r4 := Lib.cell_of_heap HK.out.b1 4
    have c0 := Lib.cell_of_heap HK.out.b3 0
    have f0 := Lib.frozen_of_heap HK.out.b3 0
    have c1 := Lib.cell_of_heap HK.out.b3 1
    have f1 := Lib.frozen_of_heap HK.out.b3 1
    have c2 := Lib.cell_of_heap HK.out.b3 2
    have f2 := Lib.frozen_of_heap HK.out.b3 2
    have c3 := Lib.cell_of_heap HK.out.b3 3
    have f3 := Lib.frozen_of_heap HK.out.b3 3
    have c4 := Lib.cell_of_heap HK.out.b3 4
    have f4 := Lib.frozen_of_heap HK.out.b3 4
    have d0 := Lib.cell_of_heap HK.out.b4 0
    have g0 := Lib.frozen_of_heap HK.out.b4 0
    have d1 := Lib.cell_of_heap HK.out.b4 1
    have g1 := Lib.frozen_of_heap HK.out.b4 1
    have d2 := Lib.cell_of_heap HK.out.b4 2
    have g2 := Lib.frozen_of_heap HK.out.b4 2
    have d3 := Lib.cell_of_heap HK.out.b4 3
    have g3 := Lib.frozen_of_heap HK.out.b4 3
    have d4 := Lib.cell_of_heap HK.out.b4 4
    have g4 := Lib.frozen_of_heap HK.out.b4 4
    have d5 := Lib.cell_of_heap HK.out.b4 5
    have g5 := Lib.frozen_of_heap HK.out.b4 5
    have d6 := Lib.cell_of_heap HK.out.b4 6
    have g6 := Lib.frozen_of_heap HK.out.b4 6
    go_wp2
    (try simp only [Exit.inBlock, Exit.then])
    change bodyPost _ _ _ _ _ (put7 (put5 w2 (w.heap.size + 1 + 1 + 1) (.int .i64 0) (.int .i64 0) (.int .i64 0) (.string ⟨#[]⟩) (.slice none 0 0)) (w.heap.size + 1 + 1 + 1 + 1) (.int .i64 0) (.int .i64 0) (.int .i64 0) (.int .i64 0) (.string ⟨#[]⟩) (.slice none 0 0) (.slice none 0 0))
    exact merge_end rfl rfl rfl rfl HK.out.b3 rfl HK.out.b4 rfl HBW.out (by omega) (fun e w' h => by rw [HP.out]; exact h)
  have z3b : (id == id2) = false := by simpa using z3
  rw [if_neg z3] at hP
  by_cases z4 : ver = ver2
  case neg =>
    have z4b : (ver == ver2) = false := by simpa using z4
    have z4n : (ver != ver2) = true := by rw [bne, z4b]; rfl
    have HP : Hid (P = (rec0, part0, 20)) := Lib.hid (by rw [hP, if_pos (show ver ≠ ver2 from z4), if_pos (by decide)])
    clear hP z4 z1 z2 z3
    go_enter Tryd.func13, Tryd.ntmps13
    go_wp2_with fail
    refine (HRX.out _ HB0.out).mono ?_
    rintro e w1 ⟨rfl, b1⟩
    have HM1 : Hid (Below B (mW w id ver kind lang xa xn xc id2 ver2 kind2 lang2 ya yn yc (.slice ka kn kc)) w1) := Lib.hid (by rw [HBB.out.1]; exact b1)
    have HB1 := Lib.hid (HB0.out.bt b1)
    clear b1 q0 q1 q2 q3 q4 r0 r1 r2 r3 r4 s0
    have HK1 := Lib.hid (HBL.out _ HM1.out)
    have q0 := Lib.cell_of_heap HK1.out.b0 0
    have q1 := Lib.cell_of_heap HK1.out.b0 1
    have q2 := Lib.cell_of_heap HK1.out.b0 2
    have q3 := Lib.cell_of_heap HK1.out.b0 3
    have q4 := Lib.cell_of_heap HK1.out.b0 4
    have r0 := Lib.cell_of_heap HK1.out.b1 0
    have r1 := Lib.cell_of_heap HK1.out.b1 1
    have r2 := Lib.cell_of_heap HK1.out.b1 2
    have r3 := Lib.cell_of_heap HK1.out.b1 3
    have r4 := Lib.cell_of_heap HK1.out.b1 4
    have s0 := Lib.cell_of_heap HK1.out.b2 0
    go_wp2_with fail
    refine (HRY.out _ HB1.out).mono ?_
    rintro e w2 ⟨rfl, b2⟩
    have HM2 : Hid (Below B (mW w id ver kind lang xa xn xc id2 ver2 kind2 lang2 ya yn yc (.slice ka kn kc)) w2) := Lib.hid (HM1.out.trans (b2.mono (by rw [HBB.out.1]; exact HM1.out.size)))
    have HB2 := Lib.hid (HB1.out.bt b2)
    clear b2 q0 q1 q2 q3 q4 r0 r1 r2 r3 r4 s0
    have HK := Lib.hid (HBL.out _ HM2.out)
    have HBW := HB2
    have q0 := Lib.cell_of_heap HK.out.b0 0
    have q1 := Lib.cell_of_heap HK.out.b0 1
    have q2 := Lib.cell_of_heap HK.out.b0 2
    have q3 := Lib.cell_of_heap HK.out.b0 3
    have q4 := Lib.cell_of_heap HK.out.b0 4
    have r0 := Lib.cell_of_heap HK.out.b1 0
    have r1 := Lib.cell_of_heap HK.out.b1 1
    have r2 := Lib.cell_of_heap HK.out.b1 2
    have r3 := Lib.cell_of_heap HK.out.b1 3
    have r4 := Lib.cell_of_heap HK.out.b1 4
    have c0 := Lib.cell_of_heap HK.out.b3 0
    have f0 := Lib.frozen_of_heap HK.out.b3 0
    have c1 := Lib.cell_of_heap HK.out.b3 1
    have f1 := Lib.frozen_of_heap HK.out.b3 1
    have c2 := Lib.cell_of_heap HK.out.b3 2
    have f2 := Lib.frozen_of_heap HK.out.b3 2
    have c3 := Lib.cell_of_heap HK.out.b3 3
    have f3 := Lib.frozen_of_heap HK.out.b3 3
    have c4 := Lib.cell_of_heap HK.out.b3 4
    have f4 := Lib.frozen_of_heap HK.out.b3 4
    have d0 := Lib.cell_of_heap HK.out.b4 0
    have g0 := Lib.frozen_of_heap HK.out.b4 0
    have d1 := Lib.cell_of_heap HK.out.b4 1
    have g1 := Lib.frozen_of_heap HK.out.b4 1
    have d2 := Lib.cell_of_heap HK.out.b4 2
    have g2 := Lib.frozen_of_heap HK.out.b4 2
    have d3 := Lib.cell_of_heap HK.out.b4 3
    have g3 := Lib.frozen_of_heap HK.out.b4 3
    have d4 := Lib.cell_of_heap HK.out.b4 4
    have g4 := Lib.frozen_of_heap HK.out.b4 4
    have d5 := Lib.cell_of_heap HK.out.b4 5
    have g5 := Lib.frozen_of_heap HK.out.b4 5
    have d6 := Lib.cell_of_heap HK.out.b4 6
    have g6 := Lib.frozen_of_heap HK.out.b4 6
    go_wp2
    (try simp only [Exit.inBlock, Exit.then])
    change bodyPost _ _ _ _ _ (put7 (put5 w2 (w.heap.size + 1 + 1 + 1) (.int .i64 0) (.int .i64 0) (.int .i64 0) (.string ⟨#[]⟩) (.slice none 0 0)) (w.heap.size + 1 + 1 + 1 + 1) (.int .i64 0) (.int .i64 0) (.int .i64 0) (.int .i64 0) (.string ⟨#[]⟩) (.slice none 0 0) (.slice none 0 0))
    exact merge_end rfl rfl rfl rfl HK.out.b3 rfl HK.out.b4 rfl HBW.out (by omega) (fun e w' h => by rw [HP.out]; exact h)
  have z4b : (ver == ver2) = true := by simpa using z4
  have z4n : (ver != ver2) = false := by rw [bne, z4b]; rfl
  rw [if_neg (show ¬ (ver ≠ ver2) by simpa using z4), if_neg (show ¬ ((0 : Int) ≠ 0) by decide)] at hP
  obtain ⟨G, hG⟩ : ∃ G, G = mergeGo keeps xf yf 0 xf [] := ⟨_, rfl⟩
  rw [← hG] at hP
  have HP0 := Lib.hid hP
  have HG := Lib.hid hG
  clear hP hG z1 z2 z3 z4
  go_enter Tryd.func13, Tryd.ntmps13
  go_wp2_with fail
  refine (HRX.out _ HB0.out).mono ?_
  rintro e w1 ⟨rfl, b1⟩
  have HM1 : Hid (Below B (mW w id ver kind lang xa xn xc id2 ver2 kind2 lang2 ya yn yc (.slice ka kn kc)) w1) := Lib.hid (by rw [HBB.out.1]; exact b1)
  have HB1 := Lib.hid (HB0.out.bt b1)
  clear b1 q0 q1 q2 q3 q4 r0 r1 r2 r3 r4 s0
  have HK1 := Lib.hid (HBL.out _ HM1.out)
  have q0 := Lib.cell_of_heap HK1.out.b0 0
  have q1 := Lib.cell_of_heap HK1.out.b0 1
  have q2 := Lib.cell_of_heap HK1.out.b0 2
  have q3 := Lib.cell_of_heap HK1.out.b0 3
  have q4 := Lib.cell_of_heap HK1.out.b0 4
  have r0 := Lib.cell_of_heap HK1.out.b1 0
  have r1 := Lib.cell_of_heap HK1.out.b1 1
  have r2 := Lib.cell_of_heap HK1.out.b1 2
  have r3 := Lib.cell_of_heap HK1.out.b1 3
  have r4 := Lib.cell_of_heap HK1.out.b1 4
  have s0 := Lib.cell_of_heap HK1.out.b2 0
  go_wp2_with fail
  refine (HRY.out _ HB1.out).mono ?_
  rintro e w2 ⟨rfl, b2⟩
  have HM2 : Hid (Below B (mW w id ver kind lang xa xn xc id2 ver2 kind2 lang2 ya yn yc (.slice ka kn kc)) w2) := Lib.hid (HM1.out.trans (b2.mono (by rw [HBB.out.1]; exact HM1.out.size)))
  have HB2 := Lib.hid (HB1.out.bt b2)
  clear b2 q0 q1 q2 q3 q4 r0 r1 r2 r3 r4 s0
  have HK2 := Lib.hid (HBL.out _ HM2.out)
  have q0 := Lib.cell_of_heap HK2.out.b0 0
  have q1 := Lib.cell_of_heap HK2.out.b0 1
  have q2 := Lib.cell_of_heap HK2.out.b0 2
  have q3 := Lib.cell_of_heap HK2.out.b0 3
  have q4 := Lib.cell_of_heap HK2.out.b0 4
  have r0 := Lib.cell_of_heap HK2.out.b1 0
  have r1 := Lib.cell_of_heap HK2.out.b1 1
  have r2 := Lib.cell_of_heap HK2.out.b1 2
  have r3 := Lib.cell_of_heap HK2.out.b1 3
  have r4 := Lib.cell_of_heap HK2.out.b1 4
  have s0 := Lib.cell_of_heap HK2.out.b2 0
  go_wp2_with fail
  refine (HCLN.out _ HB2.out).mono ?_
  rintro e w3 ⟨v3, rfl, ho3, b3⟩
  obtain ⟨a3, n3, c3, rfl⟩ : ∃ a n c, v3 = .slice a n c := by
    obtain ⟨a, c, h, -⟩ := (OwnE.rows fldE_len ho3).shape
    exact ⟨a, _, c, h⟩
  have hw2B : B ≤ w2.heap.size := by rw [HBB.out.1]; exact HM2.out.size
  have HM3 : Hid (Below B (mW w id ver kind lang xa xn xc id2 ver2 kind2 lang2 ya yn yc (.slice ka kn kc)) w3) := Lib.hid (HM2.out.trans (b3.mono hw2B))
  have HG3 : Hid (B ≤ w3.heap.size) := Lib.hid (Nat.le_trans hw2B b3.size)
  have HO3 : Hid (OwnF w3 B (.slice a3 n3 c3) xf) := Lib.hid (ho3.weaken hw2B)
  have HB3 := Lib.hid (HB2.out.bt b3)
  clear b3 ho3 hw2B q0 q1 q2 q3 q4 r0 r1 r2 r3 r4 s0
  have HK3 := Lib.hid (HBL.out _ HM3.out)
  have q0 := Lib.cell_of_heap HK3.out.b0 0
  have q1 := Lib.cell_of_heap HK3.out.b0 1
  have q2 := Lib.cell_of_heap HK3.out.b0 2
  have q3 := Lib.cell_of_heap HK3.out.b0 3
  have q4 := Lib.cell_of_heap HK3.out.b0 4
  have r0 := Lib.cell_of_heap HK3.out.b1 0
  have r1 := Lib.cell_of_heap HK3.out.b1 1
  have r2 := Lib.cell_of_heap HK3.out.b1 2
  have r3 := Lib.cell_of_heap HK3.out.b1 3
  have r4 := Lib.cell_of_heap HK3.out.b1 4
  have s0 := Lib.cell_of_heap HK3.out.b2 0
  obtain ⟨g, hg⟩ : ∃ g, g = w3.heap.size := ⟨_, rfl⟩
  have hal : Below w3.heap.size w3 ((w3.alloc (.cells #[.slice a3 n3 c3] 29)).alloc (.cells #[.int .i64 id, .int .i64 id2, .int .i64 ver2, .int .i64 kind2, .string lang2, .slice ya yn yc, .slice none 0 0] 36)) := ((Below.refl _ _).alloc (Nat.le_refl _) _).alloc (by simp) _
  have HMI0 : Hid (MI w (mW w id ver kind lang xa xn xc id2 ver2 kind2 lang2 ya yn yc (.slice ka kn kc)) B w3.heap.size id ⟨⟨id2, ver2, kind2, lang2, yf⟩, ya, yc⟩ ((w3.alloc (.cells #[.slice a3 n3 c3] 29)).alloc (.cells #[.int .i64 id, .int .i64 id2, .int .i64 ver2, .int .i64 kind2, .string lang2, .slice ya yn yc, .slice none 0 0] 36)) xf [] (.slice a3 n3 c3) (.slice none 0 0)) := Lib.hid ⟨(alloc_old (by simp)).trans (alloc_at rfl), by
    rw [HYN.out]
    exact alloc_at (by simp), HO3.out.below hal (Nat.le_refl _), OwnE.nil _ _ _ _, HFX.out, HM3.out.trans (hal.mono HG3.out)⟩
  have hblk := HBL.out _ HMI0.out.bel
  have hbw := HB3.out.bt hal
  have HBL0 := Lib.hid hbw
  have u0 := Lib.cell_of_heap hblk.b1 4
  have hala : Below w3.heap.size w3 (w3.alloc (.cells #[.slice a3 n3 c3] 29)) := (Below.refl _ _).alloc (Nat.le_refl _) _
  have hblka := HBL.out _ (HM3.out.trans (hala.mono HG3.out))
  have q9 := Lib.cell_of_heap hblka.b0 0
  have rr0 := Lib.cell_of_heap hblka.b1 0
  have rr1 := Lib.cell_of_heap hblka.b1 1
  have rr2 := Lib.cell_of_heap hblka.b1 2
  have rr3 := Lib.cell_of_heap hblka.b1 3
  have rr4 := Lib.cell_of_heap hblka.b1 4
  clear hal hala hblk hblka hbw hg
  go_wp2
  go_loopw [61] (fun vk wr => ∃ (k : Nat) (fs : List Fld) (ts : List Int) (fa : Option Addr) (fn fc : Nat) (ta : Option Addr) (tn tc : Nat), vk = .int .i64 k ∧ k ≤ yn ∧ fs.length ≤ xn + k ∧ ts.length ≤ k ∧ Hid (G = mergeGo keeps xf (yf.drop k) k fs ts) ∧ Hid (MI w (mW w id ver kind lang xa xn xc id2 ver2 kind2 lang2 ya yn yc (.slice ka kn kc)) B w3.heap.size id ⟨⟨id2, ver2, kind2, lang2, yf⟩, ya, yc⟩ wr fs ts (.slice fa fn fc) (.slice ta tn tc)) ∧ Hid (Below w.heap.size w wr)) (fun vk _ => yn - (intOf vk).toNat)
  case atStart => exact ⟨0, xf, [], a3, n3, c3, none, 0, 0, rfl, by omega, by have := HXN.out; omega, by simp, Lib.hid (by rw [HG.out, List.drop_zero]), HMI0, HBL0⟩
  case round =>
    obtain ⟨k, fs, ts, fa, fn, fc, ta, tn, tc, rfl, hk, hfl, htl, HGO, HMI, HBW⟩ := hrel
    clear q0 q1 q2 q3 q4 r0 r1 r2 r3 r4 s0 u0 q9 rr0 rr1 rr2 rr3 rr4
    have HKR := Lib.hid (HBL.out _ HMI.out.bel)
    by_cases hlt : k < yn
    · have hltz : (k : Int) < (yn : Int) := by omega
      obtain ⟨f, hf⟩ : ∃ f, yf[k]? = some f := ⟨_, List.getElem?_eq_getElem (by have := HYN.out; omega)⟩
      rcases HYC.out with h0 | ⟨b, o, hya, hbl, hcl⟩
      · rw [h0] at hf; cases hf
      subst hya
      have h4 := (hcl k f hf).below HBW.out hbl
      obtain ⟨p0, p1, p2, p3⟩ := h4
      have hst := HGO.out
      rw [mergeGo_step hf] at hst
      obtain ⟨O, hO⟩ : ∃ O, O = Obj.cells #[.string (lb f.tag), .string (lb f.ind), .slice f.sa f.subs.length f.sc, .int .i64 f.auth] 46 := ⟨_, rfl⟩
      have hba : Below wr.heap.size wr (wr.alloc O) := (Below.refl _ _).alloc (Nat.le_refl _) _
      have hB : B ≤ wr.heap.size := Nat.le_trans HG3.out (Nat.le_of_lt (Array.getElem?_eq_some_iff.1 HMI.out.hg).1)
      have HMIa := Lib.hid (HMI.out.below hba hB)
      have HBWa := Lib.hid (HBW.out.bt hba)
      have hka := HBL.out _ HMIa.out.bel
      have hflds : Flds (wr.alloc O) (.slice fa fn fc) fs := OwnF.flds HMIa.out.of (fun x hx => (HMIa.out.hat x hx).below HBWa.out (Nat.le_refl _))
      have htk := HTK.out (wr.alloc O) (w.heap.size + 1 + 1) w3.heap.size w.heap.size (.slice fa fn fc) fs f HBWa.out (Lib.cell_of_heap hka.b2 0) (Lib.cell_of_heap HMIa.out.hg 0) hflds (Lib.cell_of_heap hka.b0 4) (List.mem_of_getElem? hf) (by omega)
      have hfour : ∀ W, Below (wr.alloc O).heap.size (wr.alloc O) W → Four W wr.heap.size 0 f := fun W h => by
        rw [hO] at h
        exact ⟨block_cells h 0 _ rfl, block_cells h 1 _ rfl, block_cells h 2 _ rfl, block_cells h 3 _ rfl⟩
      have hfa : FldAt w f := HFY.out f (List.mem_of_getElem? hf)
      have HFA := Lib.hid hfa
      have HFN : Hid (fn = fs.length) := Lib.hid (by
        obtain ⟨a', c', h, -⟩ := (OwnE.rows fldE_len HMI.out.of).shape
        cases h; rfl)
      have HTN : Hid (tn = ts.length) := Lib.hid (by
        obtain ⟨a', c', h, -⟩ := (OwnE.rows intE_len HMI.out.oi).shape
        cases h; rfl)
      obtain ⟨R, hR⟩ : ∃ R, R = takesL keeps fs xf f := ⟨_, rfl⟩
      unfold fldV at htk
      rw [← hR] at htk hst
      obtain ⟨T, hT⟩ : ∃ T, T = lb f.tag := ⟨_, rfl⟩
      obtain ⟨I, hI⟩ : ∃ I, I = lb f.ind := ⟨_, rfl⟩
      obtain ⟨sn, hsn⟩ : ∃ sn, sn = f.subs.length := ⟨_, rfl⟩
      have hfc : ∀ W, Below (wr.alloc O).heap.size (wr.alloc O) W → W.cell? ⟨wr.heap.size, 0, none⟩ = some (.string T) ∧ W.cell? ⟨wr.heap.size, 1, none⟩ = some (.string I) ∧ W.cell? ⟨wr.heap.size, 2, none⟩ = some (.slice f.sa sn f.sc) ∧ W.cell? ⟨wr.heap.size, 3, none⟩ = some (.int .i64 f.auth) := fun W h => by
        obtain ⟨h0, h1, h2, h3⟩ := hfour W h
        rw [hT, hI, hsn]
        exact ⟨h0, h1, h2, h3⟩
      have hnw : ∀ W : World, ∀ j u, (flatE fldE [f])[j]? = some u → (W.alloc (.cells #[.string T, .string I, .slice f.sa sn f.sc, .int .i64 f.auth] 46)).cell? ((⟨W.heap.size, 0, none⟩ : Addr).add j) = some u := fun W => cells_fld (by
        rw [hT, hI, hsn]
        refine ⟨?_, ?_, ?_, ?_⟩ <;> (rw [new1_cell]; rfl))
      rw [← hT] at p0
      rw [← hI] at p1
      rw [← hsn] at p2
      rw [← hT, ← hI, ← hsn] at hO htk
      have HTK1 := Lib.hid htk
      have HFC := Lib.hid hfc
      have HNW := Lib.hid hnw
      rw [hO] at HMIa HBWa HTK1 HFC
      have v0 := Lib.cell_of_heap HKR.out.b1 4
      clear hcl hflds hka htk hfour hfc hnw hfa hT hI hsn hba hf hR
      cases R with
      | false =>
        have HGO1 : Hid (G = mergeGo keeps xf (yf.drop (k + 1)) (k + 1) fs ts) := Lib.hid hst
        clear hst hO
        go_wp2_with fail
        refine HTK1.out.mono ?_
        rintro e w4 ⟨rfl, b4⟩
        have HMI4 := Lib.hid (HMIa.out.below b4 (Nat.le_trans hB (by simp)))
        have HBW4 := Lib.hid (HBWa.out.bt b4)
        clear b4 v0 p0 p1 p2 p3
        go_wp2
        go_roundw
        case rel => exact ⟨k + 1, fs, ts, fa, fn, fc, ta, tn, tc, by go_num, by omega, by omega, by omega, HGO1, HMI4, HBW4⟩
        case measure => simp [intOf]; omega
      | true =>
        have HGO1 : Hid (G = mergeGo keeps xf (yf.drop (k + 1)) (k + 1) (fs ++ [f]) (ts ++ [(k : Int)])) := Lib.hid hst
        clear hst hO
        go_wp2_with fail
        refine HTK1.out.mono ?_
        rintro e w4 ⟨rfl, b4⟩
        have HMI4 := Lib.hid (HMIa.out.below b4 (Nat.le_trans hB (by simp)))
        have hB4 : B ≤ w4.heap.size := Nat.le_trans (Nat.le_trans hB (by simp)) b4.size
        obtain ⟨p4, p5, p6, p7⟩ := HFC.out w4 b4
        have HBW4 := Lib.hid (HBWa.out.bt b4)
        have t0 := Lib.cell_of_heap HMI4.out.hg 0
        have hb5 : Below w4.heap.size w4 (w4.alloc (.cells #[.string T, .string I, .slice f.sa sn f.sc, .int .i64 f.auth] 46)) := (Below.refl _ _).alloc (Nat.le_refl _) _
        have HMI5 := Lib.hid (HMI4.out.below hb5 hB4)
        have HBW5 := Lib.hid (HBW4.out.bt hb5)
        have hB5 : B ≤ (w4.alloc (.cells #[.string T, .string I, .slice f.sa sn f.sc, .int .i64 f.auth] 46)).heap.size := Nat.le_trans hB4 (by simp)
        have HW0 := Lib.hid HBB.out.2
        clear b4 hb5 v0 p0 p1 p2 p3
        go_wp2_with (at_builtin; refine append_fldsE rfl _ _ rfl B (.slice fa fn fc) fs rfl HMI5.out.of ⟨w4.heap.size, 0, none⟩ 1 1 [f] rfl rfl (.inl (by decide)) (HNW.out w4) (by omega) hB5 ?_)
        intro v6 w6 hown hgr hb6
        obtain ⟨a6, n6, c6, rfl⟩ : ∃ a n c, v6 = .slice a n c := by
          obtain ⟨a, c, h, -⟩ := (OwnE.rows fldE_len hown).shape
          exact ⟨a, _, c, h⟩
        obtain ⟨hk6, hmi6⟩ := HMI5.out.fstep hown hgr hb6 HFA.out HG3.out
        have hs6 : B ≤ w6.heap.size := Nat.le_trans HMI5.out.bel.size (by have := hb6.size; omega) |> fun _ => Nat.le_trans hB5 hb6.size
        have HBW6 : Hid (Below w.heap.size w (w6.setCell ⟨w3.heap.size, 0, none⟩ (.slice a6 n6 c6))) := Lib.hid ((HBW5.out.trans (hb6.mono (by have := HW0.out; omega))).setCell (p := ⟨w3.heap.size, 0, none⟩) (by have h1 := HW0.out; have h2 := HG3.out; show w.heap.size ≤ w3.heap.size; omega) _)
        have HMI6 := Lib.hid hmi6
        have t1 := Lib.cell_of_heap hk6 0
        have t2 := Lib.frozen_of_heap hk6 0
        have t3 := Lib.cell_of_heap hmi6.hp 6
        have hs7 : B ≤ (w6.setCell ⟨w3.heap.size, 0, none⟩ (.slice a6 n6 c6)).heap.size := by rw [set_size]; exact hs6
        have hb7 : Below (w6.setCell ⟨w3.heap.size, 0, none⟩ (.slice a6 n6 c6)).heap.size (w6.setCell ⟨w3.heap.size, 0, none⟩ (.slice a6 n6 c6)) ((w6.setCell ⟨w3.heap.size, 0, none⟩ (.slice a6 n6 c6)).alloc (.cells #[.int .i64 k] 3)) := (Below.refl _ _).alloc (Nat.le_refl _) _
        have HMI7 := Lib.hid (hmi6.below hb7 hs7)
        have HBW7 := Lib.hid (HBW6.out.bt hb7)
        have hs8 : B ≤ ((w6.setCell ⟨w3.heap.size, 0, none⟩ (.slice a6 n6 c6)).alloc (.cells #[.int .i64 k] 3)).heap.size := Nat.le_trans hs7 (by simp)
        have HN8 : Hid (∀ j u, (flatE intE [(k : Int)])[j]? = some u → ((w6.setCell ⟨w3.heap.size, 0, none⟩ (.slice a6 n6 c6)).alloc (.cells #[.int .i64 k] 3)).cell? ((⟨w6.heap.size, 0, none⟩ : Addr).add j) = some u) := Lib.hid (by
          have := new1_cell (w6.setCell ⟨w3.heap.size, 0, none⟩ (.slice a6 n6 c6)) #[.int .i64 k] 3 0
          rw [set_size] at this
          exact cells_int this)
        clear hk6 hmi6 hown hgr hb6 hb7 t0 p4 p5 p6 p7
        go_wp2_with (at_builtin; refine append_intsE rfl _ _ rfl B (.slice ta tn tc) ts rfl HMI7.out.oi ⟨w6.heap.size, 0, none⟩ 1 1 [(k : Int)] rfl rfl (by decide) HN8.out (by omega) hs8 ?_)
        intro v8 w8 hown hgr hb8
        obtain ⟨a8, n8, c8, rfl⟩ : ∃ a n c, v8 = .slice a n c := by
          obtain ⟨a, c, h, -⟩ := (OwnE.rows intE_len hown).shape
          exact ⟨a, _, c, h⟩
        obtain ⟨hk8, hmi8⟩ := HMI7.out.istep hown hgr hb8 HG3.out
        have HMI8 := Lib.hid hmi8
        have HBW8 : Hid (Below w.heap.size w (w8.setCell ⟨w3.heap.size + 1, 6, none⟩ (.slice a8 n8 c8))) := Lib.hid ((HBW7.out.trans (hb8.mono (by have := HW0.out; omega))).setCell (p := ⟨w3.heap.size + 1, 6, none⟩) (by have h1 := HW0.out; have h2 := HG3.out; show w.heap.size ≤ w3.heap.size + 1; omega) _)
        have t4 := Lib.cell_of_heap hk8 6
        have t5 := Lib.frozen_of_heap hk8 6
        clear hk8 hmi8 hown hgr hb8 t1 t2 t3
        go_wp2
        go_roundw
        case rel => exact ⟨k + 1, fs ++ [f], ts ++ [(k : Int)], a6, n6, c6, a8, n8, c8, by go_num, by omega, by rw [List.length_append]; simp only [List.length_cons, List.length_nil]; omega, by rw [List.length_append]; simp only [List.length_cons, List.length_nil]; omega, HGO1, HMI8, HBW8⟩
        case measure => simp [intOf]; omega
    · have hltz : ¬ (k : Int) < (yn : Int) := by omega
      have HGE : Hid (G = (fs, ts)) := Lib.hid (by rw [HGO.out, List.drop_eq_nil_of_le (by have := HYN.out; omega)]; rfl)
      have HFN : Hid (fn = fs.length) := Lib.hid (by
        obtain ⟨a', c', h, -⟩ := (OwnE.rows fldE_len HMI.out.of).shape
        cases h; rfl)
      have hB : B ≤ wr.heap.size := Nat.le_trans HG3.out (Nat.le_of_lt (Array.getElem?_eq_some_iff.1 HMI.out.hg).1)
      have HW0 := Lib.hid HBB.out.2
      have t0 := Lib.cell_of_heap HMI.out.hg 0
      by_cases h64 : 64 < fn
      · have h64z : (64 : Int) < (fn : Int) := by omega
        have HP : Hid (P = (rec0, part0, 13)) := Lib.hid (by rw [HP0.out, HGE.out, if_pos (by have := HFN.out; show 64 < fs.length; omega)])
        have HK := HKR
        clear h64 HP0 HGO
        have c0 := Lib.cell_of_heap HK.out.b3 0
        have f0 := Lib.frozen_of_heap HK.out.b3 0
        have c1 := Lib.cell_of_heap HK.out.b3 1
        have f1 := Lib.frozen_of_heap HK.out.b3 1
        have c2 := Lib.cell_of_heap HK.out.b3 2
        have f2 := Lib.frozen_of_heap HK.out.b3 2
        have c3 := Lib.cell_of_heap HK.out.b3 3
        have f3 := Lib.frozen_of_heap HK.out.b3 3
        have c4 := Lib.cell_of_heap HK.out.b3 4
        have f4 := Lib.frozen_of_heap HK.out.b3 4
        have d0 := Lib.cell_of_heap HK.out.b4 0
        have g0 := Lib.frozen_of_heap HK.out.b4 0
        have d1 := Lib.cell_of_heap HK.out.b4 1
        have g1 := Lib.frozen_of_heap HK.out.b4 1
        have d2 := Lib.cell_of_heap HK.out.b4 2
        have g2 := Lib.frozen_of_heap HK.out.b4 2
        have d3 := Lib.cell_of_heap HK.out.b4 3
        have g3 := Lib.frozen_of_heap HK.out.b4 3
        have d4 := Lib.cell_of_heap HK.out.b4 4
        have g4 := Lib.frozen_of_heap HK.out.b4 4
        have d5 := Lib.cell_of_heap HK.out.b4 5
        have g5 := Lib.frozen_of_heap HK.out.b4 5
        have d6 := Lib.cell_of_heap HK.out.b4 6
        have g6 := Lib.frozen_of_heap HK.out.b4 6
        go_wp2
        (try simp only [Exit.inBlock, Exit.then])
        change bodyPost _ _ _ _ _ (put7 (put5 wr (w.heap.size + 1 + 1 + 1) (.int .i64 0) (.int .i64 0) (.int .i64 0) (.string ⟨#[]⟩) (.slice none 0 0)) (w.heap.size + 1 + 1 + 1 + 1) (.int .i64 0) (.int .i64 0) (.int .i64 0) (.int .i64 0) (.string ⟨#[]⟩) (.slice none 0 0) (.slice none 0 0))
        exact merge_end rfl rfl rfl rfl HK.out.b3 rfl HK.out.b4 rfl HBW.out (by omega) (fun e w' h => by rw [HP.out]; exact h)
      · have h64z : (fn : Int) ≤ 64 := by omega
        have HP : Hid (P = (⟨id, ver, kind, lang, fs⟩, ⟨id, ⟨⟨id2, ver2, kind2, lang2, yf⟩, ya, yc⟩, ts⟩, 0)) := Lib.hid (by rw [HP0.out, HGE.out, if_neg (by have := HFN.out; show ¬ 64 < fs.length; omega)])
        clear h64 HP0 HGO
        have hmi := HMI.out
        have hgn : w.heap.size + 5 ≤ w3.heap.size := by have := HG3.out; have := HW0.out; omega
        have e0 : (wr.setCell ⟨w.heap.size, 4, none⟩ (.slice fa fn fc)).heap[w.heap.size]? = some (.cells #[.int .i64 id, .int .i64 ver, .int .i64 kind, .string lang, .slice fa fn fc] 31 (0, 0)) := heap_setCell_same wr w.heap.size 4 _ _ (.slice fa fn fc) HKR.out.b0
        have e3 := (set_block wr ⟨w.heap.size, 4, none⟩ (.slice fa fn fc) (w.heap.size + 1 + 1 + 1) (by show w.heap.size ≠ _; omega)).trans HKR.out.b3
        have e4 := (set_block wr ⟨w.heap.size, 4, none⟩ (.slice fa fn fc) (w.heap.size + 1 + 1 + 1 + 1) (by show w.heap.size ≠ _; omega)).trans HKR.out.b4
        have ep := (set_block wr ⟨w.heap.size, 4, none⟩ (.slice fa fn fc) (w3.heap.size + 1) (by show w.heap.size ≠ _; omega)).trans hmi.hp
        simp only [← HYN.out] at ep
        have hof : OwnF (wr.setCell ⟨w.heap.size, 4, none⟩ (.slice fa fn fc)) B (.slice fa fn fc) fs := OwnE.set hmi.of HKR.out.b0 (by decide) 4 _
        have hoi : OwnI (wr.setCell ⟨w.heap.size, 4, none⟩ (.slice fa fn fc)) B (.slice ta tn tc) ts := OwnE.set hmi.oi HKR.out.b0 (by decide) 4 _
        have hbb : Below w.heap.size w (wr.setCell ⟨w.heap.size, 4, none⟩ (.slice fa fn fc)) := HBW.out.setCell (p := ⟨w.heap.size, 4, none⟩) (Nat.le_refl _) _
        have HE0 := Lib.hid e0
        have HE3 := Lib.hid e3
        have HE4 := Lib.hid e4
        have HEP := Lib.hid ep
        have HOF := Lib.hid hof
        have HOI := Lib.hid hoi
        have HBB1 := Lib.hid hbb
        have q4 := Lib.cell_of_heap HKR.out.b0 4
        have qf := Lib.frozen_of_heap HKR.out.b0 4
        have HAT := Lib.hid hmi.hat
        clear hmi e0 e3 e4 ep hof hoi hbb HMI HKR
        go_wp2_with fail
        refine tailM (fun W => OwnF W B (.slice fa fn fc) fs ∧ OwnI W B (.slice ta tn tc) ts ∧ Below w.heap.size w W) (w.heap.size + 1 + 1 + 1) (w.heap.size + 1 + 1 + 1 + 1) (w3.heap.size + 1) w.heap.size id ver kind lang fa fn fc id id2 ver2 kind2 lang2 ya yn yc ta tn tc rfl rfl rfl rfl rfl HE0.out HEP.out ⟨_, HE3.out, rfl⟩ ⟨_, HE4.out, rfl⟩ (by omega) (by omega) (by omega) (by omega) (by omega) ⟨HOF.out.below (Below.refl _ _).drew (Nat.le_refl _), HOI.out.below (Below.refl _ _).drew (Nat.le_refl _), HBB1.out.drew⟩ (fun W vs cs hc h => ⟨OwnE.putL h.1 hc (by decide) 0 vs, OwnE.putL h.2.1 hc (by decide) 0 vs, putL_below vs W _ 0 h.2.2 (by omega)⟩) (fun W vs cs hc h => ⟨OwnE.putL h.1 hc (by decide) 0 vs, OwnE.putL h.2.1 hc (by decide) 0 vs, putL_below vs W _ 0 h.2.2 (by omega)⟩) (by kernel_rfl) (by kernel_rfl) (by kernel_rfl) ?_
        intro tm W hp6 hp7 hp8 hbx hbp hinv
        go_wp2
        (try simp only [Exit.inBlock, Exit.then])
        refine bodyPost_ret (results_mrg rfl tm W _ _ id ver kind lang (.slice fa fn fc) id id2 ver2 kind2 lang2 (.slice ya yn yc) (.slice ta tn tc) hp6 hp7 hbx hbp) rfl ?_
        rw [hp8, HP.out]
        refine ⟨fa, fc, .slice ta tn tc, ?_, ?_, HYA.out W hinv.2.2, OwnE.rows intE_len hinv.2.1, hinv.2.2⟩
        · unfold recV5 partV
          simp only
          rw [← HFN.out, ← HYN.out]
        · have := OwnF.flds hinv.1 (fun f hf => (HAT.out f hf).below hinv.2.2 (Nat.le_refl _))
          unfold RcdAt
          simp only
          rw [← HFN.out]
          exact this

end Go.Proofs.YtcdlgmncalmihaaDoor
