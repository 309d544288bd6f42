/- The law RecordRestores walked (layer 08). -/
import Derived.Test.YtkfjeolpbopcnaaGreatDoorEf
import Derived.Test.YtkfjeolpbopcnaaGreatDoorEg
import Derived.Test.YtkfjeolpbopcnaaGreatDoorDrp
import Derived.Test.YtkfjeolpbopcnaaGreatDoorDr6
import Derived.Deep.Quiet
namespace Go.Proofs.YtkfjeolpbopcnaaGreatDoor
open Go Go.RowKit

set_option maxRecDepth 100000 in
set_option maxHeartbeats 8000000 in
theorem rst_bad (r : Rec) (a : Option Addr) (c : Nat) (i : Int) (f : Fld) (w : World) (hE : Env w) (hx : RcdAt w ⟨r, a, c⟩) (hq : Codes r) (_ : (Lit.int .i64 i).wf = true) (_ : FldAt w f) (_ : ∀ s ∈ f.subs, s.1 < 256) (hv : validR r = false) :
    Calls Tryz.prog 8 #[recV5 ⟨r, a, c⟩, .int .i64 i, fldV f] w fun e w' => e = .returned (.bool true) ∧ Below w.heap.size w w' := by
  have HAL : Hid (∀ W, Below w.heap.size w W → Calls Tryz.prog 11 #[] W (fun e w' => e = .returned (.bool true) ∧ Below W.heap.size W w')) := Lib.hid (fun W h => lAlive W (hE.below h))
  have HVA : Hid (∀ W, Below w.heap.size w W → Calls Tryz.prog 16 #[recV5 ⟨r, a, c⟩] W (fun e w' => e = .returned (.bool false) ∧ Below W.heap.size W w')) := Lib.hid (fun W h => by
    have := lValid ⟨r, a, c⟩ W (RcdAt.below hx h (Nat.le_refl _)) hq
    rwa [hv] at this)
  clear hx hE hq  hv
  unfold recV5 at HVA ⊢
  obtain ⟨id, ver, kind, lang, rf⟩ := r
  simp only at HVA ⊢
  obtain ⟨n, hn⟩ : ∃ n, n = rf.length := ⟨_, rfl⟩
  rw [← hn] at HVA ⊢
  clear hn
  obtain ⟨ra, hra⟩ : ∃ x, x = a := ⟨_, rfl⟩
  rw [← hra] at HVA ⊢
  clear hra
  obtain ⟨rc, hrc⟩ : ∃ x, x = c := ⟨_, rfl⟩
  rw [← hrc] at HVA ⊢
  clear hrc
  unfold fldV
  obtain ⟨T, hT⟩ : ∃ T, T = lb f.tag := ⟨_, rfl⟩
  obtain ⟨I, hI⟩ : ∃ I, I = lb f.ind := ⟨_, rfl⟩
  obtain ⟨sn, hsn⟩ : ∃ sn, sn = f.subs.length := ⟨_, rfl⟩
  rw [← hT, ← hI, ← hsn]
  clear hT hI hsn
  obtain ⟨W0, hW0⟩ : ∃ W, W = (w.alloc (recO id ver kind lang ra n rc)).alloc (fldO T I f.sa sn f.sc f.auth) := ⟨_, rfl⟩
  have hb0 : Below w.heap.size w W0 := by rw [hW0]; exact (Below.refl _ _).alloc2 (Nat.le_refl _) _ _
  have h0 : W0.heap[w.heap.size]? = some (recO id ver kind lang ra n rc) := by rw [hW0]; exact (alloc_old (by simp)).trans (alloc_at rfl)
  have h1 : W0.heap[w.heap.size + 1]? = some (fldO T I f.sa sn f.sc f.auth) := by rw [hW0]; exact alloc_at (by simp)
  have hs0 : W0.heap.size = w.heap.size + 2 := by rw [hW0]; simp
  have HBK : Hid (∀ W, Below W0.heap.size W0 W → W.heap[w.heap.size]? = some (recO id ver kind lang ra n rc) ∧ W.heap[w.heap.size + 1]? = some (fldO T I f.sa sn f.sc f.auth) ∧ Below w.heap.size w W) := Lib.hid (fun W h => ⟨(h.block _ (by omega)).trans h0, (h.block _ (by omega)).trans h1, hb0.bt h⟩)
  have HW0 := Lib.hid hW0
  have HB0 := Lib.hid hb0
  have p0 := Lib.cell_of_heap h0 0
  have p1 := Lib.cell_of_heap h0 1
  have p2 := Lib.cell_of_heap h0 2
  have p3 := Lib.cell_of_heap h0 3
  have p4 := Lib.cell_of_heap h0 4
  have f0 := Lib.cell_of_heap h1 0
  have f1 := Lib.cell_of_heap h1 1
  have f2 := Lib.cell_of_heap h1 2
  have f3 := Lib.cell_of_heap h1 3
  rw [hW0] at p0 p1 p2 p3 p4 f0 f1 f2 f3
  clear hb0 h0 h1 hs0 hW0
  go_enter Tryz.func8, Tryz.ntmps8
  go_wp2_with fail
  rw [← HW0.out]
  refine (HVA.out W0 HB0.out).mono ?_
  rintro e w1 ⟨rfl, b1⟩
  have HB1 := Lib.hid b1
  clear b1 p0 p1 p2 p3 p4 f0 f1 f2 f3
  have DC := Lib.hid (HAL.out w1 (HBK.out w1 HB1.out).2.2)
  go_wp2_with fail
  refine DC.out.mono ?_
  rintro e wz ⟨rfl, bz⟩
  have HBZ := Lib.hid ((HBK.out w1 HB1.out).2.2.bt bz)
  clear bz
  go_wp2
  go_ret
  exact ⟨rfl, HBZ.out⟩

set_option maxRecDepth 100000 in
set_option maxHeartbeats 8000000 in
theorem rst_big (r : Rec) (a : Option Addr) (c : Nat) (i : Int) (f : Fld) (w : World) (hE : Env w) (hx : RcdAt w ⟨r, a, c⟩) (hq : Codes r) (_ : (Lit.int .i64 i).wf = true) (hf : FldAt w f) (_ : ∀ s ∈ f.subs, s.1 < 256) (hv : validR r = true) (hs : smallF f = false) :
    Calls Tryz.prog 8 #[recV5 ⟨r, a, c⟩, .int .i64 i, fldV f] w fun e w' => e = .returned (.bool true) ∧ Below w.heap.size w w' := by
  have HAL : Hid (∀ W, Below w.heap.size w W → Calls Tryz.prog 11 #[] W (fun e w' => e = .returned (.bool true) ∧ Below W.heap.size W w')) := Lib.hid (fun W h => lAlive W (hE.below h))
  have HVA : Hid (∀ W, Below w.heap.size w W → Calls Tryz.prog 16 #[recV5 ⟨r, a, c⟩] W (fun e w' => e = .returned (.bool true) ∧ Below W.heap.size W w')) := Lib.hid (fun W h => by
    have := lValid ⟨r, a, c⟩ W (RcdAt.below hx h (Nat.le_refl _)) hq
    rwa [hv] at this)
  have HSF : Hid (∀ W, Below w.heap.size w W → Calls Tryz.prog 20 #[fldV f] W (fun e w' => e = .returned (.bool false) ∧ Below W.heap.size W w')) := Lib.hid (fun W h => by
    have := rSmallF (lb f.tag) (lb f.ind) f.subs f.auth f.sa f.subs.length f.sc W (hf.below h (Nat.le_refl _))
    have h2 : (decide (f.subs.length ≤ 20) && f.subs.all fun s => decide (s.2.size ≤ 300)) = smallF f := rfl
    rwa [h2, hs] at this)
  clear hx hE hq hf hv hs
  unfold recV5 at HVA ⊢
  obtain ⟨id, ver, kind, lang, rf⟩ := r
  simp only at HVA ⊢
  obtain ⟨n, hn⟩ : ∃ n, n = rf.length := ⟨_, rfl⟩
  rw [← hn] at HVA ⊢
  clear hn
  obtain ⟨ra, hra⟩ : ∃ x, x = a := ⟨_, rfl⟩
  rw [← hra] at HVA ⊢
  clear hra
  obtain ⟨rc, hrc⟩ : ∃ x, x = c := ⟨_, rfl⟩
  rw [← hrc] at HVA ⊢
  clear hrc
  unfold fldV at HSF ⊢
  obtain ⟨T, hT⟩ : ∃ T, T = lb f.tag := ⟨_, rfl⟩
  obtain ⟨I, hI⟩ : ∃ I, I = lb f.ind := ⟨_, rfl⟩
  obtain ⟨sn, hsn⟩ : ∃ sn, sn = f.subs.length := ⟨_, rfl⟩
  rw [← hT, ← hI, ← hsn] at HSF ⊢
  clear hT hI hsn
  obtain ⟨W0, hW0⟩ : ∃ W, W = (w.alloc (recO id ver kind lang ra n rc)).alloc (fldO T I f.sa sn f.sc f.auth) := ⟨_, rfl⟩
  have hb0 : Below w.heap.size w W0 := by rw [hW0]; exact (Below.refl _ _).alloc2 (Nat.le_refl _) _ _
  have h0 : W0.heap[w.heap.size]? = some (recO id ver kind lang ra n rc) := by rw [hW0]; exact (alloc_old (by simp)).trans (alloc_at rfl)
  have h1 : W0.heap[w.heap.size + 1]? = some (fldO T I f.sa sn f.sc f.auth) := by rw [hW0]; exact alloc_at (by simp)
  have hs0 : W0.heap.size = w.heap.size + 2 := by rw [hW0]; simp
  have HBK : Hid (∀ W, Below W0.heap.size W0 W → W.heap[w.heap.size]? = some (recO id ver kind lang ra n rc) ∧ W.heap[w.heap.size + 1]? = some (fldO T I f.sa sn f.sc f.auth) ∧ Below w.heap.size w W) := Lib.hid (fun W h => ⟨(h.block _ (by omega)).trans h0, (h.block _ (by omega)).trans h1, hb0.bt h⟩)
  have HW0 := Lib.hid hW0
  have HB0 := Lib.hid hb0
  have p0 := Lib.cell_of_heap h0 0
  have p1 := Lib.cell_of_heap h0 1
  have p2 := Lib.cell_of_heap h0 2
  have p3 := Lib.cell_of_heap h0 3
  have p4 := Lib.cell_of_heap h0 4
  have f0 := Lib.cell_of_heap h1 0
  have f1 := Lib.cell_of_heap h1 1
  have f2 := Lib.cell_of_heap h1 2
  have f3 := Lib.cell_of_heap h1 3
  rw [hW0] at p0 p1 p2 p3 p4 f0 f1 f2 f3
  clear hb0 h0 h1 hs0 hW0
  go_enter Tryz.func8, Tryz.ntmps8
  go_wp2_with fail
  rw [← HW0.out]
  refine (HVA.out W0 HB0.out).mono ?_
  rintro e w1 ⟨rfl, b1⟩
  have HB1 := Lib.hid b1
  clear b1 p0 p1 p2 p3 p4 f0 f1 f2 f3
  obtain ⟨h0, h1, hbb⟩ := HBK.out w1 HB1.out
  have p0 := Lib.cell_of_heap h0 0
  have p1 := Lib.cell_of_heap h0 1
  have p2 := Lib.cell_of_heap h0 2
  have p3 := Lib.cell_of_heap h0 3
  have p4 := Lib.cell_of_heap h0 4
  have f0 := Lib.cell_of_heap h1 0
  have f1 := Lib.cell_of_heap h1 1
  have f2 := Lib.cell_of_heap h1 2
  have f3 := Lib.cell_of_heap h1 3
  clear h0 h1
  have HCS := Lib.hid (HSF.out w1 hbb)
  clear hbb
  go_wp2_with fail
  refine HCS.out.mono ?_
  rintro e w2 ⟨rfl, b2⟩
  have HB2 := Lib.hid (HB1.out.bt b2)
  clear b2 HCS p0 p1 p2 p3 p4 f0 f1 f2 f3
  have DC := Lib.hid (HAL.out w2 (HBK.out w2 HB2.out).2.2)
  go_wp2_with fail
  refine DC.out.mono ?_
  rintro e wz ⟨rfl, bz⟩
  have HBZ := Lib.hid ((HBK.out w2 HB2.out).2.2.bt bz)
  clear bz
  go_wp2
  go_ret
  exact ⟨rfl, HBZ.out⟩

set_option maxRecDepth 100000 in
set_option maxHeartbeats 8000000 in
theorem rst_oo (r : Rec) (a : Option Addr) (c : Nat) (i : Int) (f : Fld) (w : World) (hE : Env w) (hx : RcdAt w ⟨r, a, c⟩) (hq : Codes r) (_ : (Lit.int .i64 i).wf = true) (hf : FldAt w f) (hqf : ∀ s ∈ f.subs, s.1 < 256) (hv : validR r = true) (hs : smallF f = true) (he : (insR r i f).2 ≠ 0) (hr : ¬ (0 ≤ i ∧ i < r.fields.length)) :
    Calls Tryz.prog 8 #[recV5 ⟨r, a, c⟩, .int .i64 i, fldV f] w fun e w' => e = .returned (.bool true) ∧ Below w.heap.size w w' := by
  have HAL : Hid (∀ W, Below w.heap.size w W → Calls Tryz.prog 11 #[] W (fun e w' => e = .returned (.bool true) ∧ Below W.heap.size W w')) := Lib.hid (fun W h => lAlive W (hE.below h))
  have HVA : Hid (∀ W, Below w.heap.size w W → Calls Tryz.prog 16 #[recV5 ⟨r, a, c⟩] W (fun e w' => e = .returned (.bool true) ∧ Below W.heap.size W w')) := Lib.hid (fun W h => by
    have := lValid ⟨r, a, c⟩ W (RcdAt.below hx h (Nat.le_refl _)) hq
    rwa [hv] at this)
  have HSF : Hid (∀ W, Below w.heap.size w W → Calls Tryz.prog 20 #[fldV f] W (fun e w' => e = .returned (.bool true) ∧ Below W.heap.size W w')) := Lib.hid (fun W h => by
    have := rSmallF (lb f.tag) (lb f.ind) f.subs f.auth f.sa f.subs.length f.sc W (hf.below h (Nat.le_refl _))
    have h2 : (decide (f.subs.length ≤ 20) && f.subs.all fun s => decide (s.2.size ≤ 300)) = smallF f := rfl
    rwa [h2, hs] at this)
  have hg := good_of hv hq
  have hfs : f.small := by
    unfold smallF at hs
    simp only [Bool.and_eq_true, decide_eq_true_eq, List.all_eq_true] at hs
    exact ⟨by omega, fun s h => by have := hs.2 s h; omega, hqf⟩
  have hl9 : (⟨r, a, c⟩ : Rcd).r.fields.length ≤ 900 := by have := hg.len; show r.fields.length ≤ 900; omega
  have hsu : ∀ g ∈ r.fields, g.subs.length ≤ 1000000 := fun g h => (hg.small.2 g h).subs
  obtain ⟨⟨R1, E1⟩, hP1⟩ : ∃ P, P = insR r i f := ⟨_, rfl⟩
  have HPI : Hid (∀ W, Below w.heap.size w W → Calls Tryz.prog 21 #[recV5 ⟨r, a, c⟩, .int .i64 i, fldV f] W (RetR W (R1, E1))) := Lib.hid (fun W h => by
    rw [hP1]
    exact pInsert ⟨r, a, c⟩ _ f W (hE.below h) (RcdAt.below hx h (Nat.le_refl _)) (hf.below h (Nat.le_refl _)) hfs hl9)
  rw [← hP1] at he
  replace he : ¬ E1 = 0 := he
  clear hx hE hq hf hqf hv hs hg hfs hl9 hsu hP1
  unfold recV5 at HVA HPI ⊢
  obtain ⟨id, ver, kind, lang, rf⟩ := r
  simp only at HVA HPI hr ⊢
  obtain ⟨n, hn⟩ : ∃ n, n = rf.length := ⟨_, rfl⟩
  rw [← hn] at HVA HPI hr ⊢
  obtain ⟨i1, v1, k1, l1, rf1⟩ := R1
  obtain ⟨m1, hm1⟩ : ∃ m, m = rf1.length := ⟨_, rfl⟩
  have HM1 := Lib.hid hm1
  clear hm1
  clear hn
  obtain ⟨ra, hra⟩ : ∃ x, x = a := ⟨_, rfl⟩
  rw [← hra] at HVA HPI ⊢
  clear hra
  obtain ⟨rc, hrc⟩ : ∃ x, x = c := ⟨_, rfl⟩
  rw [← hrc] at HVA HPI ⊢
  clear hrc
  unfold fldV at HSF HPI ⊢
  obtain ⟨T, hT⟩ : ∃ T, T = lb f.tag := ⟨_, rfl⟩
  obtain ⟨I, hI⟩ : ∃ I, I = lb f.ind := ⟨_, rfl⟩
  obtain ⟨sn, hsn⟩ : ∃ sn, sn = f.subs.length := ⟨_, rfl⟩
  rw [← hT, ← hI, ← hsn] at HSF HPI ⊢
  clear hT hI hsn
  obtain ⟨W0, hW0⟩ : ∃ W, W = (w.alloc (recO id ver kind lang ra n rc)).alloc (fldO T I f.sa sn f.sc f.auth) := ⟨_, rfl⟩
  have hb0 : Below w.heap.size w W0 := by rw [hW0]; exact (Below.refl _ _).alloc2 (Nat.le_refl _) _ _
  have h0 : W0.heap[w.heap.size]? = some (recO id ver kind lang ra n rc) := by rw [hW0]; exact (alloc_old (by simp)).trans (alloc_at rfl)
  have h1 : W0.heap[w.heap.size + 1]? = some (fldO T I f.sa sn f.sc f.auth) := by rw [hW0]; exact alloc_at (by simp)
  have hs0 : W0.heap.size = w.heap.size + 2 := by rw [hW0]; simp
  have HBK : Hid (∀ W, Below W0.heap.size W0 W → W.heap[w.heap.size]? = some (recO id ver kind lang ra n rc) ∧ W.heap[w.heap.size + 1]? = some (fldO T I f.sa sn f.sc f.auth) ∧ Below w.heap.size w W) := Lib.hid (fun W h => ⟨(h.block _ (by omega)).trans h0, (h.block _ (by omega)).trans h1, hb0.bt h⟩)
  have HW0 := Lib.hid hW0
  have HB0 := Lib.hid hb0
  have p0 := Lib.cell_of_heap h0 0
  have p1 := Lib.cell_of_heap h0 1
  have p2 := Lib.cell_of_heap h0 2
  have p3 := Lib.cell_of_heap h0 3
  have p4 := Lib.cell_of_heap h0 4
  have f0 := Lib.cell_of_heap h1 0
  have f1 := Lib.cell_of_heap h1 1
  have f2 := Lib.cell_of_heap h1 2
  have f3 := Lib.cell_of_heap h1 3
  rw [hW0] at p0 p1 p2 p3 p4 f0 f1 f2 f3
  clear hb0 h0 h1 hs0 hW0
  go_enter Tryz.func8, Tryz.ntmps8
  go_wp2_with fail
  rw [← HW0.out]
  refine (HVA.out W0 HB0.out).mono ?_
  rintro e w1 ⟨rfl, b1⟩
  have HB1 := Lib.hid b1
  clear b1 p0 p1 p2 p3 p4 f0 f1 f2 f3
  obtain ⟨h0, h1, hbb⟩ := HBK.out w1 HB1.out
  have p0 := Lib.cell_of_heap h0 0
  have p1 := Lib.cell_of_heap h0 1
  have p2 := Lib.cell_of_heap h0 2
  have p3 := Lib.cell_of_heap h0 3
  have p4 := Lib.cell_of_heap h0 4
  have f0 := Lib.cell_of_heap h1 0
  have f1 := Lib.cell_of_heap h1 1
  have f2 := Lib.cell_of_heap h1 2
  have f3 := Lib.cell_of_heap h1 3
  clear h0 h1
  have HCS := Lib.hid (HSF.out w1 hbb)
  clear hbb
  go_wp2_with fail
  refine HCS.out.mono ?_
  rintro e w2 ⟨rfl, b2⟩
  have HB2 := Lib.hid (HB1.out.bt b2)
  clear b2 HCS p0 p1 p2 p3 p4 f0 f1 f2 f3
  obtain ⟨h0, h1, hbb⟩ := HBK.out w2 HB2.out
  have p0 := Lib.cell_of_heap h0 0
  have p1 := Lib.cell_of_heap h0 1
  have p2 := Lib.cell_of_heap h0 2
  have p3 := Lib.cell_of_heap h0 3
  have p4 := Lib.cell_of_heap h0 4
  have f0 := Lib.cell_of_heap h1 0
  have f1 := Lib.cell_of_heap h1 1
  have f2 := Lib.cell_of_heap h1 2
  have f3 := Lib.cell_of_heap h1 3
  clear h0 h1
  have DC := Lib.hid (HPI.out w2 hbb)
  clear hbb
  go_wp2_with fail
  refine DC.out.mono ?_
  rintro e u1 ⟨x1, y1, rfl, hr1, bb⟩
  unfold recV5
  simp only at hr1 ⊢
  rw [← HM1.out]
  have hba : Below u1.heap.size u1 (u1.alloc (recO i1 v1 k1 l1 x1 m1 y1)) := (Below.refl _ _).alloc (Nat.le_refl _) _
  have HB3 := Lib.hid (HB2.out.bt (bb.bt hba))
  clear hr1 bb hba DC p0 p1 p2 p3 p4 f0 f1 f2 f3
  go_upto_region 4 with fail
  obtain ⟨v1w, hv1w⟩ : ∃ W, W = u1.alloc (recO i1 v1 k1 l1 x1 m1 y1) := ⟨_, rfl⟩
  rw [← hv1w] at HB3 ⊢
  obtain ⟨n1, hn1⟩ : ∃ n, n = u1.heap.size := ⟨_, rfl⟩
  rw [← hn1]
  clear hv1w hn1
  obtain ⟨h0, h1, hbb⟩ := HBK.out v1w HB3.out
  have p0 := Lib.cell_of_heap h0 0
  have p1 := Lib.cell_of_heap h0 1
  have p2 := Lib.cell_of_heap h0 2
  have p3 := Lib.cell_of_heap h0 3
  have p4 := Lib.cell_of_heap h0 4
  have f0 := Lib.cell_of_heap h1 0
  have f1 := Lib.cell_of_heap h1 1
  have f2 := Lib.cell_of_heap h1 2
  have f3 := Lib.cell_of_heap h1 3
  clear h0 h1
  clear hbb
  by_cases hi0 : 0 ≤ i
  · have hin : ¬ i < (n : Int) := fun h => hr ⟨hi0, h⟩
    clear hr
    have DC := Lib.hid (HAL.out v1w (HBK.out v1w HB3.out).2.2)
    go_wp2_with fail
    refine DC.out.mono ?_
    rintro e wz ⟨rfl, bz⟩
    have HBZ := Lib.hid ((HBK.out v1w HB3.out).2.2.bt bz)
    clear bz
    go_wp2
    go_ret
    exact ⟨rfl, HBZ.out⟩
  · clear hr
    have DC := Lib.hid (HAL.out v1w (HBK.out v1w HB3.out).2.2)
    go_wp2_with fail
    refine DC.out.mono ?_
    rintro e wz ⟨rfl, bz⟩
    have HBZ := Lib.hid ((HBK.out v1w HB3.out).2.2.bt bz)
    clear bz
    go_wp2
    go_ret
    exact ⟨rfl, HBZ.out⟩

set_option maxRecDepth 100000 in
set_option maxHeartbeats 8000000 in
theorem rst_oi (r : Rec) (a : Option Addr) (c : Nat) (i : Int) (f : Fld) (w : World) (hE : Env w) (hx : RcdAt w ⟨r, a, c⟩) (hq : Codes r) (hi : (Lit.int .i64 i).wf = true) (hf : FldAt w f) (hqf : ∀ s ∈ f.subs, s.1 < 256) (hv : validR r = true) (hs : smallF f = true) (he : (insR r i f).2 ≠ 0) (hr : 0 ≤ i ∧ i < r.fields.length) :
    Calls Tryz.prog 8 #[recV5 ⟨r, a, c⟩, .int .i64 i, fldV f] w fun e w' => e = .returned (.bool true) ∧ Below w.heap.size w w' := by
  have HAL : Hid (∀ W, Below w.heap.size w W → Calls Tryz.prog 11 #[] W (fun e w' => e = .returned (.bool true) ∧ Below W.heap.size W w')) := Lib.hid (fun W h => lAlive W (hE.below h))
  have HVA : Hid (∀ W, Below w.heap.size w W → Calls Tryz.prog 16 #[recV5 ⟨r, a, c⟩] W (fun e w' => e = .returned (.bool true) ∧ Below W.heap.size W w')) := Lib.hid (fun W h => by
    have := lValid ⟨r, a, c⟩ W (RcdAt.below hx h (Nat.le_refl _)) hq
    rwa [hv] at this)
  have HSF : Hid (∀ W, Below w.heap.size w W → Calls Tryz.prog 20 #[fldV f] W (fun e w' => e = .returned (.bool true) ∧ Below W.heap.size W w')) := Lib.hid (fun W h => by
    have := rSmallF (lb f.tag) (lb f.ind) f.subs f.auth f.sa f.subs.length f.sc W (hf.below h (Nat.le_refl _))
    have h2 : (decide (f.subs.length ≤ 20) && f.subs.all fun s => decide (s.2.size ≤ 300)) = smallF f := rfl
    rwa [h2, hs] at this)
  have hg := good_of hv hq
  have hfs : f.small := by
    unfold smallF at hs
    simp only [Bool.and_eq_true, decide_eq_true_eq, List.all_eq_true] at hs
    exact ⟨by omega, fun s h => by have := hs.2 s h; omega, hqf⟩
  have hl9 : (⟨r, a, c⟩ : Rcd).r.fields.length ≤ 900 := by have := hg.len; show r.fields.length ≤ 900; omega
  have hsu : ∀ g ∈ r.fields, g.subs.length ≤ 1000000 := fun g h => (hg.small.2 g h).subs
  obtain ⟨hi0, hi1⟩ := hr
  obtain ⟨k, rfl⟩ : ∃ k : Nat, i = k := ⟨i.toNat, by omega⟩
  obtain ⟨⟨R1, E1⟩, hP1⟩ : ∃ P, P = insR r (k : Int) f := ⟨_, rfl⟩
  have HPI : Hid (∀ W, Below w.heap.size w W → Calls Tryz.prog 21 #[recV5 ⟨r, a, c⟩, .int .i64 (k : Int), fldV f] W (RetR W (R1, E1))) := Lib.hid (fun W h => by
    rw [hP1]
    exact pInsert ⟨r, a, c⟩ _ f W (hE.below h) (RcdAt.below hx h (Nat.le_refl _)) (hf.below h (Nat.le_refl _)) hfs hl9)
  rw [← hP1] at he
  replace he : ¬ E1 = 0 := he
  have HSM : Hid (∀ W x y, Below w.heap.size w W → RcdAt W ⟨r, x, y⟩ → Calls Tryz.prog 14 #[recV5 ⟨r, a, c⟩, recV5 ⟨r, x, y⟩] W (fun e w' => e = .returned (.bool true) ∧ Below W.heap.size W w')) := Lib.hid (fun W x y h hr => by
    have h1 := pSameRec r r a x r.fields.length c r.fields.length y W (RcdAt.below hx h (Nat.le_refl _)) hr hg.small.1 hsu
    rwa [sameRB_refl] at h1)
  have hkl : k < r.fields.length := by omega
  obtain ⟨fk, hfk⟩ : ∃ g, r.fields[k]? = some g := ⟨_, List.getElem?_eq_getElem hkl⟩
  have hfm := List.mem_of_getElem? hfk
  obtain ⟨L2, hL2⟩ : ∃ L, L = r.fields.eraseIdx k := ⟨_, rfl⟩
  have hlen2 : L2.length ≤ r.fields.length := by rw [hL2]; exact List.length_eraseIdx_le _ _
  have HPD2 : Hid (∀ W, Below w.heap.size w W → Calls Tryz.prog 23 #[recV5 ⟨r, a, c⟩, .int .i64 (k : Int)] W (RetR W (withL r L2, 0))) := Lib.hid (fun W h => by
    rw [hL2, ← rem_ok hkl]
    exact pRemove ⟨r, a, c⟩ (k : Int) W (RcdAt.below hx h (Nat.le_refl _)) hl9 hi)
  have HPI2 : Hid (∀ W x y, Below w.heap.size w W → RcdAt W ⟨withL r L2, x, y⟩ → Calls Tryz.prog 21 #[recV5 ⟨withL r L2, x, y⟩, .int .i64 (k : Int), fldV fk] W (RetR W (r, 0))) := Lib.hid (fun W x y h hr => by
    have h1 := pInsert ⟨withL r L2, x, y⟩ (k : Int) fk W (hE.below h) hr ((hx.2 fk hfm).below h (Nat.le_refl _)) (hg.small.2 fk hfm) (by show L2.length ≤ 900; have : r.fields.length ≤ 900 := hl9; omega)
    have h2 : insR (withL r L2) (k : Int) fk = (r, 0) := by rw [hL2]; exact ins_rem hg hfk
    rwa [h2] at h1)
  have HRB : Hid (∀ W x y, Below w.heap.size w W → RcdAt W ⟨withL r L2, x, y⟩ → Calls Tryz.prog 12 #[recV5 ⟨withL r L2, x, y⟩] W (fun e w' => e = .returned (.int .i64 0) ∧ Below W.heap.size W w')) := Lib.hid (fun W x y h hr => by
    have hgd := rem_good (k := k) hg
    rw [← hL2] at hgd
    have h1 := pRecRight (withL r L2) x L2.length y W (hE.below h) hr hgd.2
    rwa [hgd.1] at h1)
  have HFL : Hid (∀ W, Below w.heap.size w W → ∀ g ∈ r.fields, FldAt W g) := Lib.hid (fun W h g hm => (hx.2 g hm).below h (Nat.le_refl _))
  obtain ⟨pb, po, ha, hcf⟩ : ∃ pb po, a = some ⟨pb, po, none⟩ ∧ ∀ W, Below w.heap.size w W → Four W pb (po + k * 4) fk := by
    obtain ⟨⟨a', c', he', -, hcells⟩, -⟩ := hx
    cases he'
    rcases hcells with h0 | ⟨b, o, h1, hbl, hcl⟩
    · rw [h0] at hfk; cases hfk
    · exact ⟨b, o, h1, fun W h => (four_of (hcl k fk hfk)).below h hbl⟩
  have HCF := Lib.hid hcf
  subst ha
  have hklz : (k : Int) < (r.fields.length : Int) := by omega
  clear hx hE hq hi hf hqf hv hs hg hfs hl9 hsu hi0 hi1 hP1 hfk hfm hL2 hkl hcf
  unfold recV5 at HVA HPI HSM HPD2 HPI2 HRB ⊢
  unfold withL at HPD2 HPI2 HRB
  obtain ⟨id, ver, kind, lang, rf⟩ := r
  simp only at HVA HPI HSM HPD2 HPI2 HRB hlen2 hklz ⊢
  obtain ⟨n, hn⟩ : ∃ n, n = rf.length := ⟨_, rfl⟩
  rw [← hn] at HVA HPI HSM HPD2 hlen2 hklz ⊢
  obtain ⟨i1, v1, k1, l1, rf1⟩ := R1
  obtain ⟨m1, hm1⟩ : ∃ m, m = rf1.length := ⟨_, rfl⟩
  have HM1 := Lib.hid hm1
  clear hm1
  obtain ⟨m2, hm2⟩ : ∃ m, m = L2.length := ⟨_, rfl⟩
  rw [← hm2] at HPI2 HRB
  have HM2 := Lib.hid hm2
  clear hm2 hlen2
  have HN := Lib.hid hn
  clear hn
  obtain ⟨ra, hra⟩ : ∃ x, x = some (⟨pb, po, none⟩ : Addr) := ⟨_, rfl⟩
  rw [← hra] at HVA HPI HPD2 HSM ⊢
  have HRAE := Lib.hid hra
  clear hra
  obtain ⟨rc, hrc⟩ : ∃ x, x = c := ⟨_, rfl⟩
  rw [← hrc] at HVA HPI HSM HPD2 ⊢
  clear hrc
  unfold fldV at HSF HPI ⊢
  obtain ⟨T, hT⟩ : ∃ T, T = lb f.tag := ⟨_, rfl⟩
  obtain ⟨I, hI⟩ : ∃ I, I = lb f.ind := ⟨_, rfl⟩
  obtain ⟨sn, hsn⟩ : ∃ sn, sn = f.subs.length := ⟨_, rfl⟩
  rw [← hT, ← hI, ← hsn] at HSF HPI ⊢
  clear hT hI hsn
  obtain ⟨W0, hW0⟩ : ∃ W, W = (w.alloc (recO id ver kind lang ra n rc)).alloc (fldO T I f.sa sn f.sc f.auth) := ⟨_, rfl⟩
  have hb0 : Below w.heap.size w W0 := by rw [hW0]; exact (Below.refl _ _).alloc2 (Nat.le_refl _) _ _
  have h0 : W0.heap[w.heap.size]? = some (recO id ver kind lang ra n rc) := by rw [hW0]; exact (alloc_old (by simp)).trans (alloc_at rfl)
  have h1 : W0.heap[w.heap.size + 1]? = some (fldO T I f.sa sn f.sc f.auth) := by rw [hW0]; exact alloc_at (by simp)
  have hs0 : W0.heap.size = w.heap.size + 2 := by rw [hW0]; simp
  have HBK : Hid (∀ W, Below W0.heap.size W0 W → W.heap[w.heap.size]? = some (recO id ver kind lang ra n rc) ∧ W.heap[w.heap.size + 1]? = some (fldO T I f.sa sn f.sc f.auth) ∧ Below w.heap.size w W) := Lib.hid (fun W h => ⟨(h.block _ (by omega)).trans h0, (h.block _ (by omega)).trans h1, hb0.bt h⟩)
  have HW0 := Lib.hid hW0
  have HB0 := Lib.hid hb0
  have p0 := Lib.cell_of_heap h0 0
  have p1 := Lib.cell_of_heap h0 1
  have p2 := Lib.cell_of_heap h0 2
  have p3 := Lib.cell_of_heap h0 3
  have p4 := Lib.cell_of_heap h0 4
  have f0 := Lib.cell_of_heap h1 0
  have f1 := Lib.cell_of_heap h1 1
  have f2 := Lib.cell_of_heap h1 2
  have f3 := Lib.cell_of_heap h1 3
  rw [hW0] at p0 p1 p2 p3 p4 f0 f1 f2 f3
  clear hb0 h0 h1 hs0 hW0
  go_enter Tryz.func8, Tryz.ntmps8
  go_wp2_with fail
  rw [← HW0.out]
  refine (HVA.out W0 HB0.out).mono ?_
  rintro e w1 ⟨rfl, b1⟩
  have HB1 := Lib.hid b1
  clear b1 p0 p1 p2 p3 p4 f0 f1 f2 f3
  obtain ⟨h0, h1, hbb⟩ := HBK.out w1 HB1.out
  have p0 := Lib.cell_of_heap h0 0
  have p1 := Lib.cell_of_heap h0 1
  have p2 := Lib.cell_of_heap h0 2
  have p3 := Lib.cell_of_heap h0 3
  have p4 := Lib.cell_of_heap h0 4
  have f0 := Lib.cell_of_heap h1 0
  have f1 := Lib.cell_of_heap h1 1
  have f2 := Lib.cell_of_heap h1 2
  have f3 := Lib.cell_of_heap h1 3
  clear h0 h1
  have HCS := Lib.hid (HSF.out w1 hbb)
  clear hbb
  go_wp2_with fail
  refine HCS.out.mono ?_
  rintro e w2 ⟨rfl, b2⟩
  have HB2 := Lib.hid (HB1.out.bt b2)
  clear b2 HCS p0 p1 p2 p3 p4 f0 f1 f2 f3
  obtain ⟨h0, h1, hbb⟩ := HBK.out w2 HB2.out
  have p0 := Lib.cell_of_heap h0 0
  have p1 := Lib.cell_of_heap h0 1
  have p2 := Lib.cell_of_heap h0 2
  have p3 := Lib.cell_of_heap h0 3
  have p4 := Lib.cell_of_heap h0 4
  have f0 := Lib.cell_of_heap h1 0
  have f1 := Lib.cell_of_heap h1 1
  have f2 := Lib.cell_of_heap h1 2
  have f3 := Lib.cell_of_heap h1 3
  clear h0 h1
  have DC := Lib.hid (HPI.out w2 hbb)
  clear hbb
  go_wp2_with fail
  refine DC.out.mono ?_
  rintro e u1 ⟨x1, y1, rfl, hr1, bb⟩
  unfold recV5
  simp only at hr1 ⊢
  rw [← HM1.out]
  have hba : Below u1.heap.size u1 (u1.alloc (recO i1 v1 k1 l1 x1 m1 y1)) := (Below.refl _ _).alloc (Nat.le_refl _) _
  have HB3 := Lib.hid (HB2.out.bt (bb.bt hba))
  clear hr1 bb hba DC p0 p1 p2 p3 p4 f0 f1 f2 f3
  go_upto_region 4 with fail
  obtain ⟨v1w, hv1w⟩ : ∃ W, W = u1.alloc (recO i1 v1 k1 l1 x1 m1 y1) := ⟨_, rfl⟩
  rw [← hv1w] at HB3 ⊢
  obtain ⟨n1, hn1⟩ : ∃ n, n = u1.heap.size := ⟨_, rfl⟩
  rw [← hn1]
  clear hv1w hn1
  obtain ⟨h0, h1, hbb⟩ := HBK.out v1w HB3.out
  have p0 := Lib.cell_of_heap h0 0
  have p1 := Lib.cell_of_heap h0 1
  have p2 := Lib.cell_of_heap h0 2
  have p3 := Lib.cell_of_heap h0 3
  have p4 := Lib.cell_of_heap h0 4
  have f0 := Lib.cell_of_heap h1 0
  have f1 := Lib.cell_of_heap h1 1
  have f2 := Lib.cell_of_heap h1 2
  have f3 := Lib.cell_of_heap h1 3
  clear h0 h1
  have DC := Lib.hid (HPD2.out v1w hbb)
  have hk0 : (0 : Int) ≤ (k : Int) := by omega
  clear hbb
  go_wp2_with fail
  refine DC.out.mono ?_
  rintro e u3 ⟨x3, y3, rfl, hr3, bb⟩
  unfold recV5
  simp only at hr3 ⊢
  rw [← HM2.out]
  have hba : Below u3.heap.size u3 (u3.alloc (recO id ver kind lang x3 m2 y3)) := (Below.refl _ _).alloc (Nat.le_refl _) _
  have HB6 := Lib.hid (HB3.out.bt (bb.bt hba))
  have HR3 : Hid (∀ V, Below (u3.alloc (recO id ver kind lang x3 m2 y3)).heap.size (u3.alloc (recO id ver kind lang x3 m2 y3)) V → V.heap[u3.heap.size]? = some (recO id ver kind lang x3 m2 y3) ∧ RcdAt V ⟨⟨id, ver, kind, lang, L2⟩, x3, y3⟩) := Lib.hid (fun V h => ⟨(h.block _ (by simp)).trans (alloc_at rfl), RcdAt.below (RcdAt.below hr3 hba (Nat.le_refl _)) h (Nat.le_refl _)⟩)
  clear hr3 bb hba DC p0 p1 p2 p3 p4 f0 f1 f2 f3
  go_upto_region 10 with fail
  obtain ⟨v3w, hv3w⟩ : ∃ W, W = u3.alloc (recO id ver kind lang x3 m2 y3) := ⟨_, rfl⟩
  rw [← hv3w] at HR3 HB6 ⊢
  obtain ⟨n3, hn3⟩ : ∃ n, n = u3.heap.size := ⟨_, rfl⟩
  rw [← hn3] at HR3 ⊢
  clear hv3w hn3
  obtain ⟨h0, h1, hbb⟩ := HBK.out v3w HB6.out
  have h3 := (HR3.out v3w (Below.refl _ _)).1
  obtain ⟨c0, c1, c2, c3⟩ := HCF.out v3w hbb
  have HII := Lib.hid (fun V (h : Below v3w.heap.size v3w V) => HPI2.out V x3 y3 (hbb.bt h) (HR3.out V h).2)
  have HH : Hid (Below w.heap.size w v3w) := Lib.hid hbb
  clear h1 hbb
  rw [HRAE.out] at h0
  refine rst_region w.heap.size n3 id ver kind lang n rc x3 m2 y3 k pb po (lb fk.tag) (lb fk.ind) fk.sa fk.subs.length fk.sc fk.auth ⟨id, ver, kind, lang, rf⟩ h0 h3 hklz c0 c1 c2 c3 HII (by kernel_rfl) (by kernel_rfl) (by kernel_rfl) (by kernel_rfl) (by kernel_rfl) (by kernel_rfl) (by kernel_rfl) (by kernel_rfl) (by kernel_rfl) (by kernel_rfl) (by kernel_rfl) (by kernel_rfl) (by kernel_rfl) (by kernel_rfl) (by kernel_rfl) (by kernel_rfl) (by kernel_rfl) (by kernel_rfl) (by kernel_rfl) (by kernel_rfl) (by kernel_rfl) (by kernel_rfl) (by kernel_rfl) (by kernel_rfl) ?_
  clear h0 h3 c0 c1 c2 c3
  rintro xs W Z hb e14 ⟨g, fa, fc, e13, hrw, hgW, hgA, hZ⟩
  simp only at e14 e13 hZ
  rw [← HN.out] at hZ
  have hbz : Below v3w.heap.size v3w Z := by rw [hZ]; exact putR_below hb hgA _ _ _ _ _
  have hgz : Z.heap[g]? = some (recO id ver kind lang fa n fc) := by rw [hZ]; exact putR_heap hgW rfl _ _ _ _ _
  have hrz : RcdAt Z ⟨⟨id, ver, kind, lang, rf⟩, fa, fc⟩ := ⟨rows_away hrw.1 hgW (fun b hb => by rw [hZ]; exact putR_other _ _ _ _ _ _ hb), fun q hq => HFL.out Z (HH.out.bt hbz) q hq⟩
  have HRZ := Lib.hid hrz
  have HBZ := Lib.hid (HB6.out.bt hbz)
  have HBY := Lib.hid hbz
  have HB0Z := Lib.hid (HH.out.bt hbz)
  clear hrw hgW hZ hb hbz hrz
  have c0 := Lib.cell_of_heap hgz 0
  have c1 := Lib.cell_of_heap hgz 1
  have c2 := Lib.cell_of_heap hgz 2
  have c3 := Lib.cell_of_heap hgz 3
  have c4 := Lib.cell_of_heap hgz 4
  clear hgz
  have DC := Lib.hid (HSM.out Z fa fc HB0Z.out HRZ.out)
  obtain ⟨h0, h1, hbb⟩ := HBK.out Z HBZ.out
  have p0 := Lib.cell_of_heap h0 0
  have p1 := Lib.cell_of_heap h0 1
  have p2 := Lib.cell_of_heap h0 2
  have p3 := Lib.cell_of_heap h0 3
  have p4 := Lib.cell_of_heap h0 4
  have f0 := Lib.cell_of_heap h1 0
  have f1 := Lib.cell_of_heap h1 1
  have f2 := Lib.cell_of_heap h1 2
  have f3 := Lib.cell_of_heap h1 3
  clear h0 h1
  clear hbb f0 f1 f2 f3
  simp only [e13, e14]
  go_wp2_with fail
  refine DC.out.mono ?_
  rintro e u4 ⟨rfl, bb⟩
  have HB7 := Lib.hid (HBY.out.bt bb)
  clear bb p0 p1 p2 p3 p4 c0 c1 c2 c3 c4
  obtain ⟨h3, hr4⟩ := HR3.out u4 HB7.out
  have c0 := Lib.cell_of_heap h3 0
  have c1 := Lib.cell_of_heap h3 1
  have c2 := Lib.cell_of_heap h3 2
  have c3 := Lib.cell_of_heap h3 3
  have c4 := Lib.cell_of_heap h3 4
  have DC := Lib.hid (HRB.out u4 x3 y3 (HH.out.bt HB7.out) hr4)
  clear h3 hr4
  go_wp2_with fail
  refine DC.out.mono ?_
  rintro e u5 ⟨rfl, bb⟩
  have HB8 := Lib.hid (HB7.out.bt bb)
  clear bb c0 c1 c2 c3 c4
  have DC := Lib.hid (HAL.out u5 (HH.out.bt HB8.out))
  go_wp2_with fail
  refine DC.out.mono ?_
  rintro e u6 ⟨rfl, bb⟩
  have HB9 := Lib.hid (HB8.out.bt bb)
  clear bb
  go_wp2
  go_ret
  exact ⟨rfl, HH.out.bt HB9.out⟩

set_option maxRecDepth 100000 in
set_option maxHeartbeats 8000000 in
theorem rst_io (r : Rec) (a : Option Addr) (c : Nat) (i : Int) (f : Fld) (w : World) (hE : Env w) (hx : RcdAt w ⟨r, a, c⟩) (hq : Codes r) (hi : (Lit.int .i64 i).wf = true) (hf : FldAt w f) (hqf : ∀ s ∈ f.subs, s.1 < 256) (hv : validR r = true) (hs : smallF f = true) (he : (insR r i f).2 = 0) (hr : ¬ (0 ≤ i ∧ i < r.fields.length)) :
    Calls Tryz.prog 8 #[recV5 ⟨r, a, c⟩, .int .i64 i, fldV f] w fun e w' => e = .returned (.bool true) ∧ Below w.heap.size w w' := by
  have HAL : Hid (∀ W, Below w.heap.size w W → Calls Tryz.prog 11 #[] W (fun e w' => e = .returned (.bool true) ∧ Below W.heap.size W w')) := Lib.hid (fun W h => lAlive W (hE.below h))
  have HVA : Hid (∀ W, Below w.heap.size w W → Calls Tryz.prog 16 #[recV5 ⟨r, a, c⟩] W (fun e w' => e = .returned (.bool true) ∧ Below W.heap.size W w')) := Lib.hid (fun W h => by
    have := lValid ⟨r, a, c⟩ W (RcdAt.below hx h (Nat.le_refl _)) hq
    rwa [hv] at this)
  have HSF : Hid (∀ W, Below w.heap.size w W → Calls Tryz.prog 20 #[fldV f] W (fun e w' => e = .returned (.bool true) ∧ Below W.heap.size W w')) := Lib.hid (fun W h => by
    have := rSmallF (lb f.tag) (lb f.ind) f.subs f.auth f.sa f.subs.length f.sc W (hf.below h (Nat.le_refl _))
    have h2 : (decide (f.subs.length ≤ 20) && f.subs.all fun s => decide (s.2.size ≤ 300)) = smallF f := rfl
    rwa [h2, hs] at this)
  have hg := good_of hv hq
  have hfs : f.small := by
    unfold smallF at hs
    simp only [Bool.and_eq_true, decide_eq_true_eq, List.all_eq_true] at hs
    exact ⟨by omega, fun s h => by have := hs.2 s h; omega, hqf⟩
  have hl9 : (⟨r, a, c⟩ : Rcd).r.fields.length ≤ 900 := by have := hg.len; show r.fields.length ≤ 900; omega
  have hsu : ∀ g ∈ r.fields, g.subs.length ≤ 1000000 := fun g h => (hg.small.2 g h).subs
  obtain ⟨hi0, hi1, hfe, hn64, hins⟩ := ins_ok he
  obtain ⟨k, rfl⟩ : ∃ k : Nat, i = k := ⟨i.toNat, by omega⟩
  rw [Int.toNat_natCast] at hins
  have hkn : k ≤ r.fields.length := by omega
  have HPI : Hid (∀ W, Below w.heap.size w W → Calls Tryz.prog 21 #[recV5 ⟨r, a, c⟩, .int .i64 (k : Int), fldV f] W (RetR W (withL r (r.fields.take k ++ f :: r.fields.drop k), 0))) := Lib.hid (fun W h => by
    rw [← hins]
    exact pInsert ⟨r, a, c⟩ _ f W (hE.below h) (RcdAt.below hx h (Nat.le_refl _)) (hf.below h (Nat.le_refl _)) hfs hl9)
  obtain ⟨L1, hL1⟩ : ∃ L, L = r.fields.take k ++ f :: r.fields.drop k := ⟨_, rfl⟩
  have HKN := Lib.hid hkn
  have hlen1 : L1.length = r.fields.length + 1 := by rw [hL1]; simp only [List.length_append, List.length_cons, List.length_take, List.length_drop]; omega
  have HAT : Hid (L1[k]? = some f) := Lib.hid (by rw [hL1]; exact ins_at (r := r) hkn)
  have HPD : Hid (∀ W x y, RcdAt W ⟨withL r L1, x, y⟩ → Calls Tryz.prog 23 #[recV5 ⟨withL r L1, x, y⟩, .int .i64 (k : Int)] W (RetR W (r, 0))) := Lib.hid (fun W x y h => by
    have h1 := pRemove ⟨withL r L1, x, y⟩ (k : Int) W h (by show L1.length ≤ 900; omega) hi
    have h2 : remR (withL r L1) (k : Int) = (r, 0) := by rw [hL1]; exact rem_ins hkn
    rwa [h2] at h1)
  have HRA : Hid (∀ W x y, Below w.heap.size w W → RcdAt W ⟨withL r L1, x, y⟩ → Calls Tryz.prog 12 #[recV5 ⟨withL r L1, x, y⟩] W (fun e w' => e = .returned (.int .i64 0) ∧ Below W.heap.size W w')) := Lib.hid (fun W x y h hr => by
    have hgd := ins_good (k := k) hg hn64 hfe hfs
    rw [← hL1] at hgd
    have h1 := pRecRight (withL r L1) x L1.length y W (hE.below h) hr hgd.2
    rwa [hgd.1] at h1)
  have HSS : Hid (∀ W, Below w.heap.size w W → Calls Tryz.prog 36 #[fldV f, fldV f] W (fun e w' => e = .returned (.bool true) ∧ Below W.heap.size W w')) := Lib.hid (fun W h => by
    have h1 := rSame07 f f W (hf.below h (Nat.le_refl _)) (hf.below h (Nat.le_refl _)) hfs.subs hfs.subs
    rwa [sameF_refl] at h1)
  rw [← hL1] at HPI
  have HSM : Hid (∀ W x y, Below w.heap.size w W → RcdAt W ⟨r, x, y⟩ → Calls Tryz.prog 14 #[recV5 ⟨r, a, c⟩, recV5 ⟨r, x, y⟩] W (fun e w' => e = .returned (.bool true) ∧ Below W.heap.size W w')) := Lib.hid (fun W x y h hr => by
    have h1 := pSameRec r r a x r.fields.length c r.fields.length y W (RcdAt.below hx h (Nat.le_refl _)) hr hg.small.1 hsu
    rwa [sameRB_refl] at h1)
  have hkz : ¬ (k : Int) < (r.fields.length : Int) := by omega
  clear hx hE hq hi hf hqf hv hs he hr hg hfs hl9 hsu hi0 hi1 hfe hins hL1 hkn
  unfold recV5 at HVA HPI HPD HRA HSM ⊢
  unfold withL at HPI HPD HRA
  obtain ⟨id, ver, kind, lang, rf⟩ := r
  simp only at HVA HPI HPD HRA HSM hlen1 hkz ⊢
  obtain ⟨n, hn⟩ : ∃ n, n = rf.length := ⟨_, rfl⟩
  simp only at hn64 HKN
  rw [← hn] at HVA HPI HSM hlen1 hn64 HKN hkz ⊢
  obtain ⟨m1, hm1⟩ : ∃ m, m = L1.length := ⟨_, rfl⟩
  rw [← hm1] at HPD HRA hlen1
  have HM1 := Lib.hid hm1
  have HLE := Lib.hid (And.intro hlen1 hn64)
  clear hm1 hlen1 hn64
  have HN := Lib.hid hn
  clear hn
  obtain ⟨ra, hra⟩ : ∃ x, x = a := ⟨_, rfl⟩
  rw [← hra] at HVA HPI HSM ⊢
  clear hra
  obtain ⟨rc, hrc⟩ : ∃ x, x = c := ⟨_, rfl⟩
  rw [← hrc] at HVA HPI HSM ⊢
  clear hrc
  unfold fldV at HSF HPI HSS ⊢
  obtain ⟨T, hT⟩ : ∃ T, T = lb f.tag := ⟨_, rfl⟩
  obtain ⟨I, hI⟩ : ∃ I, I = lb f.ind := ⟨_, rfl⟩
  obtain ⟨sn, hsn⟩ : ∃ sn, sn = f.subs.length := ⟨_, rfl⟩
  rw [← hT, ← hI, ← hsn] at HSF HPI HSS ⊢
  have HTE := Lib.hid (And.intro hT (And.intro hI hsn))
  clear hT hI hsn
  obtain ⟨W0, hW0⟩ : ∃ W, W = (w.alloc (recO id ver kind lang ra n rc)).alloc (fldO T I f.sa sn f.sc f.auth) := ⟨_, rfl⟩
  have hb0 : Below w.heap.size w W0 := by rw [hW0]; exact (Below.refl _ _).alloc2 (Nat.le_refl _) _ _
  have h0 : W0.heap[w.heap.size]? = some (recO id ver kind lang ra n rc) := by rw [hW0]; exact (alloc_old (by simp)).trans (alloc_at rfl)
  have h1 : W0.heap[w.heap.size + 1]? = some (fldO T I f.sa sn f.sc f.auth) := by rw [hW0]; exact alloc_at (by simp)
  have hs0 : W0.heap.size = w.heap.size + 2 := by rw [hW0]; simp
  have HBK : Hid (∀ W, Below W0.heap.size W0 W → W.heap[w.heap.size]? = some (recO id ver kind lang ra n rc) ∧ W.heap[w.heap.size + 1]? = some (fldO T I f.sa sn f.sc f.auth) ∧ Below w.heap.size w W) := Lib.hid (fun W h => ⟨(h.block _ (by omega)).trans h0, (h.block _ (by omega)).trans h1, hb0.bt h⟩)
  have HW0 := Lib.hid hW0
  have HB0 := Lib.hid hb0
  have p0 := Lib.cell_of_heap h0 0
  have p1 := Lib.cell_of_heap h0 1
  have p2 := Lib.cell_of_heap h0 2
  have p3 := Lib.cell_of_heap h0 3
  have p4 := Lib.cell_of_heap h0 4
  have f0 := Lib.cell_of_heap h1 0
  have f1 := Lib.cell_of_heap h1 1
  have f2 := Lib.cell_of_heap h1 2
  have f3 := Lib.cell_of_heap h1 3
  rw [hW0] at p0 p1 p2 p3 p4 f0 f1 f2 f3
  clear hb0 h0 h1 hs0 hW0
  go_enter Tryz.func8, Tryz.ntmps8
  go_wp2_with fail
  rw [← HW0.out]
  refine (HVA.out W0 HB0.out).mono ?_
  rintro e w1 ⟨rfl, b1⟩
  have HB1 := Lib.hid b1
  clear b1 p0 p1 p2 p3 p4 f0 f1 f2 f3
  obtain ⟨h0, h1, hbb⟩ := HBK.out w1 HB1.out
  have p0 := Lib.cell_of_heap h0 0
  have p1 := Lib.cell_of_heap h0 1
  have p2 := Lib.cell_of_heap h0 2
  have p3 := Lib.cell_of_heap h0 3
  have p4 := Lib.cell_of_heap h0 4
  have f0 := Lib.cell_of_heap h1 0
  have f1 := Lib.cell_of_heap h1 1
  have f2 := Lib.cell_of_heap h1 2
  have f3 := Lib.cell_of_heap h1 3
  clear h0 h1
  have HCS := Lib.hid (HSF.out w1 hbb)
  clear hbb
  go_wp2_with fail
  refine HCS.out.mono ?_
  rintro e w2 ⟨rfl, b2⟩
  have HB2 := Lib.hid (HB1.out.bt b2)
  clear b2 HCS p0 p1 p2 p3 p4 f0 f1 f2 f3
  obtain ⟨h0, h1, hbb⟩ := HBK.out w2 HB2.out
  have p0 := Lib.cell_of_heap h0 0
  have p1 := Lib.cell_of_heap h0 1
  have p2 := Lib.cell_of_heap h0 2
  have p3 := Lib.cell_of_heap h0 3
  have p4 := Lib.cell_of_heap h0 4
  have f0 := Lib.cell_of_heap h1 0
  have f1 := Lib.cell_of_heap h1 1
  have f2 := Lib.cell_of_heap h1 2
  have f3 := Lib.cell_of_heap h1 3
  clear h0 h1
  have DC := Lib.hid (HPI.out w2 hbb)
  clear hbb
  go_wp2_with fail
  refine DC.out.mono ?_
  rintro e u1 ⟨x1, y1, rfl, hr1, bb⟩
  unfold recV5
  simp only at hr1 ⊢
  rw [← HM1.out]
  have hba : Below u1.heap.size u1 (u1.alloc (recO id ver kind lang x1 m1 y1)) := (Below.refl _ _).alloc (Nat.le_refl _) _
  have HB3 := Lib.hid (HB2.out.bt (bb.bt hba))
  have HR1 : Hid (∀ V, Below (u1.alloc (recO id ver kind lang x1 m1 y1)).heap.size (u1.alloc (recO id ver kind lang x1 m1 y1)) V → V.heap[u1.heap.size]? = some (recO id ver kind lang x1 m1 y1) ∧ RcdAt V ⟨⟨id, ver, kind, lang, L1⟩, x1, y1⟩) := Lib.hid (fun V h => ⟨(h.block _ (by simp)).trans (alloc_at rfl), RcdAt.below (RcdAt.below hr1 hba (Nat.le_refl _)) h (Nat.le_refl _)⟩)
  clear hr1 bb hba DC p0 p1 p2 p3 p4 f0 f1 f2 f3
  go_upto_region 4 with fail
  obtain ⟨v1w, hv1w⟩ : ∃ W, W = u1.alloc (recO id ver kind lang x1 m1 y1) := ⟨_, rfl⟩
  rw [← hv1w] at HR1 HB3 ⊢
  obtain ⟨n1, hn1⟩ : ∃ n, n = u1.heap.size := ⟨_, rfl⟩
  rw [← hn1] at HR1 ⊢
  clear hv1w hn1
  obtain ⟨h0, h1, hbb⟩ := HBK.out v1w HB3.out
  have p0 := Lib.cell_of_heap h0 0
  have p1 := Lib.cell_of_heap h0 1
  have p2 := Lib.cell_of_heap h0 2
  have p3 := Lib.cell_of_heap h0 3
  have p4 := Lib.cell_of_heap h0 4
  have f0 := Lib.cell_of_heap h1 0
  have f1 := Lib.cell_of_heap h1 1
  have f2 := Lib.cell_of_heap h1 2
  have f3 := Lib.cell_of_heap h1 3
  clear h0 h1
  obtain ⟨hc, hrc1⟩ := HR1.out v1w (Below.refl _ _)
  have c0 := Lib.cell_of_heap hc 0
  have c1 := Lib.cell_of_heap hc 1
  have c2 := Lib.cell_of_heap hc 2
  have c3 := Lib.cell_of_heap hc 3
  have c4 := Lib.cell_of_heap hc 4
  have DC := Lib.hid (HPD.out v1w x1 y1 hrc1)
  clear hbb hc hrc1
  go_wp2_with fail
  refine DC.out.mono ?_
  rintro e u2 ⟨x2, y2, rfl, hr2, bb⟩
  unfold recV5
  simp only at hr2 ⊢
  rw [← HN.out]
  clear c0 c1 c2 c3 c4
  have hba : Below u2.heap.size u2 (u2.alloc (recO id ver kind lang x2 n y2)) := (Below.refl _ _).alloc (Nat.le_refl _) _
  have HB4 := Lib.hid (HB3.out.bt (bb.bt hba))
  have HR2 : Hid (∀ V, Below (u2.alloc (recO id ver kind lang x2 n y2)).heap.size (u2.alloc (recO id ver kind lang x2 n y2)) V → V.heap[u2.heap.size]? = some (recO id ver kind lang x2 n y2) ∧ RcdAt V ⟨⟨id, ver, kind, lang, rf⟩, x2, y2⟩) := Lib.hid (fun V h => ⟨(h.block _ (by simp)).trans (alloc_at rfl), RcdAt.below (RcdAt.below hr2 hba (Nat.le_refl _)) h (Nat.le_refl _)⟩)
  have BC2 := Lib.hid (bb.bt hba)
  clear hr2 bb hba DC p0 p1 p2 p3 p4 f0 f1 f2 f3
  go_upto_region 6 with fail
  obtain ⟨v2w, hv2w⟩ : ∃ W, W = u2.alloc (recO id ver kind lang x2 n y2) := ⟨_, rfl⟩
  rw [← hv2w] at HR2 HB4 BC2 ⊢
  obtain ⟨n2, hn2⟩ : ∃ n, n = u2.heap.size := ⟨_, rfl⟩
  rw [← hn2] at HR2 ⊢
  clear hv2w hn2
  have N1 : ∀ V, Below v2w.heap.size v2w V → Below v1w.heap.size v1w V := fun V h => BC2.out.bt h
  obtain ⟨b1, o1, hx1, hf1⟩ : ∃ b o, x1 = some (⟨b, o, none⟩ : Addr) ∧ ∀ V, Below v1w.heap.size v1w V → Four V b (o + k * 4) f := by
    obtain ⟨-, ⟨⟨a', c', he', -, hcells⟩, -⟩⟩ := HR1.out v1w (Below.refl _ _)
    cases he'
    rcases hcells with h0 | ⟨b, o, h1, hbl, hcl⟩
    · have := HAT.out; simp only at h0; rw [h0] at this; cases this
    · exact ⟨b, o, h1, fun W h => (four_of (hcl k f HAT.out)).below h hbl⟩
  subst hx1
  have HCL : Hid (∀ V, Below v2w.heap.size v2w V → V.cell? ⟨w.heap.size, 0, none⟩ = some (.int .i64 id) ∧ V.cell? ⟨w.heap.size, 1, none⟩ = some (.int .i64 ver) ∧ V.cell? ⟨w.heap.size, 2, none⟩ = some (.int .i64 kind) ∧ V.cell? ⟨w.heap.size, 3, none⟩ = some (.string lang) ∧ V.cell? ⟨w.heap.size, 4, none⟩ = some (.slice ra n rc) ∧ V.cell? ⟨w.heap.size + 1, 0, none⟩ = some (.string T) ∧ V.cell? ⟨w.heap.size + 1, 1, none⟩ = some (.string I) ∧ V.cell? ⟨w.heap.size + 1, 2, none⟩ = some (.slice f.sa sn f.sc) ∧ V.cell? ⟨w.heap.size + 1, 3, none⟩ = some (.int .i64 f.auth) ∧ V.cell? ⟨n1, 0, none⟩ = some (.int .i64 id) ∧ V.cell? ⟨n1, 1, none⟩ = some (.int .i64 ver) ∧ V.cell? ⟨n1, 2, none⟩ = some (.int .i64 kind) ∧ V.cell? ⟨n1, 3, none⟩ = some (.string lang) ∧ V.cell? ⟨n1, 4, none⟩ = some (.slice (some ⟨b1, o1, none⟩) m1 y1) ∧ V.cell? ⟨n2, 0, none⟩ = some (.int .i64 id) ∧ V.cell? ⟨n2, 1, none⟩ = some (.int .i64 ver) ∧ V.cell? ⟨n2, 2, none⟩ = some (.int .i64 kind) ∧ V.cell? ⟨n2, 3, none⟩ = some (.string lang) ∧ V.cell? ⟨n2, 4, none⟩ = some (.slice x2 n y2) ∧ V.cell? ⟨b1, o1 + k * 4, none⟩ = some (.string T) ∧ V.cell? ⟨b1, o1 + k * 4 + 1, none⟩ = some (.string I) ∧ V.cell? ⟨b1, o1 + k * 4 + 2, none⟩ = some (.slice f.sa sn f.sc) ∧ V.cell? ⟨b1, o1 + k * 4 + 3, none⟩ = some (.int .i64 f.auth)) := Lib.hid (fun V h => by
    obtain ⟨h0, h1, -⟩ := HBK.out V (HB4.out.bt h)
    have h2 := (HR1.out V (N1 V h)).1
    have h3 := (HR2.out V h).1
    obtain ⟨t0, t1, t2, t3⟩ := hf1 V (N1 V h)
    rw [← HTE.out.1] at t0
    rw [← HTE.out.2.1] at t1
    rw [← HTE.out.2.2] at t2
    exact ⟨(Lib.cell_of_heap h0 0).trans rfl, (Lib.cell_of_heap h0 1).trans rfl, (Lib.cell_of_heap h0 2).trans rfl, (Lib.cell_of_heap h0 3).trans rfl, (Lib.cell_of_heap h0 4).trans rfl, (Lib.cell_of_heap h1 0).trans rfl, (Lib.cell_of_heap h1 1).trans rfl, (Lib.cell_of_heap h1 2).trans rfl, (Lib.cell_of_heap h1 3).trans rfl, (Lib.cell_of_heap h2 0).trans rfl, (Lib.cell_of_heap h2 1).trans rfl, (Lib.cell_of_heap h2 2).trans rfl, (Lib.cell_of_heap h2 3).trans rfl, (Lib.cell_of_heap h2 4).trans rfl, (Lib.cell_of_heap h3 0).trans rfl, (Lib.cell_of_heap h3 1).trans rfl, (Lib.cell_of_heap h3 2).trans rfl, (Lib.cell_of_heap h3 3).trans rfl, (Lib.cell_of_heap h3 4).trans rfl, t0, t1, t2, t3⟩)
  have S1 : Hid (∀ V, Below v2w.heap.size v2w V → Calls Tryz.prog 14 #[.agg #[.int .i64 id, .int .i64 ver, .int .i64 kind, .string lang, .slice ra n rc], .agg #[.int .i64 id, .int .i64 ver, .int .i64 kind, .string lang, .slice x2 n y2]] V (fun e w' => e = .returned (.bool true) ∧ Below V.heap.size V w')) := Lib.hid (fun V h => HSM.out V x2 y2 (HBK.out V (HB4.out.bt h)).2.2 (HR2.out V h).2)
  have S2 : Hid (∀ V, Below v2w.heap.size v2w V → Calls Tryz.prog 12 #[.agg #[.int .i64 id, .int .i64 ver, .int .i64 kind, .string lang, .slice (some ⟨b1, o1, none⟩) m1 y1]] V (fun e w' => e = .returned (.int .i64 0) ∧ Below V.heap.size V w')) := Lib.hid (fun V h => HRA.out V _ y1 (HBK.out V (HB4.out.bt h)).2.2 (HR1.out V (N1 V h)).2)
  have S3 : Hid (∀ V, Below v2w.heap.size v2w V → Calls Tryz.prog 36 #[.agg #[.string T, .string I, .slice f.sa sn f.sc, .int .i64 f.auth], .agg #[.string T, .string I, .slice f.sa sn f.sc, .int .i64 f.auth]] V (fun e w' => e = .returned (.bool true) ∧ Below V.heap.size V w')) := Lib.hid (fun V h => HSS.out V (HBK.out V (HB4.out.bt h)).2.2)
  have hk1 : (k : Int) < (m1 : Int) := by have := HLE.out; have := HKN.out; omega
  have hwp : IntKind.i64.wrap ((n : Int) + 1) = (m1 : Int) := by
    have h1 := HLE.out
    rw [h1.1]
    rw [IntKind.wrap_i64]; omega
  obtain ⟨C, hC⟩ : ∃ C : World → Prop, C = fun w' => Below v2w.heap.size v2w w' := ⟨_, rfl⟩
  have hCB : ∀ w', C w' → Below v2w.heap.size v2w w' := fun w' h => by rw [hC] at h; exact h
  have hC0 : C { v2w with drawn := v2w.drawn + 1 } := by rw [hC]; exact (Below.refl _ _).drew
  have hstep : ∀ w' w'', C w' → Below w'.heap.size w' w'' → C w'' := fun w' w'' h k => by rw [hC] at h ⊢; exact h.bt k
  have hcells : ∀ w', C w' → w'.cell? ⟨w.heap.size, 0, none⟩ = some (.int .i64 id) ∧ w'.cell? ⟨w.heap.size, 1, none⟩ = some (.int .i64 ver) ∧ w'.cell? ⟨w.heap.size, 2, none⟩ = some (.int .i64 kind) ∧ w'.cell? ⟨w.heap.size, 3, none⟩ = some (.string lang) ∧ w'.cell? ⟨w.heap.size, 4, none⟩ = some (.slice ra n rc) ∧ w'.cell? ⟨w.heap.size + 1, 0, none⟩ = some (.string T) ∧ w'.cell? ⟨w.heap.size + 1, 1, none⟩ = some (.string I) ∧ w'.cell? ⟨w.heap.size + 1, 2, none⟩ = some (.slice f.sa sn f.sc) ∧ w'.cell? ⟨w.heap.size + 1, 3, none⟩ = some (.int .i64 f.auth) ∧ w'.cell? ⟨n1, 0, none⟩ = some (.int .i64 id) ∧ w'.cell? ⟨n1, 1, none⟩ = some (.int .i64 ver) ∧ w'.cell? ⟨n1, 2, none⟩ = some (.int .i64 kind) ∧ w'.cell? ⟨n1, 3, none⟩ = some (.string lang) ∧ w'.cell? ⟨n1, 4, none⟩ = some (.slice (some ⟨b1, o1, none⟩) m1 y1) ∧ w'.cell? ⟨n2, 0, none⟩ = some (.int .i64 id) ∧ w'.cell? ⟨n2, 1, none⟩ = some (.int .i64 ver) ∧ w'.cell? ⟨n2, 2, none⟩ = some (.int .i64 kind) ∧ w'.cell? ⟨n2, 3, none⟩ = some (.string lang) ∧ w'.cell? ⟨n2, 4, none⟩ = some (.slice x2 n y2) ∧ w'.cell? ⟨b1, o1 + k * 4, none⟩ = some (.string T) ∧ w'.cell? ⟨b1, o1 + k * 4 + 1, none⟩ = some (.string I) ∧ w'.cell? ⟨b1, o1 + k * 4 + 2, none⟩ = some (.slice f.sa sn f.sc) ∧ w'.cell? ⟨b1, o1 + k * 4 + 3, none⟩ = some (.int .i64 f.auth) := fun w' h => HCL.out w' (hCB w' h)
  clear hC N1 hf1
  refine wp_region_quiet (C := C) (by kernel_rfl) (by kernel_rfl) hC0 ?_
  show wpQuiet _ _ _ _ [_, _, _, _, _, _, _, _, _, _, _, _, _, _, _, _, _, _, _, _, _, _, _, _, _, _, _, _, _, _, _, _, _] _
  repeat
    with_reducible refine wpQuiet_step (fun K hK => ?_)
    go_simp
    first
      | (with_reducible refine hK _ ?_; clear hK K)
      | (apply Exists.intro
         with_reducible refine ⟨fun w' hw' => ?_, hK _ ?_⟩
         · first
           | with_reducible rfl
           | (obtain ⟨q0, q1, q2, q3, q4, q5, q6, q7, q8, q9, q10, q11, q12, q13, q14, q15, q16, q17, q18, q19, q20, q21, q22⟩ := hcells w' hw'; go_simp; with_reducible rfl)
           | ((first
               | with_reducible refine (S1.out w' (hCB w' hw')).mono ?_
               | with_reducible refine (S2.out w' (hCB w' hw')).mono ?_
               | with_reducible refine (S3.out w' (hCB w' hw')).mono ?_)
              exact fun e w'' ⟨he, hb⟩ => ⟨he, hstep w' w'' hw' hb⟩)
         clear hK K)
  refine wpQuiet_nil ?_
  intro w2 hw2
  have HB5 := Lib.hid (HB4.out.bt (hCB w2 hw2))
  clear hcells hCB hstep hw2 hwp hk1 hC0
  obtain ⟨h0, h1, hbb⟩ := HBK.out w2 HB5.out
  have p0 := Lib.cell_of_heap h0 0
  have p1 := Lib.cell_of_heap h0 1
  have p2 := Lib.cell_of_heap h0 2
  have p3 := Lib.cell_of_heap h0 3
  have p4 := Lib.cell_of_heap h0 4
  have f0 := Lib.cell_of_heap h1 0
  have f1 := Lib.cell_of_heap h1 1
  have f2 := Lib.cell_of_heap h1 2
  have f3 := Lib.cell_of_heap h1 3
  clear h0 h1
  clear hbb
  have DC := Lib.hid (HAL.out w2 (HBK.out w2 HB5.out).2.2)
  go_wp2_with fail
  refine DC.out.mono ?_
  rintro e wz ⟨rfl, bz⟩
  have HBZ := Lib.hid ((HBK.out w2 HB5.out).2.2.bt bz)
  clear bz
  go_wp2
  go_ret
  exact ⟨rfl, HBZ.out⟩

set_option maxRecDepth 100000 in
set_option maxHeartbeats 8000000 in
theorem rst_ii (r : Rec) (a : Option Addr) (c : Nat) (i : Int) (f : Fld) (w : World) (hE : Env w) (hx : RcdAt w ⟨r, a, c⟩) (hq : Codes r) (hi : (Lit.int .i64 i).wf = true) (hf : FldAt w f) (hqf : ∀ s ∈ f.subs, s.1 < 256) (hv : validR r = true) (hs : smallF f = true) (he : (insR r i f).2 = 0) (hr : 0 ≤ i ∧ i < r.fields.length) :
    Calls Tryz.prog 8 #[recV5 ⟨r, a, c⟩, .int .i64 i, fldV f] w fun e w' => e = .returned (.bool true) ∧ Below w.heap.size w w' := by
  have HAL : Hid (∀ W, Below w.heap.size w W → Calls Tryz.prog 11 #[] W (fun e w' => e = .returned (.bool true) ∧ Below W.heap.size W w')) := Lib.hid (fun W h => lAlive W (hE.below h))
  have HVA : Hid (∀ W, Below w.heap.size w W → Calls Tryz.prog 16 #[recV5 ⟨r, a, c⟩] W (fun e w' => e = .returned (.bool true) ∧ Below W.heap.size W w')) := Lib.hid (fun W h => by
    have := lValid ⟨r, a, c⟩ W (RcdAt.below hx h (Nat.le_refl _)) hq
    rwa [hv] at this)
  have HSF : Hid (∀ W, Below w.heap.size w W → Calls Tryz.prog 20 #[fldV f] W (fun e w' => e = .returned (.bool true) ∧ Below W.heap.size W w')) := Lib.hid (fun W h => by
    have := rSmallF (lb f.tag) (lb f.ind) f.subs f.auth f.sa f.subs.length f.sc W (hf.below h (Nat.le_refl _))
    have h2 : (decide (f.subs.length ≤ 20) && f.subs.all fun s => decide (s.2.size ≤ 300)) = smallF f := rfl
    rwa [h2, hs] at this)
  have hg := good_of hv hq
  have hfs : f.small := by
    unfold smallF at hs
    simp only [Bool.and_eq_true, decide_eq_true_eq, List.all_eq_true] at hs
    exact ⟨by omega, fun s h => by have := hs.2 s h; omega, hqf⟩
  have hl9 : (⟨r, a, c⟩ : Rcd).r.fields.length ≤ 900 := by have := hg.len; show r.fields.length ≤ 900; omega
  have hsu : ∀ g ∈ r.fields, g.subs.length ≤ 1000000 := fun g h => (hg.small.2 g h).subs
  obtain ⟨hi0, hi1, hfe, hn64, hins⟩ := ins_ok he
  obtain ⟨k, rfl⟩ : ∃ k : Nat, i = k := ⟨i.toNat, by omega⟩
  rw [Int.toNat_natCast] at hins
  have hkn : k ≤ r.fields.length := by omega
  have HPI : Hid (∀ W, Below w.heap.size w W → Calls Tryz.prog 21 #[recV5 ⟨r, a, c⟩, .int .i64 (k : Int), fldV f] W (RetR W (withL r (r.fields.take k ++ f :: r.fields.drop k), 0))) := Lib.hid (fun W h => by
    rw [← hins]
    exact pInsert ⟨r, a, c⟩ _ f W (hE.below h) (RcdAt.below hx h (Nat.le_refl _)) (hf.below h (Nat.le_refl _)) hfs hl9)
  obtain ⟨L1, hL1⟩ : ∃ L, L = r.fields.take k ++ f :: r.fields.drop k := ⟨_, rfl⟩
  have HKN := Lib.hid hkn
  have hlen1 : L1.length = r.fields.length + 1 := by rw [hL1]; simp only [List.length_append, List.length_cons, List.length_take, List.length_drop]; omega
  have HAT : Hid (L1[k]? = some f) := Lib.hid (by rw [hL1]; exact ins_at (r := r) hkn)
  have HPD : Hid (∀ W x y, RcdAt W ⟨withL r L1, x, y⟩ → Calls Tryz.prog 23 #[recV5 ⟨withL r L1, x, y⟩, .int .i64 (k : Int)] W (RetR W (r, 0))) := Lib.hid (fun W x y h => by
    have h1 := pRemove ⟨withL r L1, x, y⟩ (k : Int) W h (by show L1.length ≤ 900; omega) hi
    have h2 : remR (withL r L1) (k : Int) = (r, 0) := by rw [hL1]; exact rem_ins hkn
    rwa [h2] at h1)
  have HRA : Hid (∀ W x y, Below w.heap.size w W → RcdAt W ⟨withL r L1, x, y⟩ → Calls Tryz.prog 12 #[recV5 ⟨withL r L1, x, y⟩] W (fun e w' => e = .returned (.int .i64 0) ∧ Below W.heap.size W w')) := Lib.hid (fun W x y h hr => by
    have hgd := ins_good (k := k) hg hn64 hfe hfs
    rw [← hL1] at hgd
    have h1 := pRecRight (withL r L1) x L1.length y W (hE.below h) hr hgd.2
    rwa [hgd.1] at h1)
  have HSS : Hid (∀ W, Below w.heap.size w W → Calls Tryz.prog 36 #[fldV f, fldV f] W (fun e w' => e = .returned (.bool true) ∧ Below W.heap.size W w')) := Lib.hid (fun W h => by
    have h1 := rSame07 f f W (hf.below h (Nat.le_refl _)) (hf.below h (Nat.le_refl _)) hfs.subs hfs.subs
    rwa [sameF_refl] at h1)
  rw [← hL1] at HPI
  have HSM : Hid (∀ W x y, Below w.heap.size w W → RcdAt W ⟨r, x, y⟩ → Calls Tryz.prog 14 #[recV5 ⟨r, a, c⟩, recV5 ⟨r, x, y⟩] W (fun e w' => e = .returned (.bool true) ∧ Below W.heap.size W w')) := Lib.hid (fun W x y h hr => by
    have h1 := pSameRec r r a x r.fields.length c r.fields.length y W (RcdAt.below hx h (Nat.le_refl _)) hr hg.small.1 hsu
    rwa [sameRB_refl] at h1)
  obtain ⟨-, hi1'⟩ := hr
  have hkl : k < r.fields.length := by omega
  obtain ⟨fk, hfk⟩ : ∃ g, r.fields[k]? = some g := ⟨_, List.getElem?_eq_getElem hkl⟩
  have hfm := List.mem_of_getElem? hfk
  obtain ⟨L2, hL2⟩ : ∃ L, L = r.fields.eraseIdx k := ⟨_, rfl⟩
  have hlen2 : L2.length ≤ r.fields.length := by rw [hL2]; exact List.length_eraseIdx_le _ _
  have HPD2 : Hid (∀ W, Below w.heap.size w W → Calls Tryz.prog 23 #[recV5 ⟨r, a, c⟩, .int .i64 (k : Int)] W (RetR W (withL r L2, 0))) := Lib.hid (fun W h => by
    rw [hL2, ← rem_ok hkl]
    exact pRemove ⟨r, a, c⟩ (k : Int) W (RcdAt.below hx h (Nat.le_refl _)) hl9 hi)
  have HPI2 : Hid (∀ W x y, Below w.heap.size w W → RcdAt W ⟨withL r L2, x, y⟩ → Calls Tryz.prog 21 #[recV5 ⟨withL r L2, x, y⟩, .int .i64 (k : Int), fldV fk] W (RetR W (r, 0))) := Lib.hid (fun W x y h hr => by
    have h1 := pInsert ⟨withL r L2, x, y⟩ (k : Int) fk W (hE.below h) hr ((hx.2 fk hfm).below h (Nat.le_refl _)) (hg.small.2 fk hfm) (by show L2.length ≤ 900; have : r.fields.length ≤ 900 := hl9; omega)
    have h2 : insR (withL r L2) (k : Int) fk = (r, 0) := by rw [hL2]; exact ins_rem hg hfk
    rwa [h2] at h1)
  have HRB : Hid (∀ W x y, Below w.heap.size w W → RcdAt W ⟨withL r L2, x, y⟩ → Calls Tryz.prog 12 #[recV5 ⟨withL r L2, x, y⟩] W (fun e w' => e = .returned (.int .i64 0) ∧ Below W.heap.size W w')) := Lib.hid (fun W x y h hr => by
    have hgd := rem_good (k := k) hg
    rw [← hL2] at hgd
    have h1 := pRecRight (withL r L2) x L2.length y W (hE.below h) hr hgd.2
    rwa [hgd.1] at h1)
  have HFL : Hid (∀ W, Below w.heap.size w W → ∀ g ∈ r.fields, FldAt W g) := Lib.hid (fun W h g hm => (hx.2 g hm).below h (Nat.le_refl _))
  obtain ⟨pb, po, ha, hcf⟩ : ∃ pb po, a = some ⟨pb, po, none⟩ ∧ ∀ W, Below w.heap.size w W → Four W pb (po + k * 4) fk := by
    obtain ⟨⟨a', c', he', -, hcells⟩, -⟩ := hx
    cases he'
    rcases hcells with h0 | ⟨b, o, h1, hbl, hcl⟩
    · rw [h0] at hfk; cases hfk
    · exact ⟨b, o, h1, fun W h => (four_of (hcl k fk hfk)).below h hbl⟩
  have HCF := Lib.hid hcf
  subst ha
  have hklz : (k : Int) < (r.fields.length : Int) := by omega
  clear hx hE hq hi hf hqf hv hs he hg hfs hl9 hsu hi0 hi1 hfe hins hL1 hkn hi1' hfk hfm hL2 hkl hcf
  unfold recV5 at HVA HPI HPD HRA HSM HPD2 HPI2 HRB ⊢
  unfold withL at HPI HPD HRA HPD2 HPI2 HRB
  obtain ⟨id, ver, kind, lang, rf⟩ := r
  simp only at HVA HPI HPD HRA HSM HPD2 HPI2 HRB hlen1 hlen2 hklz ⊢
  obtain ⟨n, hn⟩ : ∃ n, n = rf.length := ⟨_, rfl⟩
  simp only at hn64 HKN
  rw [← hn] at HVA HPI HSM hlen1 hn64 HKN HPD2 hlen2 hklz ⊢
  obtain ⟨m1, hm1⟩ : ∃ m, m = L1.length := ⟨_, rfl⟩
  rw [← hm1] at HPD HRA hlen1
  have HM1 := Lib.hid hm1
  have HLE := Lib.hid (And.intro hlen1 hn64)
  clear hm1 hlen1 hn64
  obtain ⟨m2, hm2⟩ : ∃ m, m = L2.length := ⟨_, rfl⟩
  rw [← hm2] at HPI2 HRB
  have HM2 := Lib.hid hm2
  clear hm2 hlen2
  have HN := Lib.hid hn
  clear hn
  obtain ⟨ra, hra⟩ : ∃ x, x = some (⟨pb, po, none⟩ : Addr) := ⟨_, rfl⟩
  rw [← hra] at HVA HPI HPD2 HSM ⊢
  have HRAE := Lib.hid hra
  clear hra
  obtain ⟨rc, hrc⟩ : ∃ x, x = c := ⟨_, rfl⟩
  rw [← hrc] at HVA HPI HSM HPD2 ⊢
  clear hrc
  unfold fldV at HSF HPI HSS ⊢
  obtain ⟨T, hT⟩ : ∃ T, T = lb f.tag := ⟨_, rfl⟩
  obtain ⟨I, hI⟩ : ∃ I, I = lb f.ind := ⟨_, rfl⟩
  obtain ⟨sn, hsn⟩ : ∃ sn, sn = f.subs.length := ⟨_, rfl⟩
  rw [← hT, ← hI, ← hsn] at HSF HPI HSS ⊢
  have HTE := Lib.hid (And.intro hT (And.intro hI hsn))
  clear hT hI hsn
  obtain ⟨W0, hW0⟩ : ∃ W, W = (w.alloc (recO id ver kind lang ra n rc)).alloc (fldO T I f.sa sn f.sc f.auth) := ⟨_, rfl⟩
  have hb0 : Below w.heap.size w W0 := by rw [hW0]; exact (Below.refl _ _).alloc2 (Nat.le_refl _) _ _
  have h0 : W0.heap[w.heap.size]? = some (recO id ver kind lang ra n rc) := by rw [hW0]; exact (alloc_old (by simp)).trans (alloc_at rfl)
  have h1 : W0.heap[w.heap.size + 1]? = some (fldO T I f.sa sn f.sc f.auth) := by rw [hW0]; exact alloc_at (by simp)
  have hs0 : W0.heap.size = w.heap.size + 2 := by rw [hW0]; simp
  have HBK : Hid (∀ W, Below W0.heap.size W0 W → W.heap[w.heap.size]? = some (recO id ver kind lang ra n rc) ∧ W.heap[w.heap.size + 1]? = some (fldO T I f.sa sn f.sc f.auth) ∧ Below w.heap.size w W) := Lib.hid (fun W h => ⟨(h.block _ (by omega)).trans h0, (h.block _ (by omega)).trans h1, hb0.bt h⟩)
  have HW0 := Lib.hid hW0
  have HB0 := Lib.hid hb0
  have p0 := Lib.cell_of_heap h0 0
  have p1 := Lib.cell_of_heap h0 1
  have p2 := Lib.cell_of_heap h0 2
  have p3 := Lib.cell_of_heap h0 3
  have p4 := Lib.cell_of_heap h0 4
  have f0 := Lib.cell_of_heap h1 0
  have f1 := Lib.cell_of_heap h1 1
  have f2 := Lib.cell_of_heap h1 2
  have f3 := Lib.cell_of_heap h1 3
  rw [hW0] at p0 p1 p2 p3 p4 f0 f1 f2 f3
  clear hb0 h0 h1 hs0 hW0
  go_enter Tryz.func8, Tryz.ntmps8
  go_wp2_with fail
  rw [← HW0.out]
  refine (HVA.out W0 HB0.out).mono ?_
  rintro e w1 ⟨rfl, b1⟩
  have HB1 := Lib.hid b1
  clear b1 p0 p1 p2 p3 p4 f0 f1 f2 f3
  obtain ⟨h0, h1, hbb⟩ := HBK.out w1 HB1.out
  have p0 := Lib.cell_of_heap h0 0
  have p1 := Lib.cell_of_heap h0 1
  have p2 := Lib.cell_of_heap h0 2
  have p3 := Lib.cell_of_heap h0 3
  have p4 := Lib.cell_of_heap h0 4
  have f0 := Lib.cell_of_heap h1 0
  have f1 := Lib.cell_of_heap h1 1
  have f2 := Lib.cell_of_heap h1 2
  have f3 := Lib.cell_of_heap h1 3
  clear h0 h1
  have HCS := Lib.hid (HSF.out w1 hbb)
  clear hbb
  go_wp2_with fail
  refine HCS.out.mono ?_
  rintro e w2 ⟨rfl, b2⟩
  have HB2 := Lib.hid (HB1.out.bt b2)
  clear b2 HCS p0 p1 p2 p3 p4 f0 f1 f2 f3
  obtain ⟨h0, h1, hbb⟩ := HBK.out w2 HB2.out
  have p0 := Lib.cell_of_heap h0 0
  have p1 := Lib.cell_of_heap h0 1
  have p2 := Lib.cell_of_heap h0 2
  have p3 := Lib.cell_of_heap h0 3
  have p4 := Lib.cell_of_heap h0 4
  have f0 := Lib.cell_of_heap h1 0
  have f1 := Lib.cell_of_heap h1 1
  have f2 := Lib.cell_of_heap h1 2
  have f3 := Lib.cell_of_heap h1 3
  clear h0 h1
  have DC := Lib.hid (HPI.out w2 hbb)
  clear hbb
  go_wp2_with fail
  refine DC.out.mono ?_
  rintro e u1 ⟨x1, y1, rfl, hr1, bb⟩
  unfold recV5
  simp only at hr1 ⊢
  rw [← HM1.out]
  have hba : Below u1.heap.size u1 (u1.alloc (recO id ver kind lang x1 m1 y1)) := (Below.refl _ _).alloc (Nat.le_refl _) _
  have HB3 := Lib.hid (HB2.out.bt (bb.bt hba))
  have HR1 : Hid (∀ V, Below (u1.alloc (recO id ver kind lang x1 m1 y1)).heap.size (u1.alloc (recO id ver kind lang x1 m1 y1)) V → V.heap[u1.heap.size]? = some (recO id ver kind lang x1 m1 y1) ∧ RcdAt V ⟨⟨id, ver, kind, lang, L1⟩, x1, y1⟩) := Lib.hid (fun V h => ⟨(h.block _ (by simp)).trans (alloc_at rfl), RcdAt.below (RcdAt.below hr1 hba (Nat.le_refl _)) h (Nat.le_refl _)⟩)
  clear hr1 bb hba DC p0 p1 p2 p3 p4 f0 f1 f2 f3
  go_upto_region 4 with fail
  obtain ⟨v1w, hv1w⟩ : ∃ W, W = u1.alloc (recO id ver kind lang x1 m1 y1) := ⟨_, rfl⟩
  rw [← hv1w] at HR1 HB3 ⊢
  obtain ⟨n1, hn1⟩ : ∃ n, n = u1.heap.size := ⟨_, rfl⟩
  rw [← hn1] at HR1 ⊢
  clear hv1w hn1
  obtain ⟨h0, h1, hbb⟩ := HBK.out v1w HB3.out
  have p0 := Lib.cell_of_heap h0 0
  have p1 := Lib.cell_of_heap h0 1
  have p2 := Lib.cell_of_heap h0 2
  have p3 := Lib.cell_of_heap h0 3
  have p4 := Lib.cell_of_heap h0 4
  have f0 := Lib.cell_of_heap h1 0
  have f1 := Lib.cell_of_heap h1 1
  have f2 := Lib.cell_of_heap h1 2
  have f3 := Lib.cell_of_heap h1 3
  clear h0 h1
  obtain ⟨hc, hrc1⟩ := HR1.out v1w (Below.refl _ _)
  have c0 := Lib.cell_of_heap hc 0
  have c1 := Lib.cell_of_heap hc 1
  have c2 := Lib.cell_of_heap hc 2
  have c3 := Lib.cell_of_heap hc 3
  have c4 := Lib.cell_of_heap hc 4
  have DC := Lib.hid (HPD.out v1w x1 y1 hrc1)
  clear hbb hc hrc1
  go_wp2_with fail
  refine DC.out.mono ?_
  rintro e u2 ⟨x2, y2, rfl, hr2, bb⟩
  unfold recV5
  simp only at hr2 ⊢
  rw [← HN.out]
  clear c0 c1 c2 c3 c4
  have hba : Below u2.heap.size u2 (u2.alloc (recO id ver kind lang x2 n y2)) := (Below.refl _ _).alloc (Nat.le_refl _) _
  have HB4 := Lib.hid (HB3.out.bt (bb.bt hba))
  have HR2 : Hid (∀ V, Below (u2.alloc (recO id ver kind lang x2 n y2)).heap.size (u2.alloc (recO id ver kind lang x2 n y2)) V → V.heap[u2.heap.size]? = some (recO id ver kind lang x2 n y2) ∧ RcdAt V ⟨⟨id, ver, kind, lang, rf⟩, x2, y2⟩) := Lib.hid (fun V h => ⟨(h.block _ (by simp)).trans (alloc_at rfl), RcdAt.below (RcdAt.below hr2 hba (Nat.le_refl _)) h (Nat.le_refl _)⟩)
  have BC2 := Lib.hid (bb.bt hba)
  clear hr2 bb hba DC p0 p1 p2 p3 p4 f0 f1 f2 f3
  go_upto_region 6 with fail
  obtain ⟨v2w, hv2w⟩ : ∃ W, W = u2.alloc (recO id ver kind lang x2 n y2) := ⟨_, rfl⟩
  rw [← hv2w] at HR2 HB4 BC2 ⊢
  obtain ⟨n2, hn2⟩ : ∃ n, n = u2.heap.size := ⟨_, rfl⟩
  rw [← hn2] at HR2 ⊢
  clear hv2w hn2
  have N1 : ∀ V, Below v2w.heap.size v2w V → Below v1w.heap.size v1w V := fun V h => BC2.out.bt h
  obtain ⟨b1, o1, hx1, hf1⟩ : ∃ b o, x1 = some (⟨b, o, none⟩ : Addr) ∧ ∀ V, Below v1w.heap.size v1w V → Four V b (o + k * 4) f := by
    obtain ⟨-, ⟨⟨a', c', he', -, hcells⟩, -⟩⟩ := HR1.out v1w (Below.refl _ _)
    cases he'
    rcases hcells with h0 | ⟨b, o, h1, hbl, hcl⟩
    · have := HAT.out; simp only at h0; rw [h0] at this; cases this
    · exact ⟨b, o, h1, fun W h => (four_of (hcl k f HAT.out)).below h hbl⟩
  subst hx1
  have HCL : Hid (∀ V, Below v2w.heap.size v2w V → V.cell? ⟨w.heap.size, 0, none⟩ = some (.int .i64 id) ∧ V.cell? ⟨w.heap.size, 1, none⟩ = some (.int .i64 ver) ∧ V.cell? ⟨w.heap.size, 2, none⟩ = some (.int .i64 kind) ∧ V.cell? ⟨w.heap.size, 3, none⟩ = some (.string lang) ∧ V.cell? ⟨w.heap.size, 4, none⟩ = some (.slice ra n rc) ∧ V.cell? ⟨w.heap.size + 1, 0, none⟩ = some (.string T) ∧ V.cell? ⟨w.heap.size + 1, 1, none⟩ = some (.string I) ∧ V.cell? ⟨w.heap.size + 1, 2, none⟩ = some (.slice f.sa sn f.sc) ∧ V.cell? ⟨w.heap.size + 1, 3, none⟩ = some (.int .i64 f.auth) ∧ V.cell? ⟨n1, 0, none⟩ = some (.int .i64 id) ∧ V.cell? ⟨n1, 1, none⟩ = some (.int .i64 ver) ∧ V.cell? ⟨n1, 2, none⟩ = some (.int .i64 kind) ∧ V.cell? ⟨n1, 3, none⟩ = some (.string lang) ∧ V.cell? ⟨n1, 4, none⟩ = some (.slice (some ⟨b1, o1, none⟩) m1 y1) ∧ V.cell? ⟨n2, 0, none⟩ = some (.int .i64 id) ∧ V.cell? ⟨n2, 1, none⟩ = some (.int .i64 ver) ∧ V.cell? ⟨n2, 2, none⟩ = some (.int .i64 kind) ∧ V.cell? ⟨n2, 3, none⟩ = some (.string lang) ∧ V.cell? ⟨n2, 4, none⟩ = some (.slice x2 n y2) ∧ V.cell? ⟨b1, o1 + k * 4, none⟩ = some (.string T) ∧ V.cell? ⟨b1, o1 + k * 4 + 1, none⟩ = some (.string I) ∧ V.cell? ⟨b1, o1 + k * 4 + 2, none⟩ = some (.slice f.sa sn f.sc) ∧ V.cell? ⟨b1, o1 + k * 4 + 3, none⟩ = some (.int .i64 f.auth)) := Lib.hid (fun V h => by
    obtain ⟨h0, h1, -⟩ := HBK.out V (HB4.out.bt h)
    have h2 := (HR1.out V (N1 V h)).1
    have h3 := (HR2.out V h).1
    obtain ⟨t0, t1, t2, t3⟩ := hf1 V (N1 V h)
    rw [← HTE.out.1] at t0
    rw [← HTE.out.2.1] at t1
    rw [← HTE.out.2.2] at t2
    exact ⟨(Lib.cell_of_heap h0 0).trans rfl, (Lib.cell_of_heap h0 1).trans rfl, (Lib.cell_of_heap h0 2).trans rfl, (Lib.cell_of_heap h0 3).trans rfl, (Lib.cell_of_heap h0 4).trans rfl, (Lib.cell_of_heap h1 0).trans rfl, (Lib.cell_of_heap h1 1).trans rfl, (Lib.cell_of_heap h1 2).trans rfl, (Lib.cell_of_heap h1 3).trans rfl, (Lib.cell_of_heap h2 0).trans rfl, (Lib.cell_of_heap h2 1).trans rfl, (Lib.cell_of_heap h2 2).trans rfl, (Lib.cell_of_heap h2 3).trans rfl, (Lib.cell_of_heap h2 4).trans rfl, (Lib.cell_of_heap h3 0).trans rfl, (Lib.cell_of_heap h3 1).trans rfl, (Lib.cell_of_heap h3 2).trans rfl, (Lib.cell_of_heap h3 3).trans rfl, (Lib.cell_of_heap h3 4).trans rfl, t0, t1, t2, t3⟩)
  have S1 : Hid (∀ V, Below v2w.heap.size v2w V → Calls Tryz.prog 14 #[.agg #[.int .i64 id, .int .i64 ver, .int .i64 kind, .string lang, .slice ra n rc], .agg #[.int .i64 id, .int .i64 ver, .int .i64 kind, .string lang, .slice x2 n y2]] V (fun e w' => e = .returned (.bool true) ∧ Below V.heap.size V w')) := Lib.hid (fun V h => HSM.out V x2 y2 (HBK.out V (HB4.out.bt h)).2.2 (HR2.out V h).2)
  have S2 : Hid (∀ V, Below v2w.heap.size v2w V → Calls Tryz.prog 12 #[.agg #[.int .i64 id, .int .i64 ver, .int .i64 kind, .string lang, .slice (some ⟨b1, o1, none⟩) m1 y1]] V (fun e w' => e = .returned (.int .i64 0) ∧ Below V.heap.size V w')) := Lib.hid (fun V h => HRA.out V _ y1 (HBK.out V (HB4.out.bt h)).2.2 (HR1.out V (N1 V h)).2)
  have S3 : Hid (∀ V, Below v2w.heap.size v2w V → Calls Tryz.prog 36 #[.agg #[.string T, .string I, .slice f.sa sn f.sc, .int .i64 f.auth], .agg #[.string T, .string I, .slice f.sa sn f.sc, .int .i64 f.auth]] V (fun e w' => e = .returned (.bool true) ∧ Below V.heap.size V w')) := Lib.hid (fun V h => HSS.out V (HBK.out V (HB4.out.bt h)).2.2)
  have hk1 : (k : Int) < (m1 : Int) := by have := HLE.out; have := HKN.out; omega
  have hwp : IntKind.i64.wrap ((n : Int) + 1) = (m1 : Int) := by
    have h1 := HLE.out
    rw [h1.1]
    rw [IntKind.wrap_i64]; omega
  obtain ⟨C, hC⟩ : ∃ C : World → Prop, C = fun w' => Below v2w.heap.size v2w w' := ⟨_, rfl⟩
  have hCB : ∀ w', C w' → Below v2w.heap.size v2w w' := fun w' h => by rw [hC] at h; exact h
  have hC0 : C { v2w with drawn := v2w.drawn + 1 } := by rw [hC]; exact (Below.refl _ _).drew
  have hstep : ∀ w' w'', C w' → Below w'.heap.size w' w'' → C w'' := fun w' w'' h k => by rw [hC] at h ⊢; exact h.bt k
  have hcells : ∀ w', C w' → w'.cell? ⟨w.heap.size, 0, none⟩ = some (.int .i64 id) ∧ w'.cell? ⟨w.heap.size, 1, none⟩ = some (.int .i64 ver) ∧ w'.cell? ⟨w.heap.size, 2, none⟩ = some (.int .i64 kind) ∧ w'.cell? ⟨w.heap.size, 3, none⟩ = some (.string lang) ∧ w'.cell? ⟨w.heap.size, 4, none⟩ = some (.slice ra n rc) ∧ w'.cell? ⟨w.heap.size + 1, 0, none⟩ = some (.string T) ∧ w'.cell? ⟨w.heap.size + 1, 1, none⟩ = some (.string I) ∧ w'.cell? ⟨w.heap.size + 1, 2, none⟩ = some (.slice f.sa sn f.sc) ∧ w'.cell? ⟨w.heap.size + 1, 3, none⟩ = some (.int .i64 f.auth) ∧ w'.cell? ⟨n1, 0, none⟩ = some (.int .i64 id) ∧ w'.cell? ⟨n1, 1, none⟩ = some (.int .i64 ver) ∧ w'.cell? ⟨n1, 2, none⟩ = some (.int .i64 kind) ∧ w'.cell? ⟨n1, 3, none⟩ = some (.string lang) ∧ w'.cell? ⟨n1, 4, none⟩ = some (.slice (some ⟨b1, o1, none⟩) m1 y1) ∧ w'.cell? ⟨n2, 0, none⟩ = some (.int .i64 id) ∧ w'.cell? ⟨n2, 1, none⟩ = some (.int .i64 ver) ∧ w'.cell? ⟨n2, 2, none⟩ = some (.int .i64 kind) ∧ w'.cell? ⟨n2, 3, none⟩ = some (.string lang) ∧ w'.cell? ⟨n2, 4, none⟩ = some (.slice x2 n y2) ∧ w'.cell? ⟨b1, o1 + k * 4, none⟩ = some (.string T) ∧ w'.cell? ⟨b1, o1 + k * 4 + 1, none⟩ = some (.string I) ∧ w'.cell? ⟨b1, o1 + k * 4 + 2, none⟩ = some (.slice f.sa sn f.sc) ∧ w'.cell? ⟨b1, o1 + k * 4 + 3, none⟩ = some (.int .i64 f.auth) := fun w' h => HCL.out w' (hCB w' h)
  clear hC N1 hf1
  refine wp_region_quiet (C := C) (by kernel_rfl) (by kernel_rfl) hC0 ?_
  show wpQuiet _ _ _ _ [_, _, _, _, _, _, _, _, _, _, _, _, _, _, _, _, _, _, _, _, _, _, _, _, _, _, _, _, _, _, _, _, _] _
  repeat
    with_reducible refine wpQuiet_step (fun K hK => ?_)
    go_simp
    first
      | (with_reducible refine hK _ ?_; clear hK K)
      | (apply Exists.intro
         with_reducible refine ⟨fun w' hw' => ?_, hK _ ?_⟩
         · first
           | with_reducible rfl
           | (obtain ⟨q0, q1, q2, q3, q4, q5, q6, q7, q8, q9, q10, q11, q12, q13, q14, q15, q16, q17, q18, q19, q20, q21, q22⟩ := hcells w' hw'; go_simp; with_reducible rfl)
           | ((first
               | with_reducible refine (S1.out w' (hCB w' hw')).mono ?_
               | with_reducible refine (S2.out w' (hCB w' hw')).mono ?_
               | with_reducible refine (S3.out w' (hCB w' hw')).mono ?_)
              exact fun e w'' ⟨he, hb⟩ => ⟨he, hstep w' w'' hw' hb⟩)
         clear hK K)
  refine wpQuiet_nil ?_
  intro w2 hw2
  have HB5 := Lib.hid (HB4.out.bt (hCB w2 hw2))
  clear hcells hCB hstep hw2 hwp hk1 hC0
  obtain ⟨h0, h1, hbb⟩ := HBK.out w2 HB5.out
  have p0 := Lib.cell_of_heap h0 0
  have p1 := Lib.cell_of_heap h0 1
  have p2 := Lib.cell_of_heap h0 2
  have p3 := Lib.cell_of_heap h0 3
  have p4 := Lib.cell_of_heap h0 4
  have f0 := Lib.cell_of_heap h1 0
  have f1 := Lib.cell_of_heap h1 1
  have f2 := Lib.cell_of_heap h1 2
  have f3 := Lib.cell_of_heap h1 3
  clear h0 h1
  have DC := Lib.hid (HPD2.out w2 hbb)
  have hk0 : (0 : Int) ≤ (k : Int) := by omega
  clear hbb
  go_wp2_with fail
  refine DC.out.mono ?_
  rintro e u3 ⟨x3, y3, rfl, hr3, bb⟩
  unfold recV5
  simp only at hr3 ⊢
  rw [← HM2.out]
  have hba : Below u3.heap.size u3 (u3.alloc (recO id ver kind lang x3 m2 y3)) := (Below.refl _ _).alloc (Nat.le_refl _) _
  have HB6 := Lib.hid (HB5.out.bt (bb.bt hba))
  have HR3 : Hid (∀ V, Below (u3.alloc (recO id ver kind lang x3 m2 y3)).heap.size (u3.alloc (recO id ver kind lang x3 m2 y3)) V → V.heap[u3.heap.size]? = some (recO id ver kind lang x3 m2 y3) ∧ RcdAt V ⟨⟨id, ver, kind, lang, L2⟩, x3, y3⟩) := Lib.hid (fun V h => ⟨(h.block _ (by simp)).trans (alloc_at rfl), RcdAt.below (RcdAt.below hr3 hba (Nat.le_refl _)) h (Nat.le_refl _)⟩)
  clear hr3 bb hba DC p0 p1 p2 p3 p4 f0 f1 f2 f3
  go_upto_region 10 with fail
  obtain ⟨v3w, hv3w⟩ : ∃ W, W = u3.alloc (recO id ver kind lang x3 m2 y3) := ⟨_, rfl⟩
  rw [← hv3w] at HR3 HB6 ⊢
  obtain ⟨n3, hn3⟩ : ∃ n, n = u3.heap.size := ⟨_, rfl⟩
  rw [← hn3] at HR3 ⊢
  clear hv3w hn3
  obtain ⟨h0, h1, hbb⟩ := HBK.out v3w HB6.out
  have h3 := (HR3.out v3w (Below.refl _ _)).1
  obtain ⟨c0, c1, c2, c3⟩ := HCF.out v3w hbb
  have HII := Lib.hid (fun V (h : Below v3w.heap.size v3w V) => HPI2.out V x3 y3 (hbb.bt h) (HR3.out V h).2)
  have HH : Hid (Below w.heap.size w v3w) := Lib.hid hbb
  clear h1 hbb
  rw [HRAE.out] at h0
  refine rst_region w.heap.size n3 id ver kind lang n rc x3 m2 y3 k pb po (lb fk.tag) (lb fk.ind) fk.sa fk.subs.length fk.sc fk.auth ⟨id, ver, kind, lang, rf⟩ h0 h3 hklz c0 c1 c2 c3 HII (by kernel_rfl) (by kernel_rfl) (by kernel_rfl) (by kernel_rfl) (by kernel_rfl) (by kernel_rfl) (by kernel_rfl) (by kernel_rfl) (by kernel_rfl) (by kernel_rfl) (by kernel_rfl) (by kernel_rfl) (by kernel_rfl) (by kernel_rfl) (by kernel_rfl) (by kernel_rfl) (by kernel_rfl) (by kernel_rfl) (by kernel_rfl) (by kernel_rfl) (by kernel_rfl) (by kernel_rfl) (by kernel_rfl) (by kernel_rfl) ?_
  clear h0 h3 c0 c1 c2 c3
  rintro xs W Z hb e14 ⟨g, fa, fc, e13, hrw, hgW, hgA, hZ⟩
  simp only at e14 e13 hZ
  rw [← HN.out] at hZ
  have hbz : Below v3w.heap.size v3w Z := by rw [hZ]; exact putR_below hb hgA _ _ _ _ _
  have hgz : Z.heap[g]? = some (recO id ver kind lang fa n fc) := by rw [hZ]; exact putR_heap hgW rfl _ _ _ _ _
  have hrz : RcdAt Z ⟨⟨id, ver, kind, lang, rf⟩, fa, fc⟩ := ⟨rows_away hrw.1 hgW (fun b hb => by rw [hZ]; exact putR_other _ _ _ _ _ _ hb), fun q hq => HFL.out Z (HH.out.bt hbz) q hq⟩
  have HRZ := Lib.hid hrz
  have HBZ := Lib.hid (HB6.out.bt hbz)
  have HBY := Lib.hid hbz
  have HB0Z := Lib.hid (HH.out.bt hbz)
  clear hrw hgW hZ hb hbz hrz
  have c0 := Lib.cell_of_heap hgz 0
  have c1 := Lib.cell_of_heap hgz 1
  have c2 := Lib.cell_of_heap hgz 2
  have c3 := Lib.cell_of_heap hgz 3
  have c4 := Lib.cell_of_heap hgz 4
  clear hgz
  have DC := Lib.hid (HSM.out Z fa fc HB0Z.out HRZ.out)
  obtain ⟨h0, h1, hbb⟩ := HBK.out Z HBZ.out
  have p0 := Lib.cell_of_heap h0 0
  have p1 := Lib.cell_of_heap h0 1
  have p2 := Lib.cell_of_heap h0 2
  have p3 := Lib.cell_of_heap h0 3
  have p4 := Lib.cell_of_heap h0 4
  have f0 := Lib.cell_of_heap h1 0
  have f1 := Lib.cell_of_heap h1 1
  have f2 := Lib.cell_of_heap h1 2
  have f3 := Lib.cell_of_heap h1 3
  clear h0 h1
  clear hbb f0 f1 f2 f3
  simp only [e13, e14]
  go_wp2_with fail
  refine DC.out.mono ?_
  rintro e u4 ⟨rfl, bb⟩
  have HB7 := Lib.hid (HBY.out.bt bb)
  clear bb p0 p1 p2 p3 p4 c0 c1 c2 c3 c4
  obtain ⟨h3, hr4⟩ := HR3.out u4 HB7.out
  have c0 := Lib.cell_of_heap h3 0
  have c1 := Lib.cell_of_heap h3 1
  have c2 := Lib.cell_of_heap h3 2
  have c3 := Lib.cell_of_heap h3 3
  have c4 := Lib.cell_of_heap h3 4
  have DC := Lib.hid (HRB.out u4 x3 y3 (HH.out.bt HB7.out) hr4)
  clear h3 hr4
  go_wp2_with fail
  refine DC.out.mono ?_
  rintro e u5 ⟨rfl, bb⟩
  have HB8 := Lib.hid (HB7.out.bt bb)
  clear bb c0 c1 c2 c3 c4
  have DC := Lib.hid (HAL.out u5 (HH.out.bt HB8.out))
  go_wp2_with fail
  refine DC.out.mono ?_
  rintro e u6 ⟨rfl, bb⟩
  have HB9 := Lib.hid (HB8.out.bt bb)
  clear bb
  go_wp2
  go_ret
  exact ⟨rfl, HH.out.bt HB9.out⟩

theorem law_RecordRestores (r : Rec) (a : Option Addr) (m c : Nat) (i : Int) (f : Fld) (w : World) (hE : Env w) (hx0 : Flds w (.slice a m c) r.fields) (hq : Codes r) (hi : (Lit.int .i64 i).wf = true) (hf : FldAt w f) (hqf : ∀ s ∈ f.subs, s.1 < 256) :
    Calls Tryz.prog 8 #[.agg #[.int .i64 r.id, .int .i64 r.ver, .int .i64 r.kind, .string r.lang, .slice a m c], .int .i64 i, fldV f] w fun e w' => e = .returned (.bool true) ∧ Below w.heap.size w w' := by
  obtain ⟨rfl, -⟩ := hx0.len
  have hx : RcdAt w ⟨r, a, c⟩ := hx0
  cases hv : validR r with
  | false => exact rst_bad r a c i f w hE hx hq hi hf hqf hv
  | true =>
    cases hs : smallF f with
    | false => exact rst_big r a c i f w hE hx hq hi hf hqf hv hs
    | true =>
      by_cases he : (insR r i f).2 = 0
      · by_cases hr : 0 ≤ i ∧ i < r.fields.length
        · exact rst_ii r a c i f w hE hx hq hi hf hqf hv hs he hr
        · exact rst_io r a c i f w hE hx hq hi hf hqf hv hs he hr
      · by_cases hr : 0 ≤ i ∧ i < r.fields.length
        · exact rst_oi r a c i f w hE hx hq hi hf hqf hv hs he hr
        · exact rst_oo r a c i f w hE hx hq hi hf hqf hv hs he hr
end Go.Proofs.YtkfjeolpbopcnaaGreatDoor
