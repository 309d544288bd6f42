/- The law RecordEdits walked (layer 08). -/
import Derived.Test.YtkfjeolpbopcnaaGreatDoorEf
import Derived.Test.YtkfjeolpbopcnaaGreatDoorEg
import Derived.Test.YtkfjeolpbopcnaaGreatDoorDri
import Derived.Deep.Quiet
namespace Go.Proofs.YtkfjeolpbopcnaaGreatDoor
open Go Go.RowKit

set_option maxRecDepth 100000 in
set_option maxHeartbeats 8000000 in
theorem law_RecordEdits (r : Rec) (a : Option Addr) (m c : Nat) (i : Int) (f : Fld) (w : World) (hE : Env w) (hx0 : Flds w (.slice a m c) r.fields) (hq : Codes r) (hi : (Lit.int .i64 i).wf = true) (hf : FldAt w f) (hqf : ∀ s ∈ f.subs, s.1 < 256) :
    Calls Tryz.prog 5 #[.agg #[.int .i64 r.id, .int .i64 r.ver, .int .i64 r.kind, .string r.lang, .slice a m c], .int .i64 i, fldV f] w fun e w' => e = .returned (.bool true) ∧ Below w.heap.size w w' := by
  obtain ⟨rfl, -⟩ := hx0.len
  have hx : RcdAt w ⟨r, a, c⟩ := hx0
  have HAL : Hid (∀ W, Below w.heap.size w W → Calls Tryz.prog 11 #[] W fun e w' => e = .returned (.bool true) ∧ Below W.heap.size W w') := Lib.hid (fun W h => lAlive W (hE.below h))
  have HVA : Hid (∀ W, Below w.heap.size w W → Calls Tryz.prog 16 #[.agg #[.int .i64 r.id, .int .i64 r.ver, .int .i64 r.kind, .string r.lang, .slice a r.fields.length c]] W fun e w' => e = .returned (.bool (validR r)) ∧ Below W.heap.size W w') := Lib.hid (fun W h => lValid ⟨r, a, c⟩ W (RcdAt.below hx h (Nat.le_refl _)) hq)
  have HSF : Hid (∀ W, Below w.heap.size w W → Calls Tryz.prog 20 #[fldV f] W fun e w' => e = .returned (.bool (smallF f)) ∧ Below W.heap.size W w') := Lib.hid (fun W h => rSmallF (lb f.tag) (lb f.ind) f.subs f.auth f.sa f.subs.length f.sc W (hf.below h (Nat.le_refl _)))
  have hsf : smallF f = true → f.small := fun hs => by
    unfold smallF at hs
    simp only [Bool.and_eq_true, decide_eq_true_eq, List.all_eq_true] at hs
    exact ⟨by omega, fun s h => by have := hs.2 s h; omega, hqf⟩
  have hl9 : validR r = true → r.fields.length ≤ 900 := fun hv => by have := (good_of hv hq).len; omega
  have HPI : Hid (validR r = true → smallF f = true → ∀ W, Below w.heap.size w W → Calls Tryz.prog 21 #[.agg #[.int .i64 r.id, .int .i64 r.ver, .int .i64 r.kind, .string r.lang, .slice a r.fields.length c], .int .i64 i, fldV f] W (RetR W (insR r i f))) := Lib.hid (fun hv hs W h => pInsert ⟨r, a, c⟩ i f W (hE.below h) (RcdAt.below hx h (Nat.le_refl _)) (hf.below h (Nat.le_refl _)) (hsf hs) (hl9 hv))
  have HRI : Hid (validR r = true → smallF f = true → ∀ W, Below w.heap.size w W → Calls Tryz.prog 22 #[.agg #[.int .i64 r.id, .int .i64 r.ver, .int .i64 r.kind, .string r.lang, .slice a r.fields.length c], .int .i64 i, fldV f] W (RetR W (insR r i f))) := Lib.hid (fun hv hs W h => rInsert ⟨r, a, c⟩ i f W (RcdAt.below hx h (Nat.le_refl _)) (hf.below h (Nat.le_refl _)) (hsf hs) (hl9 hv))
  have HPD : Hid (validR r = true → ∀ W, Below w.heap.size w W → Calls Tryz.prog 23 #[.agg #[.int .i64 r.id, .int .i64 r.ver, .int .i64 r.kind, .string r.lang, .slice a r.fields.length c], .int .i64 i] W (RetR W (remR r i))) := Lib.hid (fun hv W h => pRemove ⟨r, a, c⟩ i W (RcdAt.below hx h (Nat.le_refl _)) (hl9 hv) hi)
  have HRD : Hid (validR r = true → ∀ W, Below w.heap.size w W → Calls Tryz.prog 24 #[.agg #[.int .i64 r.id, .int .i64 r.ver, .int .i64 r.kind, .string r.lang, .slice a r.fields.length c], .int .i64 i] W (RetR W (remR r i))) := Lib.hid (fun hv W h => rRemove ⟨r, a, c⟩ i W (RcdAt.below hx h (Nat.le_refl _)) (hl9 hv))
  have HG1 : Hid (validR r = true → smallF f = true → (insR r i f).1.fields.length ≤ 1000000 ∧ ∀ g ∈ (insR r i f).1.fields, g.subs.length ≤ 1000000) := Lib.hid (fun hv hs => by
    have hg := good_of hv hq
    have hff := (hsf hs).subs
    unfold insR withL
    split
    · exact ⟨Nat.zero_le _, by simp [rec0]⟩
    split
    · exact ⟨Nat.zero_le _, by simp [rec0]⟩
    split
    · exact ⟨Nat.zero_le _, by simp [rec0]⟩
    · refine ⟨by simp only [List.length_append, List.length_cons, List.length_take, List.length_drop]; have := hg.len; omega, fun g h => ?_⟩
      rcases List.mem_append.1 h with h | h
      · exact (hg.small.2 g (List.mem_of_mem_take h)).subs
      · rcases List.mem_cons.1 h with rfl | h
        · exact hff
        · exact (hg.small.2 g (List.mem_of_mem_drop h)).subs)
  have HG2 : Hid (validR r = true → (remR r i).1.fields.length ≤ 1000000 ∧ ∀ g ∈ (remR r i).1.fields, g.subs.length ≤ 1000000) := Lib.hid (fun hv => by
    have hg := good_of hv hq
    unfold remR withL
    split
    · exact ⟨Nat.zero_le _, by simp [rec0]⟩
    · refine ⟨by have := List.length_eraseIdx_le r.fields i.toNat; have := hg.len; show (r.fields.eraseIdx i.toNat).length ≤ _; omega, fun g h => (hg.small.2 g (List.mem_of_mem_eraseIdx h)).subs⟩)
  obtain ⟨P1, hP1⟩ : ∃ P, P = insR r i f := ⟨_, rfl⟩
  obtain ⟨P2, hP2⟩ : ∃ P, P = remR r i := ⟨_, rfl⟩
  rw [← hP1] at HPI HRI HG1
  rw [← hP2] at HPD HRD HG2
  obtain ⟨SF, hSF⟩ : ∃ P, P = smallF f := ⟨_, rfl⟩
  rw [← hSF] at HSF HPI HRI HG1
  obtain ⟨V, hV⟩ : ∃ S, S = validR r := ⟨_, rfl⟩
  rw [← hV] at HVA HPI HRI HPD HRD HG1 HG2
  clear hx0 hx hq hE hV hP1 hP2 hSF hsf hl9 hi hf hqf
  obtain ⟨id, ver, kind, lang, rf⟩ := r
  simp only at HVA HPI HRI HPD HRD ⊢
  obtain ⟨n, hn⟩ : ∃ n, n = rf.length := ⟨_, rfl⟩
  rw [← hn] at HVA HPI HRI HPD HRD ⊢
  clear hn
  obtain ⟨ra, hra⟩ : ∃ x, x = a := ⟨_, rfl⟩
  obtain ⟨rc, hrc⟩ : ∃ x, x = c := ⟨_, rfl⟩
  rw [← hra, ← hrc] at HVA HPI HRI HPD HRD ⊢
  clear hra hrc
  unfold fldV at HSF HPI HRI ⊢
  obtain ⟨T, hT⟩ : ∃ T, T = lb f.tag := ⟨_, rfl⟩
  obtain ⟨I, hI⟩ : ∃ I, I = lb f.ind := ⟨_, rfl⟩
  obtain ⟨sn, hsn⟩ : ∃ sn, sn = f.subs.length := ⟨_, rfl⟩
  rw [← hT, ← hI, ← hsn] at HSF HPI HRI ⊢
  clear hT hI hsn
  obtain ⟨W0, hW0⟩ : ∃ W, W = (w.alloc (recO id ver kind lang ra n rc)).alloc (fldO T I f.sa sn f.sc f.auth) := ⟨_, rfl⟩
  have hb0 : Below w.heap.size w W0 := by rw [hW0]; exact (Below.refl _ _).alloc2 (Nat.le_refl _) _ _
  have h0 : W0.heap[w.heap.size]? = some (recO id ver kind lang ra n rc) := by rw [hW0]; exact (alloc_old (by simp)).trans (alloc_at rfl)
  have h1 : W0.heap[w.heap.size + 1]? = some (fldO T I f.sa sn f.sc f.auth) := by rw [hW0]; exact alloc_at (by simp)
  have hs0 : W0.heap.size = w.heap.size + 2 := by rw [hW0]; simp
  have HBK : Hid (∀ W, Below W0.heap.size W0 W → W.heap[w.heap.size]? = some (recO id ver kind lang ra n rc) ∧ W.heap[w.heap.size + 1]? = some (fldO T I f.sa sn f.sc f.auth) ∧ Below w.heap.size w W) := Lib.hid (fun W h => ⟨(h.block _ (by omega)).trans h0, (h.block _ (by omega)).trans h1, hb0.bt h⟩)
  have HW0 := Lib.hid hW0
  have HB0 := Lib.hid hb0
  have p0 := Lib.cell_of_heap h0 0
  have p1 := Lib.cell_of_heap h0 1
  have p2 := Lib.cell_of_heap h0 2
  have p3 := Lib.cell_of_heap h0 3
  have p4 := Lib.cell_of_heap h0 4
  have f0 := Lib.cell_of_heap h1 0
  have f1 := Lib.cell_of_heap h1 1
  have f2 := Lib.cell_of_heap h1 2
  have f3 := Lib.cell_of_heap h1 3
  rw [hW0] at p0 p1 p2 p3 p4 f0 f1 f2 f3
  clear hb0 h0 h1 hs0 hW0
  go_enter Tryz.func5, Tryz.ntmps5
  go_wp2_with fail
  rw [← HW0.out]
  refine (HVA.out W0 HB0.out).mono ?_
  rintro e w1 ⟨rfl, b1⟩
  have HB1 := Lib.hid b1
  clear b1 p0 p1 p2 p3 p4 f0 f1 f2 f3
  obtain ⟨h0, h1, hbb⟩ := HBK.out w1 HB1.out
  have p0 := Lib.cell_of_heap h0 0
  have p1 := Lib.cell_of_heap h0 1
  have p2 := Lib.cell_of_heap h0 2
  have p3 := Lib.cell_of_heap h0 3
  have p4 := Lib.cell_of_heap h0 4
  have f0 := Lib.cell_of_heap h1 0
  have f1 := Lib.cell_of_heap h1 1
  have f2 := Lib.cell_of_heap h1 2
  have f3 := Lib.cell_of_heap h1 3
  clear h0 h1
  have HA := Lib.hid (HAL.out w1 hbb)
  have HBW := Lib.hid hbb
  have HCS := Lib.hid (HSF.out w1 hbb)
  cases V with
  | false =>
    clear p0 p1 p2 p3 p4 f0 f1 f2 f3 hbb
    go_wp2_with fail
    refine HA.out.mono ?_
    rintro e wz ⟨rfl, bz⟩
    have HBZ := Lib.hid (HBW.out.bt bz)
    clear bz
    go_wp2
    go_ret
    exact ⟨rfl, HBZ.out⟩
  | true =>
    go_wp2_with fail
    refine HCS.out.mono ?_
    rintro e w2 ⟨rfl, b2⟩
    have HB2 := Lib.hid (HB1.out.bt b2)
    clear b2 HA HBW HCS
    clear p0 p1 p2 p3 p4 f0 f1 f2 f3 hbb
    obtain ⟨h0, h1, hbb⟩ := HBK.out w2 HB2.out
    have p0 := Lib.cell_of_heap h0 0
    have p1 := Lib.cell_of_heap h0 1
    have p2 := Lib.cell_of_heap h0 2
    have p3 := Lib.cell_of_heap h0 3
    have p4 := Lib.cell_of_heap h0 4
    have f0 := Lib.cell_of_heap h1 0
    have f1 := Lib.cell_of_heap h1 1
    have f2 := Lib.cell_of_heap h1 2
    have f3 := Lib.cell_of_heap h1 3
    clear h0 h1
    have HA := Lib.hid (HAL.out w2 hbb)
    have HBW := Lib.hid hbb
    cases SF with
    | false =>
      clear p0 p1 p2 p3 p4 f0 f1 f2 f3 hbb
      go_wp2_with fail
      refine HA.out.mono ?_
      rintro e wz ⟨rfl, bz⟩
      have HBZ := Lib.hid (HBW.out.bt bz)
      clear bz
      go_wp2
      go_ret
      exact ⟨rfl, HBZ.out⟩
    | true =>
      have D1 := Lib.hid (HPI.out (by trivial) (by trivial))
      have D2 := Lib.hid (HRI.out (by trivial) (by trivial))
      have D3 := Lib.hid (HPD.out (by trivial))
      have D4 := Lib.hid (HRD.out (by trivial))
      have G1 := Lib.hid (HG1.out (by trivial) (by trivial))
      have G2 := Lib.hid (HG2.out (by trivial))
      have DC := Lib.hid (D1.out w2 hbb)
      obtain ⟨⟨i1, v1, k1, l1, rf1⟩, E1⟩ := P1
      obtain ⟨⟨i2, v2, k2, l2, rf2⟩, E2⟩ := P2
      obtain ⟨m1, hm1⟩ : ∃ m, m = rf1.length := ⟨_, rfl⟩
      obtain ⟨m2, hm2⟩ : ∃ m, m = rf2.length := ⟨_, rfl⟩
      have HM1 := Lib.hid hm1
      have HM2 := Lib.hid hm2
      clear HPI HRI HPD HRD HG1 HG2 HVA HSF HA HBW hm1 hm2 hbb
      go_wp2_with fail
      refine DC.out.mono ?_
      rintro e u1 ⟨x1, y1, rfl, hr, bb⟩
      unfold recV5
      simp only at hr ⊢
      rw [← HM1.out]
      have hba : Below u1.heap.size u1 (u1.alloc (recO i1 v1 k1 l1 x1 m1 y1)) := (Below.refl _ _).alloc (Nat.le_refl _) _
      have HB3 := Lib.hid (HB2.out.bt (bb.bt hba))
      have HR1 : Hid (∀ V, Below (u1.alloc (recO i1 v1 k1 l1 x1 m1 y1)).heap.size (u1.alloc (recO i1 v1 k1 l1 x1 m1 y1)) V → V.heap[u1.heap.size]? = some (recO i1 v1 k1 l1 x1 m1 y1) ∧ RcdAt V ⟨⟨i1, v1, k1, l1, rf1⟩, x1, y1⟩) := Lib.hid (fun V h => ⟨(h.block _ (by simp)).trans (alloc_at rfl), RcdAt.below (RcdAt.below hr hba (Nat.le_refl _)) h (Nat.le_refl _)⟩)
      have BC1 := Lib.hid (bb.bt hba)
      clear hr bb hba DC p0 p1 p2 p3 p4 f0 f1 f2 f3
      go_upto_region 4 with fail
      obtain ⟨v1w, hv1w⟩ : ∃ W, W = u1.alloc (recO i1 v1 k1 l1 x1 m1 y1) := ⟨_, rfl⟩
      rw [← hv1w] at HR1 HB3 BC1 ⊢
      obtain ⟨n1, hn1⟩ : ∃ n, n = u1.heap.size := ⟨_, rfl⟩
      rw [← hn1] at HR1 ⊢
      clear hv1w hn1
      obtain ⟨h0, h1, hbb⟩ := HBK.out v1w HB3.out
      have p0 := Lib.cell_of_heap h0 0
      have p1 := Lib.cell_of_heap h0 1
      have p2 := Lib.cell_of_heap h0 2
      have p3 := Lib.cell_of_heap h0 3
      have p4 := Lib.cell_of_heap h0 4
      have f0 := Lib.cell_of_heap h1 0
      have f1 := Lib.cell_of_heap h1 1
      have f2 := Lib.cell_of_heap h1 2
      have f3 := Lib.cell_of_heap h1 3
      clear h0 h1
      have DC := Lib.hid (D2.out v1w hbb)
      clear hbb
      go_wp2_with fail
      refine DC.out.mono ?_
      rintro e u2 ⟨x2, y2, rfl, hr, bb⟩
      unfold recV5
      simp only at hr ⊢
      rw [← HM1.out]
      have hba : Below u2.heap.size u2 (u2.alloc (recO i1 v1 k1 l1 x2 m1 y2)) := (Below.refl _ _).alloc (Nat.le_refl _) _
      have HB4 := Lib.hid (HB3.out.bt (bb.bt hba))
      have HR2 : Hid (∀ V, Below (u2.alloc (recO i1 v1 k1 l1 x2 m1 y2)).heap.size (u2.alloc (recO i1 v1 k1 l1 x2 m1 y2)) V → V.heap[u2.heap.size]? = some (recO i1 v1 k1 l1 x2 m1 y2) ∧ RcdAt V ⟨⟨i1, v1, k1, l1, rf1⟩, x2, y2⟩) := Lib.hid (fun V h => ⟨(h.block _ (by simp)).trans (alloc_at rfl), RcdAt.below (RcdAt.below hr hba (Nat.le_refl _)) h (Nat.le_refl _)⟩)
      have BC2 := Lib.hid (bb.bt hba)
      clear hr bb hba DC p0 p1 p2 p3 p4 f0 f1 f2 f3
      go_upto_region 5 with fail
      obtain ⟨v2w, hv2w⟩ : ∃ W, W = u2.alloc (recO i1 v1 k1 l1 x2 m1 y2) := ⟨_, rfl⟩
      rw [← hv2w] at HR2 HB4 BC2 ⊢
      obtain ⟨n2, hn2⟩ : ∃ n, n = u2.heap.size := ⟨_, rfl⟩
      rw [← hn2] at HR2 ⊢
      clear hv2w hn2
      obtain ⟨h0, h1, hbb⟩ := HBK.out v2w HB4.out
      have p0 := Lib.cell_of_heap h0 0
      have p1 := Lib.cell_of_heap h0 1
      have p2 := Lib.cell_of_heap h0 2
      have p3 := Lib.cell_of_heap h0 3
      have p4 := Lib.cell_of_heap h0 4
      have f0 := Lib.cell_of_heap h1 0
      have f1 := Lib.cell_of_heap h1 1
      have f2 := Lib.cell_of_heap h1 2
      have f3 := Lib.cell_of_heap h1 3
      clear h0 h1
      have DC := Lib.hid (D3.out v2w hbb)
      clear hbb
      go_wp2_with fail
      refine DC.out.mono ?_
      rintro e u3 ⟨x3, y3, rfl, hr, bb⟩
      unfold recV5
      simp only at hr ⊢
      rw [← HM2.out]
      have hba : Below u3.heap.size u3 (u3.alloc (recO i2 v2 k2 l2 x3 m2 y3)) := (Below.refl _ _).alloc (Nat.le_refl _) _
      have HB5 := Lib.hid (HB4.out.bt (bb.bt hba))
      have HR3 : Hid (∀ V, Below (u3.alloc (recO i2 v2 k2 l2 x3 m2 y3)).heap.size (u3.alloc (recO i2 v2 k2 l2 x3 m2 y3)) V → V.heap[u3.heap.size]? = some (recO i2 v2 k2 l2 x3 m2 y3) ∧ RcdAt V ⟨⟨i2, v2, k2, l2, rf2⟩, x3, y3⟩) := Lib.hid (fun V h => ⟨(h.block _ (by simp)).trans (alloc_at rfl), RcdAt.below (RcdAt.below hr hba (Nat.le_refl _)) h (Nat.le_refl _)⟩)
      have BC3 := Lib.hid (bb.bt hba)
      clear hr bb hba DC p0 p1 p2 p3 p4 f0 f1 f2 f3
      go_upto_region 6 with fail
      obtain ⟨v3w, hv3w⟩ : ∃ W, W = u3.alloc (recO i2 v2 k2 l2 x3 m2 y3) := ⟨_, rfl⟩
      rw [← hv3w] at HR3 HB5 BC3 ⊢
      obtain ⟨n3, hn3⟩ : ∃ n, n = u3.heap.size := ⟨_, rfl⟩
      rw [← hn3] at HR3 ⊢
      clear hv3w hn3
      obtain ⟨h0, h1, hbb⟩ := HBK.out v3w HB5.out
      have p0 := Lib.cell_of_heap h0 0
      have p1 := Lib.cell_of_heap h0 1
      have p2 := Lib.cell_of_heap h0 2
      have p3 := Lib.cell_of_heap h0 3
      have p4 := Lib.cell_of_heap h0 4
      have f0 := Lib.cell_of_heap h1 0
      have f1 := Lib.cell_of_heap h1 1
      have f2 := Lib.cell_of_heap h1 2
      have f3 := Lib.cell_of_heap h1 3
      clear h0 h1
      have DC := Lib.hid (D4.out v3w hbb)
      clear hbb
      go_wp2_with fail
      refine DC.out.mono ?_
      rintro e u4 ⟨x4, y4, rfl, hr, bb⟩
      unfold recV5
      simp only at hr ⊢
      rw [← HM2.out]
      have hba : Below u4.heap.size u4 (u4.alloc (recO i2 v2 k2 l2 x4 m2 y4)) := (Below.refl _ _).alloc (Nat.le_refl _) _
      have HB6 := Lib.hid (HB5.out.bt (bb.bt hba))
      have HR4 : Hid (∀ V, Below (u4.alloc (recO i2 v2 k2 l2 x4 m2 y4)).heap.size (u4.alloc (recO i2 v2 k2 l2 x4 m2 y4)) V → V.heap[u4.heap.size]? = some (recO i2 v2 k2 l2 x4 m2 y4) ∧ RcdAt V ⟨⟨i2, v2, k2, l2, rf2⟩, x4, y4⟩) := Lib.hid (fun V h => ⟨(h.block _ (by simp)).trans (alloc_at rfl), RcdAt.below (RcdAt.below hr hba (Nat.le_refl _)) h (Nat.le_refl _)⟩)
      have BC4 := Lib.hid (bb.bt hba)
      clear hr bb hba DC p0 p1 p2 p3 p4 f0 f1 f2 f3
      go_upto_region 7 with fail
      obtain ⟨v4w, hv4w⟩ : ∃ W, W = u4.alloc (recO i2 v2 k2 l2 x4 m2 y4) := ⟨_, rfl⟩
      rw [← hv4w] at HR4 HB6 BC4 ⊢
      obtain ⟨n4, hn4⟩ : ∃ n, n = u4.heap.size := ⟨_, rfl⟩
      rw [← hn4] at HR4 ⊢
      clear hv4w hn4
      have N2 : ∀ V, Below v4w.heap.size v4w V → Below v3w.heap.size v3w V := fun V h => BC4.out.bt h
      have N3 : ∀ V, Below v4w.heap.size v4w V → Below v2w.heap.size v2w V := fun V h => BC3.out.bt (N2 V h)
      have N4 : ∀ V, Below v4w.heap.size v4w V → Below v1w.heap.size v1w V := fun V h => BC2.out.bt (N3 V h)
      have HQ : Hid (∀ V, Below v4w.heap.size v4w V → V.heap[n1]? = some (recO i1 v1 k1 l1 x1 m1 y1) ∧ V.heap[n2]? = some (recO i1 v1 k1 l1 x2 m1 y2) ∧ V.heap[n3]? = some (recO i2 v2 k2 l2 x3 m2 y3) ∧ V.heap[n4]? = some (recO i2 v2 k2 l2 x4 m2 y4)) := Lib.hid (fun V h => ⟨(HR1.out V (N4 V h)).1, (HR2.out V (N3 V h)).1, (HR3.out V (N2 V h)).1, (HR4.out V h).1⟩)
      have S1 : Hid (∀ V, Below v4w.heap.size v4w V → Calls Tryz.prog 15 #[.agg #[.int .i64 i1, .int .i64 v1, .int .i64 k1, .string l1, .slice x1 m1 y1], .agg #[.int .i64 i1, .int .i64 v1, .int .i64 k1, .string l1, .slice x2 m1 y2]] V fun e w' => e = .returned (.bool true) ∧ Below V.heap.size V w') := Lib.hid (fun V h => by
        have := rSameRec ⟨i1, v1, k1, l1, rf1⟩ ⟨i1, v1, k1, l1, rf1⟩ x1 x2 rf1.length y1 rf1.length y2 V (HR1.out V (N4 V h)).2 (HR2.out V (N3 V h)).2 G1.out.1 G1.out.2 G1.out.2
        rw [sameRB_refl, ← HM1.out] at this
        exact this)
      have S2 : Hid (∀ V, Below v4w.heap.size v4w V → Calls Tryz.prog 15 #[.agg #[.int .i64 i2, .int .i64 v2, .int .i64 k2, .string l2, .slice x3 m2 y3], .agg #[.int .i64 i2, .int .i64 v2, .int .i64 k2, .string l2, .slice x4 m2 y4]] V fun e w' => e = .returned (.bool true) ∧ Below V.heap.size V w') := Lib.hid (fun V h => by
        have := rSameRec ⟨i2, v2, k2, l2, rf2⟩ ⟨i2, v2, k2, l2, rf2⟩ x3 x4 rf2.length y3 rf2.length y4 V (HR3.out V (N2 V h)).2 (HR4.out V h).2 G2.out.1 G2.out.2 G2.out.2
        rw [sameRB_refl, ← HM2.out] at this
        exact this)
      have SA : Hid (∀ V, Below v4w.heap.size v4w V → Calls Tryz.prog 11 #[] V fun e w' => e = .returned (.bool true) ∧ Below V.heap.size V w') := Lib.hid (fun V h => HAL.out V (HBK.out V (HB6.out.bt h)).2.2)
      have HFIN : Hid (∀ V, Below v4w.heap.size v4w V → Below w.heap.size w V) := Lib.hid (fun V h => (HBK.out V (HB6.out.bt h)).2.2)
      clear N2 N3 N4 HR1 HR2 HR3 HR4 BC1 BC2 BC3 BC4 HB1 HB2 HB3 HB4 HB5 HB6 D1 D2 D3 D4 G1 G2 HAL HBK HM1 HM2
      obtain ⟨h1, h2, h3, h4⟩ := HQ.out v4w (Below.refl _ _)
      have c10 := Lib.cell_of_heap h1 0
      have c11 := Lib.cell_of_heap h1 1
      have c12 := Lib.cell_of_heap h1 2
      have c13 := Lib.cell_of_heap h1 3
      have c14 := Lib.cell_of_heap h1 4
      have c20 := Lib.cell_of_heap h2 0
      have c21 := Lib.cell_of_heap h2 1
      have c22 := Lib.cell_of_heap h2 2
      have c23 := Lib.cell_of_heap h2 3
      have c24 := Lib.cell_of_heap h2 4
      have c30 := Lib.cell_of_heap h3 0
      have c31 := Lib.cell_of_heap h3 1
      have c32 := Lib.cell_of_heap h3 2
      have c33 := Lib.cell_of_heap h3 3
      have c34 := Lib.cell_of_heap h3 4
      have c40 := Lib.cell_of_heap h4 0
      have c41 := Lib.cell_of_heap h4 1
      have c42 := Lib.cell_of_heap h4 2
      have c43 := Lib.cell_of_heap h4 3
      have c44 := Lib.cell_of_heap h4 4
      clear h1 h2 h3 h4
      have SC := Lib.hid (S1.out v4w (Below.refl _ _))
      go_wp2_with fail
      refine SC.out.mono ?_
      rintro e t1 ⟨rfl, b1⟩
      have HT1 := Lib.hid b1
      clear b1 SC
      clear c10 c11 c12 c13 c14 c20 c21 c22 c23 c24 c30 c31 c32 c33 c34 c40 c41 c42 c43 c44
      obtain ⟨h1, h2, h3, h4⟩ := HQ.out t1 HT1.out
      have c10 := Lib.cell_of_heap h1 0
      have c11 := Lib.cell_of_heap h1 1
      have c12 := Lib.cell_of_heap h1 2
      have c13 := Lib.cell_of_heap h1 3
      have c14 := Lib.cell_of_heap h1 4
      have c20 := Lib.cell_of_heap h2 0
      have c21 := Lib.cell_of_heap h2 1
      have c22 := Lib.cell_of_heap h2 2
      have c23 := Lib.cell_of_heap h2 3
      have c24 := Lib.cell_of_heap h2 4
      have c30 := Lib.cell_of_heap h3 0
      have c31 := Lib.cell_of_heap h3 1
      have c32 := Lib.cell_of_heap h3 2
      have c33 := Lib.cell_of_heap h3 3
      have c34 := Lib.cell_of_heap h3 4
      have c40 := Lib.cell_of_heap h4 0
      have c41 := Lib.cell_of_heap h4 1
      have c42 := Lib.cell_of_heap h4 2
      have c43 := Lib.cell_of_heap h4 3
      have c44 := Lib.cell_of_heap h4 4
      clear h1 h2 h3 h4
      have SC := Lib.hid (S2.out t1 HT1.out)
      go_wp2_with fail
      refine SC.out.mono ?_
      rintro e t2 ⟨rfl, b2⟩
      have HT2 := Lib.hid (HT1.out.bt b2)
      clear b2 SC
      clear c10 c11 c12 c13 c14 c20 c21 c22 c23 c24 c30 c31 c32 c33 c34 c40 c41 c42 c43 c44
      have SC := Lib.hid (SA.out t2 HT2.out)
      go_wp2_with fail
      refine SC.out.mono ?_
      rintro e t3 ⟨rfl, b3⟩
      have HT3 := Lib.hid (HT2.out.bt b3)
      clear b3 SC
      go_wp2
      go_ret
      exact ⟨rfl, HFIN.out t3 HT3.out⟩
end Go.Proofs.YtkfjeolpbopcnaaGreatDoor
