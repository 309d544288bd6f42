/- The walk of the reference's Insert (layer 08). -/
import Derived.Test.YtkfjeolpbopcnaaGreatDoorEc
import Derived.Test.YtkfjeolpbopcnaaGreatDoorMfx
namespace Go.Proofs.YtkfjeolpbopcnaaGreatDoor
open Go Go.RowKit

set_option maxRecDepth 100000 in
set_option maxHeartbeats 8000000 in
theorem rInsert (x : Rcd) (i : Int) (f : Fld) (w : World) (hx : RcdAt w x) (hf : FldAt w f) (hs : f.small) (hl : x.r.fields.length ≤ 900) :
    Calls Tryz.prog 22 #[recV5 x, .int .i64 i, fldV f] w (RetR w (insR x.r i f)) := by
  have HFR : Hid (∀ W, Below w.heap.size w W → Calls Tryz.prog 40 #[fldV f] W fun e w' => e = .returned (.int .i64 (fldErr f)) ∧ Below W.heap.size W w') := Lib.hid (fun W h => rFldRight f W (hf.below h (Nat.le_refl _)) hs)
  have HFL : Hid (∀ W, Below w.heap.size w W → Flds W (.slice x.sa x.r.fields.length x.sc) x.r.fields) := Lib.hid (fun W h => Flds.below hx h (Nat.le_refl _))
  have HFF : Hid (∀ W, Below w.heap.size w W → FldAt W f) := Lib.hid (fun W h => hf.below h (Nat.le_refl _))
  obtain ⟨P, hP⟩ : ∃ P, P = insR x.r i f := ⟨_, rfl⟩
  rw [← hP]
  unfold insR withL at hP
  unfold recV5
  obtain ⟨⟨id, ver, kind, lang, rf⟩, ra, rc⟩ := x
  simp only at HFL hP hl ⊢
  obtain ⟨rn, hrn⟩ : ∃ n, n = rf.length := ⟨_, rfl⟩
  rw [← hrn] at HFL hP hl ⊢
  have HRN := Lib.hid hrn
  obtain ⟨E, hE2⟩ : ∃ E, E = fldErr f := ⟨_, rfl⟩
  rw [← hE2] at hP HFR
  unfold fldV at HFR ⊢
  have HONE : Hid (∀ (W : World) (g : Nat) (T I : ByteArray) (sn : Nat), T = lb f.tag → I = lb f.ind → sn = f.subs.length → W.heap[g]? = some (.cells #[.string T, .string I, .slice f.sa sn f.sc, .int .i64 f.auth] 35 (0, 0)) → ∀ ad, some (⟨g, 0, none⟩ : Addr) = some ad → ∀ j u, (flatE fldE [f])[j]? = some u → W.cell? (ad.add j) = some u) := Lib.hid (fun W g T I sn hT hI hs hg ad e j u hj => by
    cases e
    subst hT hI hs
    exact cells_fld (f := f) (four_of (fun i u hi => by rw [Nat.zero_add, Lib.cell_of_heap hg]; simpa [fldE] using hi)) j u hj)
  obtain ⟨T, hT⟩ : ∃ T, T = lb f.tag := ⟨_, rfl⟩
  obtain ⟨I, hI⟩ : ∃ I, I = lb f.ind := ⟨_, rfl⟩
  obtain ⟨sn, hsn⟩ : ∃ n, n = f.subs.length := ⟨_, rfl⟩
  rw [← hT, ← hI, ← hsn] at HFR ⊢
  have HTT := Lib.hid hT
  have HII := Lib.hid hI
  have HSN := Lib.hid hsn
  obtain ⟨k0, k1, k2, kb, ks⟩ := insW_blocks w id ver kind lang ra rn rc T I f.sa sn f.sc f.auth
  have H0 := Lib.hid k0
  have H1 := Lib.hid k1
  have H2 := Lib.hid k2
  have HB0 := Lib.hid kb
  have HS := Lib.hid ks
  clear hx hrn hf hs hE2 hT hI hsn k0 k1 k2 kb ks
  by_cases hneg : i < 0 ∨ (rn : Int) < i
  · rw [if_pos hneg] at hP
    have HP := Lib.hid hP
    have d0 := Lib.cell_of_heap H0.out 4
    have q0 := Lib.cell_of_heap H2.out 0
    have g0 := Lib.frozen_of_heap H2.out 0
    have q1 := Lib.cell_of_heap H2.out 1
    have g1 := Lib.frozen_of_heap H2.out 1
    have q2 := Lib.cell_of_heap H2.out 2
    have g2 := Lib.frozen_of_heap H2.out 2
    have q3 := Lib.cell_of_heap H2.out 3
    have g3 := Lib.frozen_of_heap H2.out 3
    have q4 := Lib.cell_of_heap H2.out 4
    have g4 := Lib.frozen_of_heap H2.out 4
    clear hP
    have hcase : (i < 0) ∨ (¬ i < 0 ∧ (rn : Int) < i) := by omega
    rcases hcase with h1 | ⟨h1, h2⟩
    all_goals
      clear hneg
      go_enter Tryz.func22, Tryz.ntmps22
      go_wp2
      (try simp only [Exit.inBlock, Exit.then])
      exact ret_at (r := rec0) (sa := none) (n := 0) (sc := 0) rfl rfl rfl rfl H2.out HB0.out (rcd_zero _) HP.out
  · rw [if_neg hneg] at hP
    obtain ⟨k, rfl⟩ : ∃ k : Nat, i = (k : Int) := ⟨i.toNat, by omega⟩
    have hk : k ≤ rn := by omega
    have hkz : ¬ (rn : Int) < (k : Int) := by omega
    rw [Int.toNat_natCast] at hP
    have HP0 := Lib.hid hP
    have d4 := Lib.cell_of_heap H0.out 4
    have r0 := Lib.cell_of_heap H1.out 0
    have r1 := Lib.cell_of_heap H1.out 1
    have r2 := Lib.cell_of_heap H1.out 2
    have r3 := Lib.cell_of_heap H1.out 3
    clear hP hneg
    go_enter Tryz.func22, Tryz.ntmps22
    go_wp2_with fail
    refine (HFR.out _ HB0.out).mono ?_
    rintro e w1 ⟨rfl, b1⟩
    have HB1 : Hid (Below w.heap.size w w1) := Lib.hid (HB0.out.bt b1)
    have h0 : w1.heap[w.heap.size]? = some (recO id ver kind lang ra rn rc) := (b1.block _ (by rw [HS.out]; omega)).trans H0.out
    have h1 : w1.heap[w.heap.size + 1]? = some (fldO T I f.sa sn f.sc f.auth) := (b1.block _ (by rw [HS.out]; omega)).trans H1.out
    have h2 : w1.heap[w.heap.size + 2]? = some (recO 0 0 0 ⟨#[]⟩ none 0 0) := (b1.block _ (by rw [HS.out]; omega)).trans H2.out
    have hz : w.heap.size + 3 ≤ w1.heap.size := by have := b1.size; have := HS.out; omega
    have K0 := Lib.hid h0
    have K1 := Lib.hid h1
    have K2 := Lib.hid h2
    have HZ := Lib.hid hz
    clear b1 d4 r0 r1 r2 r3 H0 H1 H2
    have d4 := Lib.cell_of_heap h0 4
    have q0 := Lib.cell_of_heap h2 0
    have g0 := Lib.frozen_of_heap h2 0
    have q1 := Lib.cell_of_heap h2 1
    have g1 := Lib.frozen_of_heap h2 1
    have q2 := Lib.cell_of_heap h2 2
    have g2 := Lib.frozen_of_heap h2 2
    have q3 := Lib.cell_of_heap h2 3
    have g3 := Lib.frozen_of_heap h2 3
    have q4 := Lib.cell_of_heap h2 4
    have g4 := Lib.frozen_of_heap h2 4
    clear h0 h1 h2 hz
    by_cases hE0 : E = 0
    · subst hE0
      by_cases h64 : 64 ≤ rn
      · have hz64 : (64 : Int) ≤ (rn : Int) := by omega
        have HP : Hid (P = (rec0, 13)) := Lib.hid (by rw [HP0.out, if_neg (by simp), if_pos h64])
        clear h64
        go_wp2
        (try simp only [Exit.inBlock, Exit.then])
        have hgg := putR_heap K2.out rfl 0 0 0 ⟨#[]⟩ (.slice none 0 0)
        exact ret_at (W := putR w1 (w.heap.size + 2) 0 0 0 ⟨#[]⟩ (.slice none 0 0)) (r := rec0) (sa := none) (n := 0) (sc := 0) rfl rfl rfl rfl hgg (putR_below HB1.out (by omega) _ _ _ _ _) (rcd_zero _) HP.out
      · have hz64 : ¬ (64 : Int) ≤ (rn : Int) := by omega
        have HP : Hid (P = (⟨id, ver, kind, lang, rf.take k ++ f :: rf.drop k⟩, 0)) := Lib.hid (by rw [HP0.out, if_neg (by simp), if_neg h64])
        clear h64 q0 g0 q1 g1 q2 g2 q3 g3 q4 g4 HP0
        have hbm : Below w.heap.size w (w1.alloc (.cells #[] 35)) := HB1.out.alloc (by have := HZ.out; omega) _
        have HBM := Lib.hid hbm
        clear hbm
        by_cases hrn0 : rn = 0
        · have HNIL : Hid (rf = []) := Lib.hid (List.length_eq_zero_iff.1 (by have := HRN.out; omega))
          obtain rfl : k = 0 := by omega
          subst hrn0
          cases ra with
          | none =>
            clear d4
            have d4 := Lib.cell_of_heap K0.out 4
            have e4 : (w1.alloc (.cells #[] 35)).cell? ⟨w.heap.size, 4, none⟩ = some (.slice none 0 rc) := Lib.cell?_alloc_some _ ((Lib.cell_of_heap K0.out 4).trans rfl)
            go_wp2_with (at_builtin; refine append_rows rfl _ _ rfl (w.heap.size + 3) (.slice (some ⟨w1.heap.size, 0, none⟩) 0 0) [] rfl (OwnR.made _ _ _ rfl HZ.out) _ _ _ (rf.take 0) rfl (by rw [List.length_take]; have := HRN.out; omega) (fun _ => by rw [HNIL.out]; rfl) (fun _ _ j u hj => by rw [HNIL.out] at hj; simp [flatE] at hj) (by simp only [List.length_nil]; omega) (by simp only [World.size_alloc]; have := HZ.out; omega) ?_)
            intro v1 wa ho1 ba
            have HO1 : Hid (OwnR wa (w.heap.size + 3) v1 (rf.take 0)) := Lib.hid ho1
            have HBX : Hid (Below w.heap.size w wa) := Lib.hid (HBM.out.trans (ba.mono (by omega)))
            have h0 : wa.heap[w.heap.size]? = some (recO id ver kind lang none 0 rc) := (ba.block _ (by omega)).trans ((alloc_old (by have := HZ.out; omega)).trans K0.out)
            have h1 : wa.heap[w.heap.size + 1]? = some (fldO T I f.sa sn f.sc f.auth) := (ba.block _ (by omega)).trans ((alloc_old (by have := HZ.out; omega)).trans K1.out)
            have h2 : wa.heap[w.heap.size + 2]? = some (recO 0 0 0 ⟨#[]⟩ none 0 0) := (ba.block _ (by omega)).trans ((alloc_old (by have := HZ.out; omega)).trans K2.out)
            have hz : w.heap.size + 3 ≤ wa.heap.size := by have := ba.size; simp only [World.size_alloc] at this; have := HZ.out; omega
            have A0 := Lib.hid h0
            have A1 := Lib.hid h1
            have A2 := Lib.hid h2
            have AZ := Lib.hid hz
            clear ho1 ba h0 h1 h2 hz d4 e4 K0 K1 K2 HBM
            have r0 := Lib.cell_of_heap A1.out 0
            have r1 := Lib.cell_of_heap A1.out 1
            have r2 := Lib.cell_of_heap A1.out 2
            have r3 := Lib.cell_of_heap A1.out 3
            go_wp2_with (at_builtin; refine append_rows rfl _ _ rfl (w.heap.size + 3) v1 (rf.take 0) rfl (own_below HO1.out ((Below.refl _ _).alloc (Nat.le_refl _) _)) (some ⟨wa.heap.size, 0, none⟩) 1 1 [f] rfl rfl (by intro e; cases e) (HONE.out _ _ T I sn HTT.out HII.out HSN.out (alloc_at rfl)) (by rw [List.length_take]; omega) (by simp only [World.size_alloc]; have := AZ.out; omega) ?_)
            intro v2 wb ho2 bb
            have HO2 : Hid (OwnR wb (w.heap.size + 3) v2 (rf.take 0 ++ [f])) := Lib.hid ho2
            have HBB : Hid (Below w.heap.size w wb) := Lib.hid ((HBX.out.alloc (by have := AZ.out; omega) _).trans (bb.mono (by omega)))
            have h0 : wb.heap[w.heap.size]? = some (recO id ver kind lang none 0 rc) := (bb.block _ (by omega)).trans ((alloc_old (by have := AZ.out; omega)).trans A0.out)
            have h2 : wb.heap[w.heap.size + 2]? = some (recO 0 0 0 ⟨#[]⟩ none 0 0) := (bb.block _ (by omega)).trans ((alloc_old (by have := AZ.out; omega)).trans A2.out)
            have hz : w.heap.size + 3 ≤ wb.heap.size := by have := bb.size; simp only [World.size_alloc] at this; have := AZ.out; omega
            have B0 := Lib.hid h0
            have B2 := Lib.hid h2
            have BZ := Lib.hid hz
            clear ho2 bb h0 h2 hz r0 r1 r2 r3 A0 A1 A2
            have d4 := Lib.cell_of_heap B0.out 4
            go_wp2_with (at_builtin; refine append_rows rfl _ _ rfl (w.heap.size + 3) v2 (rf.take 0 ++ [f]) rfl HO2.out _ _ _ (rf.drop 0) rfl (by rw [List.length_drop]; have := HRN.out; omega) (fun _ => by rw [HNIL.out]; rfl) (fun _ _ j u hj => by rw [HNIL.out] at hj; simp [flatE] at hj) (by rw [List.length_append, List.length_take, List.length_singleton]; omega) BZ.out ?_)
            intro v3 wc ho3 bc
            have ho3 : OwnR wc (w.heap.size + 3) v3 (rf.take 0 ++ f :: rf.drop 0) := by simpa using ho3
            have hlen : (rf.take 0 ++ f :: rf.drop 0).length = (0 + 1) := by rw [List.length_append, List.length_cons, List.length_take, List.length_drop]; have := HRN.out; omega
            obtain ⟨va, vc, rfl, -⟩ := (Rows.of_own fldE_len ho3 rfl).shape
            rw [hlen]
            have HO3 : Hid (OwnR wc (w.heap.size + 3) (.slice va (rf.take 0 ++ f :: rf.drop 0).length vc) (rf.take 0 ++ f :: rf.drop 0)) := Lib.hid ho3
            have HBC : Hid (Below w.heap.size w wc) := Lib.hid (HBB.out.trans (bc.mono (by omega)))
            have h0 : wc.heap[w.heap.size]? = some (recO id ver kind lang none 0 rc) := (bc.block _ (by omega)).trans B0.out
            have h2 : wc.heap[w.heap.size + 2]? = some (recO 0 0 0 ⟨#[]⟩ none 0 0) := (bc.block _ (by omega)).trans B2.out
            have hz : w.heap.size + 3 ≤ wc.heap.size := by have := bc.size; have := BZ.out; omega
            have C2 := Lib.hid h2
            have CZ := Lib.hid hz
            have HLEN := Lib.hid hlen
            have d0 := Lib.cell_of_heap h0 0
            have d1 := Lib.cell_of_heap h0 1
            have d2 := Lib.cell_of_heap h0 2
            have d3 := Lib.cell_of_heap h0 3
            have d5 := Lib.cell_of_heap h0 4
            have HW := Lib.hid (rWith id ver kind lang none 0 rc va (0 + 1) vc wc)
            clear ho3 bc hlen h0 h2 hz d4 B0 B2
            go_wp2_with fail
            refine HW.out.mono ?_
            rintro e wd ⟨rfl, bd⟩
            have h2 : wd.heap[w.heap.size + 2]? = some (recO 0 0 0 ⟨#[]⟩ none 0 0) := (bd.block _ (by have := CZ.out; omega)).trans C2.out
            have HBD : Hid (Below w.heap.size w wd) := Lib.hid (HBC.out.bt bd)
            have HO4 : Hid (OwnR wd (w.heap.size + 3) (.slice va (rf.take 0 ++ f :: rf.drop 0).length vc) (rf.take 0 ++ f :: rf.drop 0)) := Lib.hid (own_below HO3.out bd)
            have q0 := Lib.cell_of_heap h2 0
            have g0 := Lib.frozen_of_heap h2 0
            have q1 := Lib.cell_of_heap h2 1
            have g1 := Lib.frozen_of_heap h2 1
            have q2 := Lib.cell_of_heap h2 2
            have g2 := Lib.frozen_of_heap h2 2
            have q3 := Lib.cell_of_heap h2 3
            have g3 := Lib.frozen_of_heap h2 3
            have q4 := Lib.cell_of_heap h2 4
            have g4 := Lib.frozen_of_heap h2 4
            have D2 := Lib.hid h2
            clear h2 bd d0 d1 d2 d3 d5
            go_wp2
            (try simp only [Exit.inBlock, Exit.then])
            have hgg := putR_heap D2.out rfl id ver kind lang (.slice va (0 + 1) vc)
            have hbf : Below w.heap.size w (putR wd (w.heap.size + 2) id ver kind lang (.slice va (0 + 1) vc)) := putR_below HBD.out (by omega) _ _ _ _ _
            refine ret_at (W := putR wd (w.heap.size + 2) id ver kind lang (.slice va (0 + 1) vc)) (r := ⟨id, ver, kind, lang, (rf.take 0 ++ f :: rf.drop 0)⟩) (sa := va) (n := (0 + 1)) (sc := vc) rfl HLEN.out.symm rfl rfl hgg hbf ?_ HP.out
            refine ⟨?_, fun f' hf' => ?_⟩
            · exact Rows.of_own fldE_len (own_keep HO4.out (fun b hb => putR_other _ _ _ _ _ _ (by omega))) rfl
            · have hm : f' = f ∨ f' ∈ rf := by
                rcases List.mem_append.1 hf' with h | h
                · exact .inr (List.mem_of_mem_take h)
                · rcases List.mem_cons.1 h with h | h
                  · exact .inl h
                  · exact .inr (List.mem_of_mem_drop h)
              rcases hm with rfl | hm
              · exact HFF.out _ hbf
              · exact (HFL.out _ hbf).2 f' hm
          | some ad =>
            by_cases hcap : rc = 0
            · subst hcap
              clear d4
              have d4 := Lib.cell_of_heap K0.out 4
              have e4 : (w1.alloc (.cells #[] 35)).cell? ⟨w.heap.size, 4, none⟩ = some (.slice (some ad) 0 0) := Lib.cell?_alloc_some _ ((Lib.cell_of_heap K0.out 4).trans rfl)
              go_wp2_with (at_builtin; refine append_rows rfl _ _ rfl (w.heap.size + 3) (.slice (some ⟨w1.heap.size, 0, none⟩) 0 0) [] rfl (OwnR.made _ _ _ rfl HZ.out) _ _ _ (rf.take 0) rfl (by rw [List.length_take]; have := HRN.out; omega) (fun _ => by rw [HNIL.out]; rfl) (fun _ _ j u hj => by rw [HNIL.out] at hj; simp [flatE] at hj) (by simp only [List.length_nil]; omega) (by simp only [World.size_alloc]; have := HZ.out; omega) ?_)
              intro v1 wa ho1 ba
              have HO1 : Hid (OwnR wa (w.heap.size + 3) v1 (rf.take 0)) := Lib.hid ho1
              have HBX : Hid (Below w.heap.size w wa) := Lib.hid (HBM.out.trans (ba.mono (by omega)))
              have h0 : wa.heap[w.heap.size]? = some (recO id ver kind lang (some ad) 0 0) := (ba.block _ (by omega)).trans ((alloc_old (by have := HZ.out; omega)).trans K0.out)
              have h1 : wa.heap[w.heap.size + 1]? = some (fldO T I f.sa sn f.sc f.auth) := (ba.block _ (by omega)).trans ((alloc_old (by have := HZ.out; omega)).trans K1.out)
              have h2 : wa.heap[w.heap.size + 2]? = some (recO 0 0 0 ⟨#[]⟩ none 0 0) := (ba.block _ (by omega)).trans ((alloc_old (by have := HZ.out; omega)).trans K2.out)
              have hz : w.heap.size + 3 ≤ wa.heap.size := by have := ba.size; simp only [World.size_alloc] at this; have := HZ.out; omega
              have A0 := Lib.hid h0
              have A1 := Lib.hid h1
              have A2 := Lib.hid h2
              have AZ := Lib.hid hz
              clear ho1 ba h0 h1 h2 hz d4 e4 K0 K1 K2 HBM
              have r0 := Lib.cell_of_heap A1.out 0
              have r1 := Lib.cell_of_heap A1.out 1
              have r2 := Lib.cell_of_heap A1.out 2
              have r3 := Lib.cell_of_heap A1.out 3
              go_wp2_with (at_builtin; refine append_rows rfl _ _ rfl (w.heap.size + 3) v1 (rf.take 0) rfl (own_below HO1.out ((Below.refl _ _).alloc (Nat.le_refl _) _)) (some ⟨wa.heap.size, 0, none⟩) 1 1 [f] rfl rfl (by intro e; cases e) (HONE.out _ _ T I sn HTT.out HII.out HSN.out (alloc_at rfl)) (by rw [List.length_take]; omega) (by simp only [World.size_alloc]; have := AZ.out; omega) ?_)
              intro v2 wb ho2 bb
              have HO2 : Hid (OwnR wb (w.heap.size + 3) v2 (rf.take 0 ++ [f])) := Lib.hid ho2
              have HBB : Hid (Below w.heap.size w wb) := Lib.hid ((HBX.out.alloc (by have := AZ.out; omega) _).trans (bb.mono (by omega)))
              have h0 : wb.heap[w.heap.size]? = some (recO id ver kind lang (some ad) 0 0) := (bb.block _ (by omega)).trans ((alloc_old (by have := AZ.out; omega)).trans A0.out)
              have h2 : wb.heap[w.heap.size + 2]? = some (recO 0 0 0 ⟨#[]⟩ none 0 0) := (bb.block _ (by omega)).trans ((alloc_old (by have := AZ.out; omega)).trans A2.out)
              have hz : w.heap.size + 3 ≤ wb.heap.size := by have := bb.size; simp only [World.size_alloc] at this; have := AZ.out; omega
              have B0 := Lib.hid h0
              have B2 := Lib.hid h2
              have BZ := Lib.hid hz
              clear ho2 bb h0 h2 hz r0 r1 r2 r3 A0 A1 A2
              have d4 := Lib.cell_of_heap B0.out 4
              go_wp2_with (at_builtin; refine append_rows rfl _ _ rfl (w.heap.size + 3) v2 (rf.take 0 ++ [f]) rfl HO2.out _ _ _ (rf.drop 0) rfl (by rw [List.length_drop]; have := HRN.out; omega) (fun _ => by rw [HNIL.out]; rfl) (fun _ _ j u hj => by rw [HNIL.out] at hj; simp [flatE] at hj) (by rw [List.length_append, List.length_take, List.length_singleton]; omega) BZ.out ?_)
              intro v3 wc ho3 bc
              have ho3 : OwnR wc (w.heap.size + 3) v3 (rf.take 0 ++ f :: rf.drop 0) := by simpa using ho3
              have hlen : (rf.take 0 ++ f :: rf.drop 0).length = (0 + 1) := by rw [List.length_append, List.length_cons, List.length_take, List.length_drop]; have := HRN.out; omega
              obtain ⟨va, vc, rfl, -⟩ := (Rows.of_own fldE_len ho3 rfl).shape
              rw [hlen]
              have HO3 : Hid (OwnR wc (w.heap.size + 3) (.slice va (rf.take 0 ++ f :: rf.drop 0).length vc) (rf.take 0 ++ f :: rf.drop 0)) := Lib.hid ho3
              have HBC : Hid (Below w.heap.size w wc) := Lib.hid (HBB.out.trans (bc.mono (by omega)))
              have h0 : wc.heap[w.heap.size]? = some (recO id ver kind lang (some ad) 0 0) := (bc.block _ (by omega)).trans B0.out
              have h2 : wc.heap[w.heap.size + 2]? = some (recO 0 0 0 ⟨#[]⟩ none 0 0) := (bc.block _ (by omega)).trans B2.out
              have hz : w.heap.size + 3 ≤ wc.heap.size := by have := bc.size; have := BZ.out; omega
              have C2 := Lib.hid h2
              have CZ := Lib.hid hz
              have HLEN := Lib.hid hlen
              have d0 := Lib.cell_of_heap h0 0
              have d1 := Lib.cell_of_heap h0 1
              have d2 := Lib.cell_of_heap h0 2
              have d3 := Lib.cell_of_heap h0 3
              have d5 := Lib.cell_of_heap h0 4
              have HW := Lib.hid (rWith id ver kind lang (some ad) 0 0 va (0 + 1) vc wc)
              clear ho3 bc hlen h0 h2 hz d4 B0 B2
              go_wp2_with fail
              refine HW.out.mono ?_
              rintro e wd ⟨rfl, bd⟩
              have h2 : wd.heap[w.heap.size + 2]? = some (recO 0 0 0 ⟨#[]⟩ none 0 0) := (bd.block _ (by have := CZ.out; omega)).trans C2.out
              have HBD : Hid (Below w.heap.size w wd) := Lib.hid (HBC.out.bt bd)
              have HO4 : Hid (OwnR wd (w.heap.size + 3) (.slice va (rf.take 0 ++ f :: rf.drop 0).length vc) (rf.take 0 ++ f :: rf.drop 0)) := Lib.hid (own_below HO3.out bd)
              have q0 := Lib.cell_of_heap h2 0
              have g0 := Lib.frozen_of_heap h2 0
              have q1 := Lib.cell_of_heap h2 1
              have g1 := Lib.frozen_of_heap h2 1
              have q2 := Lib.cell_of_heap h2 2
              have g2 := Lib.frozen_of_heap h2 2
              have q3 := Lib.cell_of_heap h2 3
              have g3 := Lib.frozen_of_heap h2 3
              have q4 := Lib.cell_of_heap h2 4
              have g4 := Lib.frozen_of_heap h2 4
              have D2 := Lib.hid h2
              clear h2 bd d0 d1 d2 d3 d5
              go_wp2
              (try simp only [Exit.inBlock, Exit.then])
              have hgg := putR_heap D2.out rfl id ver kind lang (.slice va (0 + 1) vc)
              have hbf : Below w.heap.size w (putR wd (w.heap.size + 2) id ver kind lang (.slice va (0 + 1) vc)) := putR_below HBD.out (by omega) _ _ _ _ _
              refine ret_at (W := putR wd (w.heap.size + 2) id ver kind lang (.slice va (0 + 1) vc)) (r := ⟨id, ver, kind, lang, (rf.take 0 ++ f :: rf.drop 0)⟩) (sa := va) (n := (0 + 1)) (sc := vc) rfl HLEN.out.symm rfl rfl hgg hbf ?_ HP.out
              refine ⟨?_, fun f' hf' => ?_⟩
              · exact Rows.of_own fldE_len (own_keep HO4.out (fun b hb => putR_other _ _ _ _ _ _ (by omega))) rfl
              · have hm : f' = f ∨ f' ∈ rf := by
                  rcases List.mem_append.1 hf' with h | h
                  · exact .inr (List.mem_of_mem_take h)
                  · rcases List.mem_cons.1 h with h | h
                    · exact .inl h
                    · exact .inr (List.mem_of_mem_drop h)
                rcases hm with rfl | hm
                · exact HFF.out _ hbf
                · exact (HFL.out _ hbf).2 f' hm
            · have hcp : 0 < rc := by omega
              clear d4
              have d4 := Lib.cell_of_heap K0.out 4
              have e4 : (w1.alloc (.cells #[] 35)).cell? ⟨w.heap.size, 4, none⟩ = some (.slice (some ad) 0 rc) := Lib.cell?_alloc_some _ ((Lib.cell_of_heap K0.out 4).trans rfl)
              go_wp2_with (at_builtin; refine append_rows rfl _ _ rfl (w.heap.size + 3) (.slice (some ⟨w1.heap.size, 0, none⟩) 0 0) [] rfl (OwnR.made _ _ _ rfl HZ.out) _ _ _ (rf.take 0) rfl (by rw [List.length_take]; have := HRN.out; omega) (fun _ => by rw [HNIL.out]; rfl) (fun _ _ j u hj => by rw [HNIL.out] at hj; simp [flatE] at hj) (by simp only [List.length_nil]; omega) (by simp only [World.size_alloc]; have := HZ.out; omega) ?_)
              intro v1 wa ho1 ba
              have HO1 : Hid (OwnR wa (w.heap.size + 3) v1 (rf.take 0)) := Lib.hid ho1
              have HBX : Hid (Below w.heap.size w wa) := Lib.hid (HBM.out.trans (ba.mono (by omega)))
              have h0 : wa.heap[w.heap.size]? = some (recO id ver kind lang (some ad) 0 rc) := (ba.block _ (by omega)).trans ((alloc_old (by have := HZ.out; omega)).trans K0.out)
              have h1 : wa.heap[w.heap.size + 1]? = some (fldO T I f.sa sn f.sc f.auth) := (ba.block _ (by omega)).trans ((alloc_old (by have := HZ.out; omega)).trans K1.out)
              have h2 : wa.heap[w.heap.size + 2]? = some (recO 0 0 0 ⟨#[]⟩ none 0 0) := (ba.block _ (by omega)).trans ((alloc_old (by have := HZ.out; omega)).trans K2.out)
              have hz : w.heap.size + 3 ≤ wa.heap.size := by have := ba.size; simp only [World.size_alloc] at this; have := HZ.out; omega
              have A0 := Lib.hid h0
              have A1 := Lib.hid h1
              have A2 := Lib.hid h2
              have AZ := Lib.hid hz
              clear ho1 ba h0 h1 h2 hz d4 e4 K0 K1 K2 HBM
              have r0 := Lib.cell_of_heap A1.out 0
              have r1 := Lib.cell_of_heap A1.out 1
              have r2 := Lib.cell_of_heap A1.out 2
              have r3 := Lib.cell_of_heap A1.out 3
              go_wp2_with (at_builtin; refine append_rows rfl _ _ rfl (w.heap.size + 3) v1 (rf.take 0) rfl (own_below HO1.out ((Below.refl _ _).alloc (Nat.le_refl _) _)) (some ⟨wa.heap.size, 0, none⟩) 1 1 [f] rfl rfl (by intro e; cases e) (HONE.out _ _ T I sn HTT.out HII.out HSN.out (alloc_at rfl)) (by rw [List.length_take]; omega) (by simp only [World.size_alloc]; have := AZ.out; omega) ?_)
              intro v2 wb ho2 bb
              have HO2 : Hid (OwnR wb (w.heap.size + 3) v2 (rf.take 0 ++ [f])) := Lib.hid ho2
              have HBB : Hid (Below w.heap.size w wb) := Lib.hid ((HBX.out.alloc (by have := AZ.out; omega) _).trans (bb.mono (by omega)))
              have h0 : wb.heap[w.heap.size]? = some (recO id ver kind lang (some ad) 0 rc) := (bb.block _ (by omega)).trans ((alloc_old (by have := AZ.out; omega)).trans A0.out)
              have h2 : wb.heap[w.heap.size + 2]? = some (recO 0 0 0 ⟨#[]⟩ none 0 0) := (bb.block _ (by omega)).trans ((alloc_old (by have := AZ.out; omega)).trans A2.out)
              have hz : w.heap.size + 3 ≤ wb.heap.size := by have := bb.size; simp only [World.size_alloc] at this; have := AZ.out; omega
              have B0 := Lib.hid h0
              have B2 := Lib.hid h2
              have BZ := Lib.hid hz
              clear ho2 bb h0 h2 hz r0 r1 r2 r3 A0 A1 A2
              have d4 := Lib.cell_of_heap B0.out 4
              go_wp2_with (at_builtin; refine append_rows rfl _ _ rfl (w.heap.size + 3) v2 (rf.take 0 ++ [f]) rfl HO2.out _ _ _ (rf.drop 0) rfl (by rw [List.length_drop]; have := HRN.out; omega) (fun _ => by rw [HNIL.out]; rfl) (fun _ _ j u hj => by rw [HNIL.out] at hj; simp [flatE] at hj) (by rw [List.length_append, List.length_take, List.length_singleton]; omega) BZ.out ?_)
              intro v3 wc ho3 bc
              have ho3 : OwnR wc (w.heap.size + 3) v3 (rf.take 0 ++ f :: rf.drop 0) := by simpa using ho3
              have hlen : (rf.take 0 ++ f :: rf.drop 0).length = (0 + 1) := by rw [List.length_append, List.length_cons, List.length_take, List.length_drop]; have := HRN.out; omega
              obtain ⟨va, vc, rfl, -⟩ := (Rows.of_own fldE_len ho3 rfl).shape
              rw [hlen]
              have HO3 : Hid (OwnR wc (w.heap.size + 3) (.slice va (rf.take 0 ++ f :: rf.drop 0).length vc) (rf.take 0 ++ f :: rf.drop 0)) := Lib.hid ho3
              have HBC : Hid (Below w.heap.size w wc) := Lib.hid (HBB.out.trans (bc.mono (by omega)))
              have h0 : wc.heap[w.heap.size]? = some (recO id ver kind lang (some ad) 0 rc) := (bc.block _ (by omega)).trans B0.out
              have h2 : wc.heap[w.heap.size + 2]? = some (recO 0 0 0 ⟨#[]⟩ none 0 0) := (bc.block _ (by omega)).trans B2.out
              have hz : w.heap.size + 3 ≤ wc.heap.size := by have := bc.size; have := BZ.out; omega
              have C2 := Lib.hid h2
              have CZ := Lib.hid hz
              have HLEN := Lib.hid hlen
              have d0 := Lib.cell_of_heap h0 0
              have d1 := Lib.cell_of_heap h0 1
              have d2 := Lib.cell_of_heap h0 2
              have d3 := Lib.cell_of_heap h0 3
              have d5 := Lib.cell_of_heap h0 4
              have HW := Lib.hid (rWith id ver kind lang (some ad) 0 rc va (0 + 1) vc wc)
              clear ho3 bc hlen h0 h2 hz d4 B0 B2
              go_wp2_with fail
              refine HW.out.mono ?_
              rintro e wd ⟨rfl, bd⟩
              have h2 : wd.heap[w.heap.size + 2]? = some (recO 0 0 0 ⟨#[]⟩ none 0 0) := (bd.block _ (by have := CZ.out; omega)).trans C2.out
              have HBD : Hid (Below w.heap.size w wd) := Lib.hid (HBC.out.bt bd)
              have HO4 : Hid (OwnR wd (w.heap.size + 3) (.slice va (rf.take 0 ++ f :: rf.drop 0).length vc) (rf.take 0 ++ f :: rf.drop 0)) := Lib.hid (own_below HO3.out bd)
              have q0 := Lib.cell_of_heap h2 0
              have g0 := Lib.frozen_of_heap h2 0
              have q1 := Lib.cell_of_heap h2 1
              have g1 := Lib.frozen_of_heap h2 1
              have q2 := Lib.cell_of_heap h2 2
              have g2 := Lib.frozen_of_heap h2 2
              have q3 := Lib.cell_of_heap h2 3
              have g3 := Lib.frozen_of_heap h2 3
              have q4 := Lib.cell_of_heap h2 4
              have g4 := Lib.frozen_of_heap h2 4
              have D2 := Lib.hid h2
              clear h2 bd d0 d1 d2 d3 d5
              go_wp2
              (try simp only [Exit.inBlock, Exit.then])
              have hgg := putR_heap D2.out rfl id ver kind lang (.slice va (0 + 1) vc)
              have hbf : Below w.heap.size w (putR wd (w.heap.size + 2) id ver kind lang (.slice va (0 + 1) vc)) := putR_below HBD.out (by omega) _ _ _ _ _
              refine ret_at (W := putR wd (w.heap.size + 2) id ver kind lang (.slice va (0 + 1) vc)) (r := ⟨id, ver, kind, lang, (rf.take 0 ++ f :: rf.drop 0)⟩) (sa := va) (n := (0 + 1)) (sc := vc) rfl HLEN.out.symm rfl rfl hgg hbf ?_ HP.out
              refine ⟨?_, fun f' hf' => ?_⟩
              · exact Rows.of_own fldE_len (own_keep HO4.out (fun b hb => putR_other _ _ _ _ _ _ (by omega))) rfl
              · have hm : f' = f ∨ f' ∈ rf := by
                  rcases List.mem_append.1 hf' with h | h
                  · exact .inr (List.mem_of_mem_take h)
                  · rcases List.mem_cons.1 h with h | h
                    · exact .inl h
                    · exact .inr (List.mem_of_mem_drop h)
                rcases hm with rfl | hm
                · exact HFF.out _ hbf
                · exact (HFL.out _ hbf).2 f' hm
        · obtain ⟨b, o, hra, hrc⟩ : ∃ b o, ra = some ⟨b, o, none⟩ ∧ rn ≤ rc := by
            obtain ⟨⟨a', c', he, hc, h0 | ⟨b, o, ha, -⟩⟩, -⟩ := HFL.out w (Below.refl _ _)
            · have := HRN.out; rw [h0] at this; simp at this; omega
            · cases he
              exact ⟨b, o, ha, by rw [HRN.out]; exact hc⟩
          subst hra
          have hk2 : k ≤ rc := by omega
          have hk3 : (k : Int) ≤ (rn : Int) := by omega
          have HT : Hid (∀ W, Below w.heap.size w W → ∀ ad, some (⟨b, o, none⟩ : Addr) = some ad → ∀ j u, (flatE fldE (rf.take k))[j]? = some u → W.cell? (ad.add j) = some u) := Lib.hid (fun W h ad e => by cases e; exact cells_take (HFL.out W h).1 k)
          have HD : Hid (∀ W, Below w.heap.size w W → ∀ ad, some (⟨b, o + k * 4, none⟩ : Addr) = some ad → ∀ j u, (flatE fldE (rf.drop k))[j]? = some u → W.cell? (ad.add j) = some u) := Lib.hid (fun W h ad e j u hj => by
            cases e
            have := cells_drop (HFL.out W h).1 k (by have := HRN.out; omega) j u hj
            rw [Addr.add_lit] at this ⊢
            rw [Nat.add_assoc]
            exact this)
          have hcap : rc = k ∨ ¬ rc = k := Decidable.em _
          rcases hcap with hcap | hcap
          · have HRC : Hid (rn = k) := Lib.hid (by omega)
            clear hrc hk2 hrn0
            subst hcap
            clear d4
            have d4 := Lib.cell_of_heap K0.out 4
            have e4 : (w1.alloc (.cells #[] 35)).cell? ⟨w.heap.size, 4, none⟩ = some (.slice (some ⟨b, o, none⟩) rn rc) := Lib.cell?_alloc_some _ ((Lib.cell_of_heap K0.out 4).trans rfl)
            go_wp2_with (at_builtin; refine append_rows rfl _ _ rfl (w.heap.size + 3) (.slice (some ⟨w1.heap.size, 0, none⟩) 0 0) [] rfl (OwnR.made _ _ _ rfl HZ.out) (some ⟨b, o, none⟩) _ _ (rf.take rc) rfl (by rw [List.length_take]; have := HRN.out; omega) (by intro e; cases e) (HT.out _ HBM.out) (by simp only [List.length_nil]; omega) (by simp only [World.size_alloc]; have := HZ.out; omega) ?_)
            intro v1 wa ho1 ba
            have HO1 : Hid (OwnR wa (w.heap.size + 3) v1 (rf.take rc)) := Lib.hid ho1
            have HBX : Hid (Below w.heap.size w wa) := Lib.hid (HBM.out.trans (ba.mono (by omega)))
            have h0 : wa.heap[w.heap.size]? = some (recO id ver kind lang (some ⟨b, o, none⟩) rn rc) := (ba.block _ (by omega)).trans ((alloc_old (by have := HZ.out; omega)).trans K0.out)
            have h1 : wa.heap[w.heap.size + 1]? = some (fldO T I f.sa sn f.sc f.auth) := (ba.block _ (by omega)).trans ((alloc_old (by have := HZ.out; omega)).trans K1.out)
            have h2 : wa.heap[w.heap.size + 2]? = some (recO 0 0 0 ⟨#[]⟩ none 0 0) := (ba.block _ (by omega)).trans ((alloc_old (by have := HZ.out; omega)).trans K2.out)
            have hz : w.heap.size + 3 ≤ wa.heap.size := by have := ba.size; simp only [World.size_alloc] at this; have := HZ.out; omega
            have A0 := Lib.hid h0
            have A1 := Lib.hid h1
            have A2 := Lib.hid h2
            have AZ := Lib.hid hz
            clear ho1 ba h0 h1 h2 hz d4 e4 K0 K1 K2 HBM
            have r0 := Lib.cell_of_heap A1.out 0
            have r1 := Lib.cell_of_heap A1.out 1
            have r2 := Lib.cell_of_heap A1.out 2
            have r3 := Lib.cell_of_heap A1.out 3
            go_wp2_with (at_builtin; refine append_rows rfl _ _ rfl (w.heap.size + 3) v1 (rf.take rc) rfl (own_below HO1.out ((Below.refl _ _).alloc (Nat.le_refl _) _)) (some ⟨wa.heap.size, 0, none⟩) 1 1 [f] rfl rfl (by intro e; cases e) (HONE.out _ _ T I sn HTT.out HII.out HSN.out (alloc_at rfl)) (by rw [List.length_take]; omega) (by simp only [World.size_alloc]; have := AZ.out; omega) ?_)
            intro v2 wb ho2 bb
            have HO2 : Hid (OwnR wb (w.heap.size + 3) v2 (rf.take rc ++ [f])) := Lib.hid ho2
            have HBB : Hid (Below w.heap.size w wb) := Lib.hid ((HBX.out.alloc (by have := AZ.out; omega) _).trans (bb.mono (by omega)))
            have h0 : wb.heap[w.heap.size]? = some (recO id ver kind lang (some ⟨b, o, none⟩) rn rc) := (bb.block _ (by omega)).trans ((alloc_old (by have := AZ.out; omega)).trans A0.out)
            have h2 : wb.heap[w.heap.size + 2]? = some (recO 0 0 0 ⟨#[]⟩ none 0 0) := (bb.block _ (by omega)).trans ((alloc_old (by have := AZ.out; omega)).trans A2.out)
            have hz : w.heap.size + 3 ≤ wb.heap.size := by have := bb.size; simp only [World.size_alloc] at this; have := AZ.out; omega
            have B0 := Lib.hid h0
            have B2 := Lib.hid h2
            have BZ := Lib.hid hz
            clear ho2 bb h0 h2 hz r0 r1 r2 r3 A0 A1 A2
            have d4 := Lib.cell_of_heap B0.out 4
            go_wp2_with (at_builtin; refine append_rows rfl _ _ rfl (w.heap.size + 3) v2 (rf.take rc ++ [f]) rfl HO2.out _ _ _ (rf.drop rc) rfl (by rw [List.length_drop]; have := HRN.out; have := HRC.out; omega) (by intro e; cases e) (fun ad _ j u hj => by (have h9 : rf.drop rc = [] := List.drop_eq_nil_of_le (by have := HRN.out; have := HRC.out; omega)); rw [h9] at hj; cases hj) (by rw [List.length_append, List.length_take, List.length_singleton]; omega) BZ.out ?_)
            intro v3 wc ho3 bc
            have ho3 : OwnR wc (w.heap.size + 3) v3 (rf.take rc ++ f :: rf.drop rc) := by simpa using ho3
            have hlen : (rf.take rc ++ f :: rf.drop rc).length = (rn + 1) := by rw [List.length_append, List.length_cons, List.length_take, List.length_drop]; have := HRN.out; omega
            obtain ⟨va, vc, rfl, -⟩ := (Rows.of_own fldE_len ho3 rfl).shape
            rw [hlen]
            have HO3 : Hid (OwnR wc (w.heap.size + 3) (.slice va (rf.take rc ++ f :: rf.drop rc).length vc) (rf.take rc ++ f :: rf.drop rc)) := Lib.hid ho3
            have HBC : Hid (Below w.heap.size w wc) := Lib.hid (HBB.out.trans (bc.mono (by omega)))
            have h0 : wc.heap[w.heap.size]? = some (recO id ver kind lang (some ⟨b, o, none⟩) rn rc) := (bc.block _ (by omega)).trans B0.out
            have h2 : wc.heap[w.heap.size + 2]? = some (recO 0 0 0 ⟨#[]⟩ none 0 0) := (bc.block _ (by omega)).trans B2.out
            have hz : w.heap.size + 3 ≤ wc.heap.size := by have := bc.size; have := BZ.out; omega
            have C2 := Lib.hid h2
            have CZ := Lib.hid hz
            have HLEN := Lib.hid hlen
            have d0 := Lib.cell_of_heap h0 0
            have d1 := Lib.cell_of_heap h0 1
            have d2 := Lib.cell_of_heap h0 2
            have d3 := Lib.cell_of_heap h0 3
            have d5 := Lib.cell_of_heap h0 4
            have HW := Lib.hid (rWith id ver kind lang (some ⟨b, o, none⟩) rn rc va (rn + 1) vc wc)
            clear ho3 bc hlen h0 h2 hz d4 B0 B2
            go_wp2_with fail
            refine HW.out.mono ?_
            rintro e wd ⟨rfl, bd⟩
            have h2 : wd.heap[w.heap.size + 2]? = some (recO 0 0 0 ⟨#[]⟩ none 0 0) := (bd.block _ (by have := CZ.out; omega)).trans C2.out
            have HBD : Hid (Below w.heap.size w wd) := Lib.hid (HBC.out.bt bd)
            have HO4 : Hid (OwnR wd (w.heap.size + 3) (.slice va (rf.take rc ++ f :: rf.drop rc).length vc) (rf.take rc ++ f :: rf.drop rc)) := Lib.hid (own_below HO3.out bd)
            have q0 := Lib.cell_of_heap h2 0
            have g0 := Lib.frozen_of_heap h2 0
            have q1 := Lib.cell_of_heap h2 1
            have g1 := Lib.frozen_of_heap h2 1
            have q2 := Lib.cell_of_heap h2 2
            have g2 := Lib.frozen_of_heap h2 2
            have q3 := Lib.cell_of_heap h2 3
            have g3 := Lib.frozen_of_heap h2 3
            have q4 := Lib.cell_of_heap h2 4
            have g4 := Lib.frozen_of_heap h2 4
            have D2 := Lib.hid h2
            clear h2 bd d0 d1 d2 d3 d5
            go_wp2
            (try simp only [Exit.inBlock, Exit.then])
            have hgg := putR_heap D2.out rfl id ver kind lang (.slice va (rn + 1) vc)
            have hbf : Below w.heap.size w (putR wd (w.heap.size + 2) id ver kind lang (.slice va (rn + 1) vc)) := putR_below HBD.out (by omega) _ _ _ _ _
            refine ret_at (W := putR wd (w.heap.size + 2) id ver kind lang (.slice va (rn + 1) vc)) (r := ⟨id, ver, kind, lang, (rf.take rc ++ f :: rf.drop rc)⟩) (sa := va) (n := (rn + 1)) (sc := vc) rfl HLEN.out.symm rfl rfl hgg hbf ?_ HP.out
            refine ⟨?_, fun f' hf' => ?_⟩
            · exact Rows.of_own fldE_len (own_keep HO4.out (fun b hb => putR_other _ _ _ _ _ _ (by omega))) rfl
            · have hm : f' = f ∨ f' ∈ rf := by
                rcases List.mem_append.1 hf' with h | h
                · exact .inr (List.mem_of_mem_take h)
                · rcases List.mem_cons.1 h with h | h
                  · exact .inl h
                  · exact .inr (List.mem_of_mem_drop h)
              rcases hm with rfl | hm
              · exact HFF.out _ hbf
              · exact (HFL.out _ hbf).2 f' hm
          · clear hrn0
            clear d4
            have d4 := Lib.cell_of_heap K0.out 4
            have e4 : (w1.alloc (.cells #[] 35)).cell? ⟨w.heap.size, 4, none⟩ = some (.slice (some ⟨b, o, none⟩) rn rc) := Lib.cell?_alloc_some _ ((Lib.cell_of_heap K0.out 4).trans rfl)
            go_wp2_with (at_builtin; refine append_rows rfl _ _ rfl (w.heap.size + 3) (.slice (some ⟨w1.heap.size, 0, none⟩) 0 0) [] rfl (OwnR.made _ _ _ rfl HZ.out) (some ⟨b, o, none⟩) _ _ (rf.take k) rfl (by rw [List.length_take]; have := HRN.out; omega) (by intro e; cases e) (HT.out _ HBM.out) (by simp only [List.length_nil]; omega) (by simp only [World.size_alloc]; have := HZ.out; omega) ?_)
            intro v1 wa ho1 ba
            have HO1 : Hid (OwnR wa (w.heap.size + 3) v1 (rf.take k)) := Lib.hid ho1
            have HBX : Hid (Below w.heap.size w wa) := Lib.hid (HBM.out.trans (ba.mono (by omega)))
            have h0 : wa.heap[w.heap.size]? = some (recO id ver kind lang (some ⟨b, o, none⟩) rn rc) := (ba.block _ (by omega)).trans ((alloc_old (by have := HZ.out; omega)).trans K0.out)
            have h1 : wa.heap[w.heap.size + 1]? = some (fldO T I f.sa sn f.sc f.auth) := (ba.block _ (by omega)).trans ((alloc_old (by have := HZ.out; omega)).trans K1.out)
            have h2 : wa.heap[w.heap.size + 2]? = some (recO 0 0 0 ⟨#[]⟩ none 0 0) := (ba.block _ (by omega)).trans ((alloc_old (by have := HZ.out; omega)).trans K2.out)
            have hz : w.heap.size + 3 ≤ wa.heap.size := by have := ba.size; simp only [World.size_alloc] at this; have := HZ.out; omega
            have A0 := Lib.hid h0
            have A1 := Lib.hid h1
            have A2 := Lib.hid h2
            have AZ := Lib.hid hz
            clear ho1 ba h0 h1 h2 hz d4 e4 K0 K1 K2 HBM
            have r0 := Lib.cell_of_heap A1.out 0
            have r1 := Lib.cell_of_heap A1.out 1
            have r2 := Lib.cell_of_heap A1.out 2
            have r3 := Lib.cell_of_heap A1.out 3
            go_wp2_with (at_builtin; refine append_rows rfl _ _ rfl (w.heap.size + 3) v1 (rf.take k) rfl (own_below HO1.out ((Below.refl _ _).alloc (Nat.le_refl _) _)) (some ⟨wa.heap.size, 0, none⟩) 1 1 [f] rfl rfl (by intro e; cases e) (HONE.out _ _ T I sn HTT.out HII.out HSN.out (alloc_at rfl)) (by rw [List.length_take]; omega) (by simp only [World.size_alloc]; have := AZ.out; omega) ?_)
            intro v2 wb ho2 bb
            have HO2 : Hid (OwnR wb (w.heap.size + 3) v2 (rf.take k ++ [f])) := Lib.hid ho2
            have HBB : Hid (Below w.heap.size w wb) := Lib.hid ((HBX.out.alloc (by have := AZ.out; omega) _).trans (bb.mono (by omega)))
            have h0 : wb.heap[w.heap.size]? = some (recO id ver kind lang (some ⟨b, o, none⟩) rn rc) := (bb.block _ (by omega)).trans ((alloc_old (by have := AZ.out; omega)).trans A0.out)
            have h2 : wb.heap[w.heap.size + 2]? = some (recO 0 0 0 ⟨#[]⟩ none 0 0) := (bb.block _ (by omega)).trans ((alloc_old (by have := AZ.out; omega)).trans A2.out)
            have hz : w.heap.size + 3 ≤ wb.heap.size := by have := bb.size; simp only [World.size_alloc] at this; have := AZ.out; omega
            have B0 := Lib.hid h0
            have B2 := Lib.hid h2
            have BZ := Lib.hid hz
            clear ho2 bb h0 h2 hz r0 r1 r2 r3 A0 A1 A2
            have d4 := Lib.cell_of_heap B0.out 4
            go_wp2_with (at_builtin; refine append_rows rfl _ _ rfl (w.heap.size + 3) v2 (rf.take k ++ [f]) rfl HO2.out (some ⟨b, o + k * 4, none⟩) _ _ (rf.drop k) rfl (by rw [List.length_drop]; have := HRN.out; omega) (by intro e; cases e) (HD.out _ HBB.out) (by rw [List.length_append, List.length_take, List.length_singleton]; omega) BZ.out ?_)
            intro v3 wc ho3 bc
            have ho3 : OwnR wc (w.heap.size + 3) v3 (rf.take k ++ f :: rf.drop k) := by simpa using ho3
            have hlen : (rf.take k ++ f :: rf.drop k).length = (rn + 1) := by rw [List.length_append, List.length_cons, List.length_take, List.length_drop]; have := HRN.out; omega
            obtain ⟨va, vc, rfl, -⟩ := (Rows.of_own fldE_len ho3 rfl).shape
            rw [hlen]
            have HO3 : Hid (OwnR wc (w.heap.size + 3) (.slice va (rf.take k ++ f :: rf.drop k).length vc) (rf.take k ++ f :: rf.drop k)) := Lib.hid ho3
            have HBC : Hid (Below w.heap.size w wc) := Lib.hid (HBB.out.trans (bc.mono (by omega)))
            have h0 : wc.heap[w.heap.size]? = some (recO id ver kind lang (some ⟨b, o, none⟩) rn rc) := (bc.block _ (by omega)).trans B0.out
            have h2 : wc.heap[w.heap.size + 2]? = some (recO 0 0 0 ⟨#[]⟩ none 0 0) := (bc.block _ (by omega)).trans B2.out
            have hz : w.heap.size + 3 ≤ wc.heap.size := by have := bc.size; have := BZ.out; omega
            have C2 := Lib.hid h2
            have CZ := Lib.hid hz
            have HLEN := Lib.hid hlen
            have d0 := Lib.cell_of_heap h0 0
            have d1 := Lib.cell_of_heap h0 1
            have d2 := Lib.cell_of_heap h0 2
            have d3 := Lib.cell_of_heap h0 3
            have d5 := Lib.cell_of_heap h0 4
            have HW := Lib.hid (rWith id ver kind lang (some ⟨b, o, none⟩) rn rc va (rn + 1) vc wc)
            clear ho3 bc hlen h0 h2 hz d4 B0 B2
            go_wp2_with fail
            refine HW.out.mono ?_
            rintro e wd ⟨rfl, bd⟩
            have h2 : wd.heap[w.heap.size + 2]? = some (recO 0 0 0 ⟨#[]⟩ none 0 0) := (bd.block _ (by have := CZ.out; omega)).trans C2.out
            have HBD : Hid (Below w.heap.size w wd) := Lib.hid (HBC.out.bt bd)
            have HO4 : Hid (OwnR wd (w.heap.size + 3) (.slice va (rf.take k ++ f :: rf.drop k).length vc) (rf.take k ++ f :: rf.drop k)) := Lib.hid (own_below HO3.out bd)
            have q0 := Lib.cell_of_heap h2 0
            have g0 := Lib.frozen_of_heap h2 0
            have q1 := Lib.cell_of_heap h2 1
            have g1 := Lib.frozen_of_heap h2 1
            have q2 := Lib.cell_of_heap h2 2
            have g2 := Lib.frozen_of_heap h2 2
            have q3 := Lib.cell_of_heap h2 3
            have g3 := Lib.frozen_of_heap h2 3
            have q4 := Lib.cell_of_heap h2 4
            have g4 := Lib.frozen_of_heap h2 4
            have D2 := Lib.hid h2
            clear h2 bd d0 d1 d2 d3 d5
            go_wp2
            (try simp only [Exit.inBlock, Exit.then])
            have hgg := putR_heap D2.out rfl id ver kind lang (.slice va (rn + 1) vc)
            have hbf : Below w.heap.size w (putR wd (w.heap.size + 2) id ver kind lang (.slice va (rn + 1) vc)) := putR_below HBD.out (by omega) _ _ _ _ _
            refine ret_at (W := putR wd (w.heap.size + 2) id ver kind lang (.slice va (rn + 1) vc)) (r := ⟨id, ver, kind, lang, (rf.take k ++ f :: rf.drop k)⟩) (sa := va) (n := (rn + 1)) (sc := vc) rfl HLEN.out.symm rfl rfl hgg hbf ?_ HP.out
            refine ⟨?_, fun f' hf' => ?_⟩
            · exact Rows.of_own fldE_len (own_keep HO4.out (fun b hb => putR_other _ _ _ _ _ _ (by omega))) rfl
            · have hm : f' = f ∨ f' ∈ rf := by
                rcases List.mem_append.1 hf' with h | h
                · exact .inr (List.mem_of_mem_take h)
                · rcases List.mem_cons.1 h with h | h
                  · exact .inl h
                  · exact .inr (List.mem_of_mem_drop h)
              rcases hm with rfl | hm
              · exact HFF.out _ hbf
              · exact (HFL.out _ hbf).2 f' hm
    · have hz0 : (E != 0) = true := by simpa using hE0
      have hz1 : (E == 0) = false := by simpa using hE0
      have HP : Hid (P = (rec0, E)) := Lib.hid (by rw [HP0.out, if_pos hE0])
      clear hE0
      go_wp2
      (try simp only [Exit.inBlock, Exit.then])
      have hgg := putR_heap K2.out rfl 0 0 0 ⟨#[]⟩ (.slice none 0 0)
      exact ret_at (W := putR w1 (w.heap.size + 2) 0 0 0 ⟨#[]⟩ (.slice none 0 0)) (r := rec0) (sa := none) (n := 0) (sc := 0) rfl rfl rfl rfl hgg (putR_below HB1.out (by omega) _ _ _ _ _) (rcd_zero _) HP.out
end Go.Proofs.YtkfjeolpbopcnaaGreatDoor
