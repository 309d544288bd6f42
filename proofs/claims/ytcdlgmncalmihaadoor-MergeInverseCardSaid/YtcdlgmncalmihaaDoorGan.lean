/- The walk of the examples (layer 16). -/
import Derived.Test.YtcdlgmncalmihaaDoorGa3
namespace Go.Proofs.YtcdlgmncalmihaaDoor
open Go Go.RowKit

theorem callSplit {W : World} {s1 s2 s3 s4 s5 s6 ax a' a3 : Option Addr} {cx c' c3 : Nat} (hE : Env W) (hx : RcdAt W ⟨⟨1, 3, 1, engB, (mergedR s1 s2 s5).fields ++ [fl1 t500 good s6]⟩, ax, cx⟩) (hf : RcdAt W (fromX s3 s4 s5 a' c')) (ht : IntsAt W (.slice a3 1 c3) [2]) :
    Calls Tryd.prog 20 #[.agg #[.int .i64 1, .int .i64 3, .int .i64 1, .string ⟨#[101, 110, 103]⟩, .slice ax 4 cx], .agg #[.int .i64 1, .int .i64 2, .int .i64 3, .int .i64 1, .string ⟨#[101, 110, 103]⟩, .slice a' 3 c', .slice a3 1 c3]] W fun e w' => ∃ ay cy, e = .returned (.tuple #[.agg #[.int .i64 1, .int .i64 3, .int .i64 1, .string ⟨#[101, 110, 103]⟩, .slice ay 3 cy], .agg #[.int .i64 2, .int .i64 3, .int .i64 1, .string ⟨#[101, 110, 103]⟩, .slice a' 3 c'], .int .i64 0]) ∧ RcdAt w' ⟨⟨1, 3, 1, engB, [fl1 t245 dogs s1, fl1 t650 dogs s2, fl1 t500 good s6]⟩, ay, cy⟩ ∧ Below W.heap.size W w' := by
  refine (pSplit (x := ⟨⟨1, 3, 1, engB, (mergedR s1 s2 s5).fields ++ [fl1 t500 good s6]⟩, ax, cx⟩) (p := exPart s3 s4 s5 a' c') (tv := .slice a3 1 c3) (tf := [fl1 t650 pets s5]) (out := [fl1 t245 dogs s1, fl1 t650 dogs s2, fl1 t500 good s6]) hE (exPartIn (l := (mergedR s1 s2 s5).fields ++ [fl1 t500 good s6]) hx rfl rfl (by show 4 ≤ 10; omega) (fun f h => by
    simp only [mergedR, List.cons_append, List.nil_append, List.mem_cons, List.not_mem_nil, or_false] at h
    rcases h with rfl | rfl | rfl | rfl <;> (show 1 ≤ 10; omega)) hf ht (exParts2 s1 s2 s5 s6))).mono ?_
  rintro e w' ⟨a, c, rfl, h1, h2⟩
  exact ⟨a, c, rfl, h1, h2⟩
theorem callSelf {W : World} {s1 s2 a : Option Addr} {c : Nat} (hE : Env W) (hx : RcdAt W (intoX s1 s2 a c)) :
    Calls Tryd.prog 13 #[.agg #[.int .i64 1, .int .i64 3, .int .i64 1, .string ⟨#[101, 110, 103]⟩, .slice a 2 c], .agg #[.int .i64 1, .int .i64 3, .int .i64 1, .string ⟨#[101, 110, 103]⟩, .slice a 2 c], .slice none 0 0] W fun e w' => ∃ a2 c2 a3 n3 c3, e = .returned (.tuple #[.agg #[.int .i64 0, .int .i64 0, .int .i64 0, .string ⟨#[]⟩, .slice a2 0 c2], .agg #[.int .i64 0, .int .i64 0, .int .i64 0, .int .i64 0, .string ⟨#[]⟩, .slice none 0 0, .slice a3 n3 c3], .int .i64 1]) ∧ Below W.heap.size W w' := by
  refine (pMerge (intoX s1 s2 a c) (intoX s1 s2 a c) (.slice none 0 0) [] W hE hx hx (Rows.nil keepE 2 W) (into_small _ _ _ _) (into_small _ _ _ _) (by show 0 ≤ _; omega) (by show 2 ≤ _; omega) (by show 2 ≤ _; omega)).mono fun e w' h => ?_
  rw [ex_arg] at h
  obtain ⟨a2, c2, tv, rfl, h1, h2, h3, h4⟩ := h
  obtain ⟨a3, c3, rfl, -⟩ := Rows.shape h3
  exact ⟨a2, c2, a3, _, c3, rfl, h4⟩

set_option maxRecDepth 100000 in
set_option maxHeartbeats 8000000 in
theorem alive_any (w : World) (hE : Env w) :
    Calls Tryd.prog 7 #[] w fun e w' => e = .returned (.bool true) ∧ Below w.heap.size w w' := by
  go_enter Tryd.func7, Tryd.ntmps7
  go_wp2_with fail
  refine (aOne _ _ _).mono ?_
  rintro e w1 ⟨s1, rfl, hr1, b1⟩
  have R1 := Lib.hid hr1
  have B1 := Lib.hid b1
  clear hr1 b1
  go_wp2_with fail
  refine (aOne _ _ _).mono ?_
  rintro e w2 ⟨s2, rfl, hr2, b2⟩
  have hI : RB ((w2.alloc (.cells #[.string ⟨#[50, 52, 53]⟩, .string ⟨#[32, 32]⟩, .slice s1 1 1, .int .i64 0, .string ⟨#[54, 53, 48]⟩, .string ⟨#[32, 32]⟩, .slice s2 1 1, .int .i64 0] 46)).alloc (.cells #[.int .i64 1, .int .i64 3, .int .i64 1, .string ⟨#[101, 110, 103]⟩, .slice (some ⟨w2.heap.size, 0, none⟩) 2 2] 31)) (w2.heap.size + 1) (intoX s1 s2 (some ⟨w2.heap.size, 0, none⟩) 2) := RB.new (x := intoX s1 s2 (some ⟨w2.heap.size, 0, none⟩) 2) (flds_laid w2 [fl1 t245 dogs s1, fl1 t650 dogs s2] 46 (by
    intro f hf
    simp only [List.mem_cons, List.not_mem_nil, or_false] at hf
    rcases hf with rfl | rfl
    · exact Rows.below R1.out b2 (Nat.le_refl _)
    · exact hr2)) (w2.heap.size + 1) (by simp)
  have hB2 : Below w.heap.size w ((w2.alloc (.cells #[.string ⟨#[50, 52, 53]⟩, .string ⟨#[32, 32]⟩, .slice s1 1 1, .int .i64 0, .string ⟨#[54, 53, 48]⟩, .string ⟨#[32, 32]⟩, .slice s2 1 1, .int .i64 0] 46)).alloc (.cells #[.int .i64 1, .int .i64 3, .int .i64 1, .string ⟨#[101, 110, 103]⟩, .slice (some ⟨w2.heap.size, 0, none⟩) 2 2] 31)) := (B1.out.bt b2).alloc2 (B1.out.bt b2).size _ _
  have HI := Lib.hid hI
  have HB2 := Lib.hid hB2
  clear hr2 b2 R1 B1 hI hB2
  go_wp2_with fail
  refine (aOne _ _ _).mono ?_
  rintro e w3 ⟨s3, rfl, hr3, b3⟩
  have R3 := Lib.hid hr3
  have HI3 := Lib.hid (HI.out.below b3)
  have HB3 := Lib.hid (HB2.out.bt b3)
  clear hr3 b3 HI HB2
  go_wp2_with fail
  refine (aOne _ _ _).mono ?_
  rintro e w4 ⟨s4, rfl, hr4, b4⟩
  have R4 := Lib.hid hr4
  have HI4 := Lib.hid (HI3.out.below b4)
  have HB4 := Lib.hid (HB3.out.bt b4)
  have R34 : Hid (Rows subE 2 w4 (.slice s3 1 1) [(97, allDogs)]) := Lib.hid (Rows.below R3.out b4 (Nat.le_refl _))
  clear hr4 b4 HI3 HB3 R3
  go_wp2_with fail
  refine (aOne _ _ _).mono ?_
  rintro e w5 ⟨s5, rfl, hr5, b5⟩
  have HI5 := Lib.hid (HI4.out.below b5)
  have HB5 := Lib.hid (HB4.out.bt b5)
  obtain ⟨n1, hn1⟩ : ∃ n, n = w2.heap.size + 1 := ⟨_, rfl⟩
  obtain ⟨g1, hg1⟩ : ∃ n, n = w2.heap.size := ⟨_, rfl⟩
  have hF : Flds _ (.slice (some ⟨w5.heap.size, 0, none⟩) 3 3) [fl1 t245 allDogs s3, fl1 t650 dogs s4, fl1 t650 pets s5] := flds_laid w5 [fl1 t245 allDogs s3, fl1 t650 dogs s4, fl1 t650 pets s5] 46 (by
    intro f hf
    simp only [List.mem_cons, List.not_mem_nil, or_false] at hf
    rcases hf with rfl | rfl | rfl
    · exact Rows.below R34.out b5 (Nat.le_refl _)
    · exact Rows.below R4.out b5 (Nat.le_refl _)
    · exact hr5)
  have HF := Lib.hid (RB.new (x := fromX s3 s4 s5 (some ⟨w5.heap.size, 0, none⟩) 3) hF (w5.heap.size + 1) (by simp))
  have HI6 := Lib.hid ((HI5.out.below ((Below.refl _ _).alloc2 (Nat.le_refl _) (.cells (flatE fldE [fl1 t245 allDogs s3, fl1 t650 dogs s4, fl1 t650 pets s5]).toArray 46) (.cells #[.int .i64 2, .int .i64 3, .int .i64 1, .string ⟨#[101, 110, 103]⟩, .slice (some ⟨w5.heap.size, 0, none⟩) 3 3] 31))))
  have HB6 := Lib.hid ((HB5.out.alloc2 HB5.out.size (.cells (flatE fldE [fl1 t245 allDogs s3, fl1 t650 dogs s4, fl1 t650 pets s5]).toArray 46) (.cells #[.int .i64 2, .int .i64 3, .int .i64 1, .string ⟨#[101, 110, 103]⟩, .slice (some ⟨w5.heap.size, 0, none⟩) 3 3] 31)))
  clear hr5 b5 HI4 HB4 R34 R4 hF HI5 HB5
  rw [← hn1] at HI6
  rw [← hg1] at HI6
  have HN1 := Lib.hid hn1
  have HG1 := Lib.hid hg1
  clear hn1 hg1
  go_upto_region 3 with fail
  refine alive3 (w2.heap.size + 1) (w5.heap.size + 1) s1 s2 s3 s4 s5 (some ⟨w2.heap.size, 0, none⟩) (some ⟨w5.heap.size, 0, none⟩) 2 3 (hE.below HB6.out) (by have := HI6.out; rw [HN1.out, HG1.out] at this; exact this) HF.out (by kernel_rfl) (by kernel_rfl) (by kernel_rfl) (by kernel_rfl) (by kernel_rfl) (by kernel_rfl) (by kernel_rfl) (by kernel_rfl) (by kernel_rfl) (by kernel_rfl) (by kernel_rfl) (by kernel_rfl) (by kernel_rfl) (by kernel_rfl) (by kernel_rfl) (by kernel_rfl) (by kernel_rfl) ?_
  intro xs W3 m3 m4 a2 a3 c2 c3 e3 e4 e5 hr hp b3 l3 l4
  simp only [e3, e4, e5]
  clear e3 e4 e5
  obtain ⟨n2, hn2⟩ : ∃ n, n = w5.heap.size + 1 := ⟨_, rfl⟩
  obtain ⟨g2, hg2⟩ : ∃ n, n = w5.heap.size := ⟨_, rfl⟩
  rw [← HN1.out, ← HG1.out, ← hn2, ← hg2]
  have HI7 := Lib.hid (HI6.out.below b3)
  have HB7 := Lib.hid (HB6.out.bt b3)
  have HR7 := Lib.hid hr
  have HP7 := Lib.hid hp
  rw [← hg2] at hp
  have HL3 : Hid (w.heap.size ≤ m3) := Lib.hid (Nat.le_trans HB6.out.size l3)
  have HN2 := Lib.hid hn2
  have HG2 := Lib.hid hg2
  clear HI6 HF HB6 hn2 hg2 b3 l3 l4 HN1 HG1
  obtain ⟨b3, o3, ha3, h3lt, h3c⟩ : ∃ b o, a3 = some ⟨b, o, none⟩ ∧ b < W3.heap.size ∧ W3.cell? ⟨b, o, none⟩ = some (.int .i64 2) := by
    obtain ⟨a', c', he, -, hx⟩ := hp.2.2
    cases he
    rcases hx with h0 | ⟨b, o, rfl, hb, hcl⟩
    · cases h0
    · exact ⟨b, o, rfl, hb, hcl 0 2 rfl 0 _ rfl⟩
  subst ha3
  have q3 : W3.cell? ⟨m3, 4, none⟩ = some (.slice a2 3 c2) := Lib.cell_of_heap hr.1 4
  have q3a : W3.cell? ⟨m3, 0, none⟩ = some (.int .i64 1) := Lib.cell_of_heap hr.1 0
  have q3b : W3.cell? ⟨m3, 1, none⟩ = some (.int .i64 3) := Lib.cell_of_heap hr.1 1
  have q3c : W3.cell? ⟨m3, 2, none⟩ = some (.int .i64 1) := Lib.cell_of_heap hr.1 2
  have q3d : W3.cell? ⟨m3, 3, none⟩ = some (.string ⟨#[101, 110, 103]⟩) := Lib.cell_of_heap hr.1 3
  have p0 : W3.cell? ⟨m4, 0, none⟩ = some (.int .i64 1) := Lib.cell_of_heap hp.1 0
  have p1 : W3.cell? ⟨m4, 1, none⟩ = some (.int .i64 2) := Lib.cell_of_heap hp.1 1
  have p2 : W3.cell? ⟨m4, 2, none⟩ = some (.int .i64 3) := Lib.cell_of_heap hp.1 2
  have p3 : W3.cell? ⟨m4, 3, none⟩ = some (.int .i64 1) := Lib.cell_of_heap hp.1 3
  have p4 : W3.cell? ⟨m4, 4, none⟩ = some (.string ⟨#[101, 110, 103]⟩) := Lib.cell_of_heap hp.1 4
  have p5 : W3.cell? ⟨m4, 5, none⟩ = some (.slice (some ⟨g2, 0, none⟩) 3 3) := Lib.cell_of_heap hp.1 5
  have p6 : W3.cell? ⟨m4, 6, none⟩ = some (.slice (some ⟨b3, o3, none⟩) 1 c3) := Lib.cell_of_heap hp.1 6
  go_wp2_with fail
  refine (pWhole (x := ⟨mergedR s1 s2 s5, a2, c2⟩) (p := exPart s3 s4 s5 (some ⟨g2, 0, none⟩) 3) (tv := .slice (some ⟨b3, o3, none⟩) 1 c3) (tf := [fl1 t650 pets s5]) (out := [fl1 t245 dogs s1, fl1 t650 dogs s2]) (hE.below HB7.out) (exPartIn (l := (mergedR s1 s2 s5).fields) hr.2 rfl rfl (by show 3 ≤ 10; omega) (fun f h => by
    simp only [mergedR, List.mem_cons, List.not_mem_nil, or_false] at h
    rcases h with rfl | rfl | rfl <;> (show 1 ≤ 10; omega)) hp.2.1 hp.2.2 (exParts1 s1 s2 s5))).mono ?_
  rintro e w8 ⟨rfl, b8⟩
  have HI8 := Lib.hid (HI7.out.below b8)
  have HB8 := Lib.hid (HB7.out.bt b8)
  have hr8 : RB w8 m3 ⟨mergedR s1 s2 s5, a2, c2⟩ := hr.below b8
  have hp8 : PB w8 m4 (exPart s3 s4 s5 (some ⟨g2, 0, none⟩) 3) (some ⟨b3, o3, none⟩) 1 c3 := PB.below hp b8
  clear HI7 HB7 HR7 HP7 b8 hr hp q3 q3a q3b q3c q3d p0 p1 p2 p3 p4 p5 p6 h3c h3lt
  have p0 : w8.cell? ⟨m4, 0, none⟩ = some (.int .i64 1) := Lib.cell_of_heap hp8.1 0
  have p1 : w8.cell? ⟨m4, 1, none⟩ = some (.int .i64 2) := Lib.cell_of_heap hp8.1 1
  have p2 : w8.cell? ⟨m4, 2, none⟩ = some (.int .i64 3) := Lib.cell_of_heap hp8.1 2
  have p3 : w8.cell? ⟨m4, 3, none⟩ = some (.int .i64 1) := Lib.cell_of_heap hp8.1 3
  have p4 : w8.cell? ⟨m4, 4, none⟩ = some (.string ⟨#[101, 110, 103]⟩) := Lib.cell_of_heap hp8.1 4
  have p5 : w8.cell? ⟨m4, 5, none⟩ = some (.slice (some ⟨g2, 0, none⟩) 3 3) := Lib.cell_of_heap hp8.1 5
  have p6 : w8.cell? ⟨m4, 6, none⟩ = some (.slice (some ⟨b3, o3, none⟩) 1 c3) := Lib.cell_of_heap hp8.1 6
  go_wp2_with fail
  refine (pPRight (exPart s3 s4 s5 (some ⟨g2, 0, none⟩) 3) (.slice (some ⟨b3, o3, none⟩) 1 c3) w8 (hE.below HB8.out) hp8.2.1 hp8.2.2 (from_small _ _ _ _ _) (exPart_ok _ _ _ _ _) (by show 1 ≤ 100000; omega) (by show 3 ≤ 100000; omega)).mono ?_
  rintro e w9 ⟨rfl, b9⟩
  have HI9 := Lib.hid (HI8.out.below b9)
  have HB9 := Lib.hid (HB8.out.bt b9)
  have hr9 : RB w9 m3 ⟨mergedR s1 s2 s5, a2, c2⟩ := hr8.below b9
  have hp9 : PB w9 m4 (exPart s3 s4 s5 (some ⟨g2, 0, none⟩) 3) (some ⟨b3, o3, none⟩) 1 c3 := hp8.below b9
  clear HI8 HB8 b9 hr8 hp8 p0 p1 p2 p3 p4 p5 p6
  obtain ⟨ad, ha2⟩ : ∃ ad, a2 = some ad := by
    obtain ⟨⟨a', c', he, -, hx⟩, -⟩ := hr9.2
    cases he
    rcases hx with h0 | ⟨b, o, rfl, hb, hcl⟩
    · cases h0
    · exact ⟨_, rfl⟩
  subst ha2
  have q3 : (w9.alloc (.cells #[] 46)).cell? ⟨m3, 4, none⟩ = some (.slice (some ad) 3 c2) := Lib.cell?_alloc_some _ (Lib.cell_of_heap hr9.1 4)
  have HNW : Hid (∀ j u, (flatE fldE (mergedR s1 s2 s5).fields)[j]? = some u → (w9.alloc (.cells #[] 46)).cell? (ad.add j) = some u) := Lib.hid (fun j u hj => Lib.cell?_alloc_some _ (Rows.cells fldE_len (by decide) hr9.2.1 j u hj))
  have HO : Hid (OwnF (w9.alloc (.cells #[] 46)) w9.heap.size (.slice (some ⟨w9.heap.size, 0, none⟩) 0 0) []) := Lib.hid (OwnE.made fldE _ w9 _ _ rfl (Nat.le_refl _))
  have HR9 := Lib.hid hr9
  have HP9 := Lib.hid hp9
  clear hr9 hp9
  go_wp2_with (at_builtin; refine append_fldsE rfl _ _ rfl w9.heap.size (.slice (some ⟨w9.heap.size, 0, none⟩) 0 0) [] rfl HO.out ad 3 c2 (mergedR s1 s2 s5).fields rfl rfl (.inl (by omega)) HNW.out (by simp only [List.length_nil]; omega) (by simp) ?_)
  intro v' wa hown hg hb
  have HOA : Hid (OwnF wa w9.heap.size v' (mergedR s1 s2 s5).fields) := Lib.hid hown
  have HBA : Hid (Below w9.heap.size w9 wa) := Lib.hid (((Below.refl _ w9).alloc (Nat.le_refl _) _).trans hb)
  clear hown hg hb q3 HNW HO
  go_wp2_with fail
  refine (aOne _ _ _).mono ?_
  rintro e wb ⟨s6, rfl, hr6, b6⟩
  have HOB : Hid (OwnF (wb.alloc (.cells #[.string ⟨#[53, 48, 48]⟩, .string ⟨#[32, 32]⟩, .slice s6 1 1, .int .i64 0] 46)) w9.heap.size v' (mergedR s1 s2 s5).fields) := Lib.hid ((HOA.out.below b6 (Nat.le_refl _)).below ((Below.refl _ _).alloc (Nat.le_refl _) _) (Nat.le_refl _))
  have hBB : Below w9.heap.size w9 wb := HBA.out.bt b6
  have HBB := Lib.hid (hBB.alloc hBB.size (.cells #[.string ⟨#[53, 48, 48]⟩, .string ⟨#[32, 32]⟩, .slice s6 1 1, .int .i64 0] 46))
  have H6 : Hid (Rows subE 2 (wb.alloc (.cells #[.string ⟨#[53, 48, 48]⟩, .string ⟨#[32, 32]⟩, .slice s6 1 1, .int .i64 0] 46)) (.slice s6 1 1) [(97, good)]) := Lib.hid (Rows.below hr6 ((Below.refl _ _).alloc (Nat.le_refl _) _) (Nat.le_refl _))
  have HNB : Hid (∀ j u, (flatE fldE [fl1 t500 good s6])[j]? = some u → (wb.alloc (.cells #[.string ⟨#[53, 48, 48]⟩, .string ⟨#[32, 32]⟩, .slice s6 1 1, .int .i64 0] 46)).cell? ((⟨wb.heap.size, 0, none⟩ : Addr).add j) = some u) := Lib.hid (cells_fld (f := fl1 t500 good s6) (by refine ⟨?_, ?_, ?_, ?_⟩ <;> (rw [new1_cell]; rfl)))
  have hsz := hBB.size
  clear HOA HBA hr6 b6 hBB
  go_wp2_with (at_builtin; refine append_fldsE rfl _ _ rfl w9.heap.size v' (mergedR s1 s2 s5).fields rfl HOB.out ⟨wb.heap.size, 0, none⟩ 1 1 [fl1 t500 good s6] rfl rfl (.inl (by omega)) HNB.out (by show 3 + 1 ≤ 1000000; omega) (by simp only [World.size_alloc]; omega) ?_)
  intro v'' wc hown hg hb
  obtain ⟨ax, cx, hv, -⟩ := (OwnE.rows fldE_len hown).shape
  obtain rfl : v'' = .slice ax 4 cx := hv
  have hBC : Below w9.heap.size w9 wc := HBB.out.trans hb
  have k1 : RB wc n1 (intoX s1 s2 (some ⟨g1, 0, none⟩) 2) := HI9.out.below hBC
  have k3 : RB wc m3 ⟨mergedR s1 s2 s5, some ad, c2⟩ := HR9.out.below hBC
  have k4 : PB wc m4 (exPart s3 s4 s5 (some ⟨g2, 0, none⟩) 3) (some ⟨b3, o3, none⟩) 1 c3 := HP9.out.below hBC
  have hrow : Rows fldE 4 wc (.slice ax 4 cx) ((mergedR s1 s2 s5).fields ++ [fl1 t500 good s6]) := OwnE.rows fldE_len hown
  have h6c : Rows subE 2 wc (.slice s6 1 1) [(97, good)] := by
    refine Rows.grown H6.out HOB.out hg (fun ll o p h => sub_not_fld ll o p h)
  have hat : ∀ f ∈ (mergedR s1 s2 s5).fields ++ [fl1 t500 good s6], FldAt wc f := fun f hf => by
    rcases List.mem_append.1 hf with hf | hf
    · exact k3.2.2 f hf
    · cases List.mem_singleton.1 hf; exact h6c
  have k3h : wc.heap[m3]? = some (.cells #[.int .i64 1, .int .i64 3, .int .i64 1, .string ⟨#[101, 110, 103]⟩, .slice (some ad) 3 c2] 31 (0, 0)) := k3.1
  have k1h : wc.heap[n1]? = some (.cells #[.int .i64 1, .int .i64 3, .int .i64 1, .string ⟨#[101, 110, 103]⟩, .slice (some ⟨g1, 0, none⟩) 2 2] 31 (0, 0)) := k1.1
  have n31 : m3 ≠ n1 := by
    rintro rfl
    have := k3h.symm.trans k1h
    cases this
  have n34 : m3 ≠ m4 := by
    rintro rfl
    have := k3h.symm.trans k4.1
    cases this
  have keepF : ∀ v l, Flds wc v l → Flds (wc.setCell ⟨m3, 4, none⟩ (.slice ax 4 cx)) v l := fun v l h => Flds.putL h k3h (fun _ _ => rec_no) (fun _ => rec_no8) 4 [.slice ax 4 cx]
  have d3 : RB (wc.setCell ⟨m3, 4, none⟩ (.slice ax 4 cx)) m3 ⟨⟨1, 3, 1, engB, (mergedR s1 s2 s5).fields ++ [fl1 t500 good s6]⟩, ax, cx⟩ := ⟨heap_setCell_same wc m3 4 _ _ _ k3h, keepF _ _ ⟨hrow, hat⟩⟩
  have d1 : RB (wc.setCell ⟨m3, 4, none⟩ (.slice ax 4 cx)) n1 (intoX s1 s2 (some ⟨g1, 0, none⟩) 2) := ⟨(set_block _ _ _ _ n31).trans k1.1, keepF _ _ k1.2⟩
  have d4 : PB (wc.setCell ⟨m3, 4, none⟩ (.slice ax 4 cx)) m4 (exPart s3 s4 s5 (some ⟨g2, 0, none⟩) 3) (some ⟨b3, o3, none⟩) 1 c3 := ⟨(set_block _ _ _ _ n34).trans k4.1, keepF _ _ k4.2.1, Rows.putL k4.2.2 k3h (fun p o hp hx => by cases List.mem_singleton.1 hp; exact rec_no2 o (hx 0 _ rfl)) 4 [.slice ax 4 cx]⟩
  have q := Lib.cell_of_heap k3h 4
  have qf := Lib.frozen_of_heap k3h 4
  have hBD : Below w.heap.size w (wc.setCell ⟨m3, 4, none⟩ (.slice ax 4 cx)) := (HB9.out.bt hBC).setCell (p := ⟨m3, 4, none⟩) HL3.out _
  have D1 := Lib.hid d1
  have D3 := Lib.hid d3
  have D4 := Lib.hid d4
  have HBD := Lib.hid hBD
  clear k1 k3 k4 hrow h6c hat k3h k1h n31 n34 keepF d1 d3 d4 hBC hown hg hb HOB HBB H6 HNB HI9 HB9 HR9 HP9 hBD
  go_upto_region 7 with fail
  clear q qf
  generalize wc.setCell ⟨m3, 4, none⟩ (.slice ax 4 cx) = wd at D1 D3 D4 HBD ⊢
  have q0 : wd.cell? ⟨m3, 0, none⟩ = some (.int .i64 1) := Lib.cell_of_heap D3.out.1 0
  have q1 : wd.cell? ⟨m3, 1, none⟩ = some (.int .i64 3) := Lib.cell_of_heap D3.out.1 1
  have q2 : wd.cell? ⟨m3, 2, none⟩ = some (.int .i64 1) := Lib.cell_of_heap D3.out.1 2
  have q3 : wd.cell? ⟨m3, 3, none⟩ = some (.string ⟨#[101, 110, 103]⟩) := Lib.cell_of_heap D3.out.1 3
  have q4 : wd.cell? ⟨m3, 4, none⟩ = some (.slice ax 4 cx) := Lib.cell_of_heap D3.out.1 4
  have p0 : wd.cell? ⟨m4, 0, none⟩ = some (.int .i64 1) := Lib.cell_of_heap D4.out.1 0
  have p1 : wd.cell? ⟨m4, 1, none⟩ = some (.int .i64 2) := Lib.cell_of_heap D4.out.1 1
  have p2 : wd.cell? ⟨m4, 2, none⟩ = some (.int .i64 3) := Lib.cell_of_heap D4.out.1 2
  have p3 : wd.cell? ⟨m4, 3, none⟩ = some (.int .i64 1) := Lib.cell_of_heap D4.out.1 3
  have p4 : wd.cell? ⟨m4, 4, none⟩ = some (.string ⟨#[101, 110, 103]⟩) := Lib.cell_of_heap D4.out.1 4
  have p5 : wd.cell? ⟨m4, 5, none⟩ = some (.slice (some ⟨g2, 0, none⟩) 3 3) := Lib.cell_of_heap D4.out.1 5
  have p6 : wd.cell? ⟨m4, 6, none⟩ = some (.slice (some ⟨b3, o3, none⟩) 1 c3) := Lib.cell_of_heap D4.out.1 6
  go_wp2_with fail
  refine (callSplit (hE.below HBD.out) D3.out.2 D4.out.2.1 D4.out.2.2).mono ?_
  rintro e w10 ⟨ay, cy, rfl, hra, b10⟩
  have E1 : RB w10 n1 (intoX s1 s2 (some ⟨g1, 0, none⟩) 2) := D1.out.below b10
  have HBE : Hid (Below w.heap.size w w10) := Lib.hid (HBD.out.bt b10)
  have hb11 : Below w10.heap.size w10 ((w10.alloc (.cells #[.int .i64 1, .int .i64 3, .int .i64 1, .string ⟨#[101, 110, 103]⟩, .slice ay 3 cy] 31)).alloc (.cells #[.int .i64 2, .int .i64 3, .int .i64 1, .string ⟨#[101, 110, 103]⟩, .slice (some ⟨g2, 0, none⟩) 3 3] 31)) := (Below.refl _ _).alloc2 (Nat.le_refl _) _ _
  have HF1 := Lib.hid (E1.below hb11)
  have HB11 := Lib.hid (HBE.out.bt hb11)
  have HY : Hid (RB ((w10.alloc (.cells #[.int .i64 1, .int .i64 3, .int .i64 1, .string ⟨#[101, 110, 103]⟩, .slice ay 3 cy] 31)).alloc (.cells #[.int .i64 2, .int .i64 3, .int .i64 1, .string ⟨#[101, 110, 103]⟩, .slice (some ⟨g2, 0, none⟩) 3 3] 31)) w10.heap.size ⟨⟨1, 3, 1, engB, [fl1 t245 dogs s1, fl1 t650 dogs s2, fl1 t500 good s6]⟩, ay, cy⟩) := Lib.hid (RB.below (RB.new hra _ rfl) ((Below.refl _ _).alloc (Nat.le_refl _) _))
  have HZ : Hid (((w10.alloc (.cells #[.int .i64 1, .int .i64 3, .int .i64 1, .string ⟨#[101, 110, 103]⟩, .slice ay 3 cy] 31)).alloc (.cells #[.int .i64 2, .int .i64 3, .int .i64 1, .string ⟨#[101, 110, 103]⟩, .slice (some ⟨g2, 0, none⟩) 3 3] 31)).heap[w10.heap.size + 1]? = some (.cells #[.int .i64 2, .int .i64 3, .int .i64 1, .string ⟨#[101, 110, 103]⟩, .slice (some ⟨g2, 0, none⟩) 3 3] 31 (0, 0))) := Lib.hid (alloc_at (by simp))
  clear hra b10 HBD D1 D3 D4 q0 q1 q2 q3 q4 p0 p1 p2 p3 p4 p5 p6 E1 HBE hb11
  go_upto_region 8 with fail
  generalize w10.heap.size + 1 = u2 at HZ ⊢
  generalize w10.heap.size = u1 at HY ⊢
  generalize ((w10.alloc (.cells #[.int .i64 1, .int .i64 3, .int .i64 1, .string ⟨#[101, 110, 103]⟩, .slice ay 3 cy] 31)).alloc (.cells #[.int .i64 2, .int .i64 3, .int .i64 1, .string ⟨#[101, 110, 103]⟩, .slice (some ⟨g2, 0, none⟩) 3 3] 31)) = wf at HF1 HB11 HY HZ ⊢
  have q0 : wf.cell? ⟨n1, 0, none⟩ = some (.int .i64 1) := Lib.cell_of_heap HF1.out.1 0
  have q1 : wf.cell? ⟨n1, 1, none⟩ = some (.int .i64 3) := Lib.cell_of_heap HF1.out.1 1
  have q2 : wf.cell? ⟨n1, 2, none⟩ = some (.int .i64 1) := Lib.cell_of_heap HF1.out.1 2
  have q3 : wf.cell? ⟨n1, 3, none⟩ = some (.string ⟨#[101, 110, 103]⟩) := Lib.cell_of_heap HF1.out.1 3
  have q4 : wf.cell? ⟨n1, 4, none⟩ = some (.slice (some ⟨g1, 0, none⟩) 2 2) := Lib.cell_of_heap HF1.out.1 4
  go_wp2_with fail
  refine (callSelf (hE.below HB11.out) HF1.out.2).mono ?_
  rintro e w12 ⟨a5, c5, a6, n6, c6, rfl, b12⟩
  have hb13 : Below wf.heap.size wf ((w12.alloc (.cells #[.int .i64 0, .int .i64 0, .int .i64 0, .string ⟨#[]⟩, .slice a5 0 c5] 31)).alloc (.cells #[.int .i64 0, .int .i64 0, .int .i64 0, .int .i64 0, .string ⟨#[]⟩, .slice none 0 0, .slice a6 n6 c6] 36)) := b12.alloc2 b12.size _ _
  have HY2 := Lib.hid (HY.out.below hb13)
  have HZ2 := Lib.hid ((hb13.block _ (Array.getElem?_eq_some_iff.1 HZ.out).1).trans HZ.out)
  have HB13 := Lib.hid (HB11.out.bt hb13)
  clear hb13 b12 q0 q1 q2 q3 q4 HY HZ HF1 HB11
  go_upto_region 9 with fail
  generalize ((w12.alloc (.cells #[.int .i64 0, .int .i64 0, .int .i64 0, .string ⟨#[]⟩, .slice a5 0 c5] 31)).alloc (.cells #[.int .i64 0, .int .i64 0, .int .i64 0, .int .i64 0, .string ⟨#[]⟩, .slice none 0 0, .slice a6 n6 c6] 36)) = wg at HY2 HZ2 HB13 ⊢
  obtain ⟨by_, oy, hay, hylt, hy4⟩ : ∃ b o, ay = some ⟨b, o, none⟩ ∧ b < wg.heap.size ∧ wg.cell? ⟨b, o + 8, none⟩ = some (.string ⟨#[53, 48, 48]⟩) := by
    obtain ⟨⟨a', c', he, -, hx⟩, -⟩ := HY2.out.2
    cases he
    rcases hx with h0 | ⟨b, o, rfl, hb, hcl⟩
    · cases h0
    · exact ⟨b, o, rfl, hb, hcl 2 (fl1 t500 good s6) rfl 0 _ rfl⟩
  subst hay
  have q4 : wg.cell? ⟨u1, 4, none⟩ = some (.slice (some ⟨by_, oy, none⟩) 3 cy) := Lib.cell_of_heap HY2.out.1 4
  have z0 : wg.cell? ⟨u2, 0, none⟩ = some (.int .i64 2) := Lib.cell_of_heap HZ2.out 0
  have z4 : wg.cell? ⟨u2, 4, none⟩ = some (.slice (some ⟨g2, 0, none⟩) 3 3) := Lib.cell_of_heap HZ2.out 4
  go_wp2_with fail
  refine (pStandard wg).mono ?_
  rintro e wh ⟨v, rfl, hk, b14⟩
  have HB14 := Lib.hid (HB13.out.bt b14)
  clear b14 q4 z0 z4 hy4 hylt HB13 HY2 HZ2
  go_wp2_with fail
  refine (pHow v stdK ⟨#[56, 53, 54]⟩ wh hk (by rw [std_len]; omega)).mono ?_
  rintro e wi ⟨rfl, b15⟩
  rw [ex_how1]
  have HB15 := Lib.hid (HB14.out.bt b15)
  clear b15 HB14 hk
  go_wp2_with fail
  refine (pHow (.slice none 0 0) [] ⟨#[50, 52, 53]⟩ wi (Rows.nil keepE 2 wi) (by show 0 ≤ _; omega)).mono ?_
  rintro e wj ⟨rfl, b16⟩
  rw [ex_how2]
  have HB16 := Lib.hid (HB15.out.bt b16)
  clear b16 HB15
  go_wp2
  go_ret
  exact ⟨rfl, HB16.out⟩
end Go.Proofs.YtcdlgmncalmihaaDoor
