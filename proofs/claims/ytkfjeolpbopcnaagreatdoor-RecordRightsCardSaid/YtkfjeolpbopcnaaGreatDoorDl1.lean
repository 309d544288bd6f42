/- The law RecordRights walked (layer 08). -/
import Derived.Test.YtkfjeolpbopcnaaGreatDoorEf
import Derived.Test.YtkfjeolpbopcnaaGreatDoorEg
import Derived.Deep.Quiet
namespace Go.Proofs.YtkfjeolpbopcnaaGreatDoor
open Go Go.RowKit

set_option maxRecDepth 100000 in
set_option maxHeartbeats 8000000 in
theorem law_RecordRights (r : Rec) (a : Option Addr) (m c : Nat) (s : Rec) (a' : Option Addr) (m' c' : Nat) (w : World) (hE : Env w) (hx0 : Flds w (.slice a m c) r.fields) (hq : Codes r) (hy0 : Flds w (.slice a' m' c') s.fields) (hq' : Codes s) :
    Calls Tryz.prog 3 #[.agg #[.int .i64 r.id, .int .i64 r.ver, .int .i64 r.kind, .string r.lang, .slice a m c], .agg #[.int .i64 s.id, .int .i64 s.ver, .int .i64 s.kind, .string s.lang, .slice a' m' c']] w fun e w' => e = .returned (.bool true) ∧ Below w.heap.size w w' := by
  obtain ⟨rfl, -⟩ := hx0.len
  obtain ⟨rfl, -⟩ := hy0.len
  have HAL : Hid (∀ W, Below w.heap.size w W → Calls Tryz.prog 11 #[] W fun e w' => e = .returned (.bool true) ∧ Below W.heap.size W w') := Lib.hid (fun W h => lAlive W (hE.below h))
  have HS1 : Hid (∀ W, Below w.heap.size w W → Calls Tryz.prog 10 #[.agg #[.int .i64 r.id, .int .i64 r.ver, .int .i64 r.kind, .string r.lang, .slice a r.fields.length c]] W fun e w' => e = .returned (.bool (smallR r)) ∧ Below W.heap.size W w') := Lib.hid (fun W h => rSmall r a _ c W (hx0.below h (Nat.le_refl _)))
  have HS2 : Hid (∀ W, Below w.heap.size w W → Calls Tryz.prog 10 #[.agg #[.int .i64 s.id, .int .i64 s.ver, .int .i64 s.kind, .string s.lang, .slice a' s.fields.length c']] W fun e w' => e = .returned (.bool (smallR s)) ∧ Below W.heap.size W w') := Lib.hid (fun W h => rSmall s a' _ c' W (hy0.below h (Nat.le_refl _)))
  have HPR : Hid (smallR r = true → ∀ W, Below w.heap.size w W → Calls Tryz.prog 12 #[.agg #[.int .i64 r.id, .int .i64 r.ver, .int .i64 r.kind, .string r.lang, .slice a r.fields.length c]] W fun e w' => e = .returned (.int .i64 (recErr r)) ∧ Below W.heap.size W w') := Lib.hid (fun hs W h => pRecRight r a _ c W (hE.below h) (hx0.below h (Nat.le_refl _)) (small_of hs hq))
  have HRR : Hid (smallR r = true → ∀ W, Below w.heap.size w W → Calls Tryz.prog 13 #[.agg #[.int .i64 r.id, .int .i64 r.ver, .int .i64 r.kind, .string r.lang, .slice a r.fields.length c]] W fun e w' => e = .returned (.int .i64 (recErr r)) ∧ Below W.heap.size W w') := Lib.hid (fun hs W h => rRecRight r a _ c W (hx0.below h (Nat.le_refl _)) (small_of hs hq))
  have HPS : Hid (smallR r = true → smallR s = true → ∀ W, Below w.heap.size w W → Calls Tryz.prog 14 #[.agg #[.int .i64 r.id, .int .i64 r.ver, .int .i64 r.kind, .string r.lang, .slice a r.fields.length c], .agg #[.int .i64 s.id, .int .i64 s.ver, .int .i64 s.kind, .string s.lang, .slice a' s.fields.length c']] W fun e w' => e = .returned (.bool (sameRB r s)) ∧ Below W.heap.size W w') := Lib.hid (fun hs ht W h => pSameRec r s a a' _ c _ c' W (hx0.below h (Nat.le_refl _)) (hy0.below h (Nat.le_refl _)) (small_of hs hq).1 (fun f hf => ((small_of hs hq).2 f hf).subs))
  have HRS : Hid (smallR r = true → smallR s = true → ∀ W, Below w.heap.size w W → Calls Tryz.prog 15 #[.agg #[.int .i64 r.id, .int .i64 r.ver, .int .i64 r.kind, .string r.lang, .slice a r.fields.length c], .agg #[.int .i64 s.id, .int .i64 s.ver, .int .i64 s.kind, .string s.lang, .slice a' s.fields.length c']] W fun e w' => e = .returned (.bool (sameRB r s)) ∧ Below W.heap.size W w') := Lib.hid (fun hs ht W h => rSameRec r s a a' _ c _ c' W (hx0.below h (Nat.le_refl _)) (hy0.below h (Nat.le_refl _)) (small_of hs hq).1 (fun f hf => ((small_of hs hq).2 f hf).subs) (fun f hf => ((small_of ht hq').2 f hf).subs))
  have HPA : Hid (smallR r = true → ∀ W, Below w.heap.size w W → Calls Tryz.prog 14 #[.agg #[.int .i64 r.id, .int .i64 r.ver, .int .i64 r.kind, .string r.lang, .slice a r.fields.length c], .agg #[.int .i64 r.id, .int .i64 r.ver, .int .i64 r.kind, .string r.lang, .slice a r.fields.length c]] W fun e w' => e = .returned (.bool true) ∧ Below W.heap.size W w') := Lib.hid (fun hs W h => by
    have := pSameRec r r a a _ c _ c W (hx0.below h (Nat.le_refl _)) (hx0.below h (Nat.le_refl _)) (small_of hs hq).1 (fun f hf => ((small_of hs hq).2 f hf).subs)
    rwa [sameRB_refl] at this)
  obtain ⟨S1, hS1⟩ : ∃ S, S = smallR r := ⟨_, rfl⟩
  obtain ⟨S2, hS2⟩ : ∃ S, S = smallR s := ⟨_, rfl⟩
  obtain ⟨E, hE1⟩ : ∃ S, S = recErr r := ⟨_, rfl⟩
  obtain ⟨SM, hSM⟩ : ∃ S, S = sameRB r s := ⟨_, rfl⟩
  rw [← hS1] at HS1 HPR HRR HPS HRS HPA
  rw [← hS2] at HS2 HPS HRS
  rw [← hE1] at HPR HRR
  rw [← hSM] at HPS HRS
  clear hx0 hy0 hq hq' hE hS1 hS2 hE1 hSM
  obtain ⟨id, ver, kind, lang, rf⟩ := r
  obtain ⟨id2, ver2, kind2, lang2, sf⟩ := s
  simp only at HS1 HS2 HPR HRR HPS HRS HPA ⊢
  obtain ⟨n, hn⟩ : ∃ n, n = rf.length := ⟨_, rfl⟩
  obtain ⟨n2, hn2⟩ : ∃ n, n = sf.length := ⟨_, rfl⟩
  rw [← hn] at HS1 HPR HRR HPS HRS HPA ⊢
  rw [← hn2] at HS2 HPS HRS ⊢
  clear hn hn2
  obtain ⟨ra, hra⟩ : ∃ x, x = a := ⟨_, rfl⟩
  obtain ⟨rc, hrc⟩ : ∃ x, x = c := ⟨_, rfl⟩
  obtain ⟨ra2, hra2⟩ : ∃ x, x = a' := ⟨_, rfl⟩
  obtain ⟨rc2, hrc2⟩ : ∃ x, x = c' := ⟨_, rfl⟩
  rw [← hra, ← hrc] at HS1 HPR HRR HPS HRS HPA ⊢
  rw [← hra2, ← hrc2] at HS2 HPS HRS ⊢
  clear hra hrc hra2 hrc2
  obtain ⟨W0, hW0⟩ : ∃ W, W = (w.alloc (recO id ver kind lang ra n rc)).alloc (recO id2 ver2 kind2 lang2 ra2 n2 rc2) := ⟨_, rfl⟩
  have hb0 : Below w.heap.size w W0 := by rw [hW0]; exact (Below.refl _ _).alloc2 (Nat.le_refl _) _ _
  have h0 : W0.heap[w.heap.size]? = some (recO id ver kind lang ra n rc) := by rw [hW0]; exact (alloc_old (by simp)).trans (alloc_at rfl)
  have h1 : W0.heap[w.heap.size + 1]? = some (recO id2 ver2 kind2 lang2 ra2 n2 rc2) := by rw [hW0]; exact alloc_at (by simp)
  have hs0 : W0.heap.size = w.heap.size + 2 := by rw [hW0]; simp
  have HBK : Hid (∀ W, Below W0.heap.size W0 W → (W.cell? ⟨w.heap.size, 0, none⟩ = some (.int .i64 id) ∧ W.cell? ⟨w.heap.size, 1, none⟩ = some (.int .i64 ver) ∧ W.cell? ⟨w.heap.size, 2, none⟩ = some (.int .i64 kind) ∧ W.cell? ⟨w.heap.size, 3, none⟩ = some (.string lang) ∧ W.cell? ⟨w.heap.size, 4, none⟩ = some (.slice ra n rc) ∧ W.cell? ⟨w.heap.size + 1, 0, none⟩ = some (.int .i64 id2) ∧ W.cell? ⟨w.heap.size + 1, 1, none⟩ = some (.int .i64 ver2) ∧ W.cell? ⟨w.heap.size + 1, 2, none⟩ = some (.int .i64 kind2) ∧ W.cell? ⟨w.heap.size + 1, 3, none⟩ = some (.string lang2) ∧ W.cell? ⟨w.heap.size + 1, 4, none⟩ = some (.slice ra2 n2 rc2)) ∧ Below w.heap.size w W) := Lib.hid (fun W h => by
    have k0 := (h.block w.heap.size (by omega)).trans h0
    have k1 := (h.block (w.heap.size + 1) (by omega)).trans h1
    exact ⟨⟨(Lib.cell_of_heap k0 0).trans rfl, (Lib.cell_of_heap k0 1).trans rfl, (Lib.cell_of_heap k0 2).trans rfl, (Lib.cell_of_heap k0 3).trans rfl, (Lib.cell_of_heap k0 4).trans rfl, (Lib.cell_of_heap k1 0).trans rfl, (Lib.cell_of_heap k1 1).trans rfl, (Lib.cell_of_heap k1 2).trans rfl, (Lib.cell_of_heap k1 3).trans rfl, (Lib.cell_of_heap k1 4).trans rfl⟩, hb0.bt h⟩)
  have HW0 := Lib.hid hW0
  have HB0 := Lib.hid hb0
  obtain ⟨⟨p0, p1, p2, p3, p4, p5, p6, p7, p8, p9⟩, -⟩ := HBK.out W0 (Below.refl _ _)
  rw [hW0] at p0 p1 p2 p3 p4 p5 p6 p7 p8 p9
  clear hb0 h0 h1 hs0 hW0
  go_enter Tryz.func3, Tryz.ntmps3
  go_wp2_with fail
  rw [← HW0.out]
  refine (HS1.out W0 HB0.out).mono ?_
  rintro e w1 ⟨rfl, b1⟩
  have HB1 := Lib.hid b1
  clear b1 p0 p1 p2 p3 p4 p5 p6 p7 p8 p9
  obtain ⟨⟨p0, p1, p2, p3, p4, p5, p6, p7, p8, p9⟩, hb1⟩ := HBK.out w1 HB1.out
  have HA1 := Lib.hid (HAL.out w1 hb1)
  have HC2 := Lib.hid (HS2.out w1 hb1)
  have HBW1 := Lib.hid hb1
  clear hb1
  cases S1 with
  | false =>
    go_wp2_with fail
    refine HA1.out.mono ?_
    rintro e w2 ⟨rfl, b2⟩
    have HB2 := Lib.hid (HBW1.out.bt b2)
    clear b2 p0 p1 p2 p3 p4 p5 p6 p7 p8 p9
    go_wp2
    go_ret
    exact ⟨rfl, HB2.out⟩
  | true =>
    go_wp2_with fail
    refine HC2.out.mono ?_
    rintro e w2 ⟨rfl, b2⟩
    have HB2 := Lib.hid (HB1.out.bt b2)
    clear b2 p0 p1 p2 p3 p4 p5 p6 p7 p8 p9
    obtain ⟨⟨p0, p1, p2, p3, p4, p5, p6, p7, p8, p9⟩, hb2⟩ := HBK.out w2 HB2.out
    have HA2 := Lib.hid (HAL.out w2 hb2)
    have HBW2 := Lib.hid hb2
    cases S2 with
    | false =>
      clear p0 p1 p2 p3 p4 p5 p6 p7 p8 p9 hb2
      go_wp2_with fail
      refine HA2.out.mono ?_
      rintro e w3 ⟨rfl, b3⟩
      have HB3 := Lib.hid (HBW2.out.bt b3)
      clear b3
      go_wp2
      go_ret
      exact ⟨rfl, HB3.out⟩
    | true =>
      clear p0 p1 p2 p3 p4 p5 p6 p7 p8 p9 hb2
      have C1 := Lib.hid (HPR.out (by trivial))
      have C2 := Lib.hid (HRR.out (by trivial))
      have C3 := Lib.hid (HPS.out (by trivial) (by trivial))
      have C4 := Lib.hid (HRS.out (by trivial) (by trivial))
      have C5 := Lib.hid (HPA.out (by trivial))
      go_wp2_with fail
      obtain ⟨C, hC⟩ : ∃ C : World → Prop, C = fun w' => Below w2.heap.size w2 w' := ⟨_, rfl⟩
      have hCB : ∀ w', C w' → Below w.heap.size w w' := fun w' h => by rw [hC] at h; exact HBW2.out.bt h
      have hC0 : C { w2 with drawn := w2.drawn + 1 } := by rw [hC]; exact (Below.refl _ _).drew
      have hstep : ∀ w' w'', C w' → Below w'.heap.size w' w'' → C w'' := fun w' w'' h k => by rw [hC] at h ⊢; exact h.bt k
      have hcells : ∀ w', C w' → w'.cell? ⟨w.heap.size, 0, none⟩ = some (.int .i64 id) ∧ w'.cell? ⟨w.heap.size, 1, none⟩ = some (.int .i64 ver) ∧ w'.cell? ⟨w.heap.size, 2, none⟩ = some (.int .i64 kind) ∧ w'.cell? ⟨w.heap.size, 3, none⟩ = some (.string lang) ∧ w'.cell? ⟨w.heap.size, 4, none⟩ = some (.slice ra n rc) ∧ w'.cell? ⟨w.heap.size + 1, 0, none⟩ = some (.int .i64 id2) ∧ w'.cell? ⟨w.heap.size + 1, 1, none⟩ = some (.int .i64 ver2) ∧ w'.cell? ⟨w.heap.size + 1, 2, none⟩ = some (.int .i64 kind2) ∧ w'.cell? ⟨w.heap.size + 1, 3, none⟩ = some (.string lang2) ∧ w'.cell? ⟨w.heap.size + 1, 4, none⟩ = some (.slice ra2 n2 rc2) := fun w' h => by rw [hC] at h; exact (HBK.out w' (HB2.out.bt h)).1
      clear hC
      refine wp_region_quiet (C := C) (by kernel_rfl) (by kernel_rfl) hC0 ?_
      show wpQuiet _ _ _ _ [_, _, _, _, _, _, _, _, _, _, _, _, _, _, _, _, _, _, _, _, _, _, _] _
      repeat
        with_reducible refine wpQuiet_step (fun K hK => ?_)
        go_simp
        first
          | (with_reducible refine hK _ ?_; clear hK K)
          | (apply Exists.intro
             with_reducible refine ⟨fun w' hw' => ?_, hK _ ?_⟩
             · first
               | with_reducible rfl
               | (obtain ⟨q0, q1, q2, q3, q4, q5, q6, q7, q8, q9⟩ := hcells w' hw'; go_simp; with_reducible rfl)
               | ((first
                   | with_reducible refine (C1.out w' (hCB w' hw')).mono ?_
                   | with_reducible refine (C2.out w' (hCB w' hw')).mono ?_
                   | with_reducible refine (C3.out w' (hCB w' hw')).mono ?_
                   | with_reducible refine (C4.out w' (hCB w' hw')).mono ?_
                   | with_reducible refine (C5.out w' (hCB w' hw')).mono ?_
                   | with_reducible refine (HAL.out w' (hCB w' hw')).mono ?_)
                  exact fun e w'' ⟨he, hb⟩ => ⟨he, hstep w' w'' hw' hb⟩)
             clear hK K)
      refine wpQuiet_nil ?_
      intro w3 hw3
      have HB3 := Lib.hid (hCB w3 hw3)
      clear hcells hCB hstep hw3
      go_wp2
      go_ret
      exact ⟨rfl, HB3.out⟩
end Go.Proofs.YtkfjeolpbopcnaaGreatDoor
