/- The walks of the statements MigrateRight, MigrateUp, MigrateDown (layer 18): each returns true, and what was there before stays. -/
import Derived.Test.YtimecccphbgdeaaDoorMlv
import Derived.Test.YtimecccphbgdeaaDoorMru
import Derived.Test.YtimecccphbgdeaaDoorMrd
namespace Go.Proofs.YtimecccphbgdeaaDoor
open Go Go.RowKit

theorem rec_small {r : Rec} (hcd : ∀ f ∈ r.fields, ∀ s ∈ f.subs, s.1 < 256) (h : smallR r = true) : r.small := by
  obtain ⟨h1, h2⟩ := smallR_small h
  exact ⟨by omega, fun f hf => ⟨by have := (h2 f hf).1; omega, fun s hs => by have := (h2 f hf).2 s hs; omega, hcd f hf⟩⟩

set_option maxRecDepth 100000 in
set_option maxHeartbeats 4000000 in
theorem law_MigrateRight (r : Rec) (a : Option Addr) (n c : Nat) (w : World) (hE : Env w) (hv : Flds w (.slice a n c) r.fields) (hcd : ∀ f ∈ r.fields, ∀ s ∈ f.subs, s.1 < 256) :
    Calls Tryd.prog 3 #[.agg #[.int .i64 r.id, .int .i64 r.ver, .int .i64 r.kind, .string r.lang, .slice a n c]] w fun e w' => e = .returned (.bool true) ∧ Below w.heap.size w w' := by
  have hb0 : Below w.heap.size w (recW w r.id r.ver r.kind r.lang a n c) := (Below.refl _ _).alloc (Nat.le_refl _) _
  have HB0 := Lib.hid hb0
  have HV : Hid (∀ W, Below w.heap.size w W → Flds W (.slice a n c) r.fields) := Lib.hid (fun W h => hv.below h (Nat.le_refl _))
  have HE : Hid (∀ W, Below w.heap.size w W → Env W) := Lib.hid (fun W h => hE.below h)
  have HAL : Hid (∀ W, Below w.heap.size w W → Calls Tryd.prog 9 #[] W fun e w' => e = .returned (.bool true) ∧ Below W.heap.size W w') := Lib.hid (fun W h => alive_any W (hE.below h))
  have HSL : Hid (∀ W, Below w.heap.size w W → Calls Tryd.prog 10 #[.agg #[.int .i64 r.id, .int .i64 r.ver, .int .i64 r.kind, .string r.lang, .slice a n c]] W fun e w' => e = .returned (.bool (smallR r)) ∧ Below W.heap.size W w') := Lib.hid (fun W h => rSmall r a n c W (hv.below h (Nat.le_refl _)))
  have CELLS : ∀ W, Below (recW w r.id r.ver r.kind r.lang a n c).heap.size (recW w r.id r.ver r.kind r.lang a n c) W → W.cell? ⟨w.heap.size, 0, none⟩ = some (.int .i64 r.id) ∧ W.cell? ⟨w.heap.size, 1, none⟩ = some (.int .i64 r.ver) ∧ W.cell? ⟨w.heap.size, 2, none⟩ = some (.int .i64 r.kind) ∧ W.cell? ⟨w.heap.size, 3, none⟩ = some (.string r.lang) ∧ W.cell? ⟨w.heap.size, 4, none⟩ = some (.slice a n c) :=
    fun W h => ⟨block_cells h 0 _ rfl, block_cells h 1 _ rfl, block_cells h 2 _ rfl, block_cells h 3 _ rfl, block_cells h 4 _ rfl⟩
  have HCL := Lib.hid CELLS
  have HR : Hid (smallR r = true → ∀ W, Below w.heap.size w W → (Calls Tryd.prog 11 #[.agg #[.int .i64 r.id, .int .i64 r.ver, .int .i64 r.kind, .string r.lang, .slice a n c]] W fun e w' => e = .returned (.bool (rightM r)) ∧ Below W.heap.size W w') ∧ (Calls Tryd.prog 12 #[.agg #[.int .i64 r.id, .int .i64 r.ver, .int .i64 r.kind, .string r.lang, .slice a n c]] W fun e w' => e = .returned (.bool (rightM r)) ∧ Below W.heap.size W w')) := Lib.hid (fun h W hW => ⟨pMRight r a n c W (hE.below hW) (hv.below hW (Nat.le_refl _)) (rec_small hcd h), rMRight r a n c W (hv.below hW (Nat.le_refl _)) (rec_small hcd h)⟩)
  obtain ⟨M, hM⟩ : ∃ M, M = rightM r := ⟨_, rfl⟩
  obtain ⟨S, hS⟩ : ∃ S, S = smallR r := ⟨_, rfl⟩
  rw [← hM, ← hS] at HR
  rw [← hS] at HSL
  obtain ⟨id, ver, kind, lang, l⟩ := r
  simp only at HB0 HAL HSL HCL HR ⊢
  clear CELLS hb0 hv hE hcd hM hS HV HE
  cases S with
  | false =>
    go_enter Tryd.func3, Tryd.ntmps3
    go_wp2_with fail
    refine (HAL.out _ HB0.out).mono ?_
    rintro e w1 ⟨rfl, b1⟩
    have HC1 := Lib.hid b1
    have HB1 := Lib.hid (HB0.out.bt b1)
    obtain ⟨q0, q1, q2, q3, q4⟩ := HCL.out w1 b1
    clear b1
    go_wp2_with fail
    obtain ⟨C, hC⟩ : ∃ C : World → Prop, C = fun w' => Below w1.heap.size w1 w' := ⟨_, rfl⟩
    have hCB : ∀ w', C w' → Below w1.heap.size w1 w' := fun w' h => by rw [hC] at h; exact h
    have hC0 : C { w1 with drawn := w1.drawn + 1 } := by rw [hC]; exact (Below.refl _ _).drew
    have hstep : ∀ w' w'', C w' → Below w'.heap.size w' w'' → C w'' := fun w' w'' h k => by rw [hC] at h ⊢; exact h.trans (k.mono h.size)
    have hcells : ∀ w', C w' → w'.cell? ⟨w.heap.size, 0, none⟩ = some (.int .i64 id) ∧ w'.cell? ⟨w.heap.size, 1, none⟩ = some (.int .i64 ver) ∧ w'.cell? ⟨w.heap.size, 2, none⟩ = some (.int .i64 kind) ∧ w'.cell? ⟨w.heap.size, 3, none⟩ = some (.string lang) ∧ w'.cell? ⟨w.heap.size, 4, none⟩ = some (.slice a n c) := fun w' h => HCL.out w' (HC1.out.bt (hCB w' h))
    clear hC
    refine wp_region_quiet (C := C) (by kernel_rfl) (by kernel_rfl) hC0 ?_
    show wpQuiet _ _ _ _ [_, _, _, _, _, _, _, _, _, _, _] _
    repeat
      with_reducible refine wpQuiet_step (fun K hK => ?_)
      go_simp
      first
        | (with_reducible refine hK _ ?_; clear hK K)
        | (apply Exists.intro
           with_reducible refine ⟨fun w' hw' => ?_, hK _ ?_⟩
           · first
             | with_reducible rfl
             | (obtain ⟨q0, q1, q2, q3, q4⟩ := hcells w' hw'; go_simp; with_reducible rfl)
             | ((first
                 | with_reducible refine (HSL.out w' (HB1.out.bt (hCB w' hw'))).mono ?_)
                exact fun e w'' ⟨he, hb⟩ => ⟨he, hstep w' w'' hw' hb⟩)
           clear hK K)
    refine wpQuiet_nil ?_
    intro w2 hw2
    have HB2 := Lib.hid (HB1.out.bt (hCB w2 hw2))
    clear hcells hCB hstep hw2 q0 q1 q2 q3 q4
    go_wp2
    go_ret
    exact ⟨rfl, HB2.out⟩
  | true =>
    replace HR := Lib.hid (HR.out rfl)
    cases M
    all_goals
      go_enter Tryd.func3, Tryd.ntmps3
      go_wp2_with fail
      refine (HAL.out _ HB0.out).mono ?_
      rintro e w1 ⟨rfl, b1⟩
      have HC1 := Lib.hid b1
      have HB1 := Lib.hid (HB0.out.bt b1)
      obtain ⟨q0, q1, q2, q3, q4⟩ := HCL.out w1 b1
      clear b1
      go_wp2_with fail
      obtain ⟨C, hC⟩ : ∃ C : World → Prop, C = fun w' => Below w1.heap.size w1 w' := ⟨_, rfl⟩
      have hCB : ∀ w', C w' → Below w1.heap.size w1 w' := fun w' h => by rw [hC] at h; exact h
      have hC0 : C { w1 with drawn := w1.drawn + 1 } := by rw [hC]; exact (Below.refl _ _).drew
      have hstep : ∀ w' w'', C w' → Below w'.heap.size w' w'' → C w'' := fun w' w'' h k => by rw [hC] at h ⊢; exact h.trans (k.mono h.size)
      have hcells : ∀ w', C w' → w'.cell? ⟨w.heap.size, 0, none⟩ = some (.int .i64 id) ∧ w'.cell? ⟨w.heap.size, 1, none⟩ = some (.int .i64 ver) ∧ w'.cell? ⟨w.heap.size, 2, none⟩ = some (.int .i64 kind) ∧ w'.cell? ⟨w.heap.size, 3, none⟩ = some (.string lang) ∧ w'.cell? ⟨w.heap.size, 4, none⟩ = some (.slice a n c) := fun w' h => HCL.out w' (HC1.out.bt (hCB w' h))
      clear hC
      refine wp_region_quiet (C := C) (by kernel_rfl) (by kernel_rfl) hC0 ?_
      show wpQuiet _ _ _ _ [_, _, _, _, _, _, _, _, _, _, _] _
      repeat
        with_reducible refine wpQuiet_step (fun K hK => ?_)
        go_simp
        first
          | (with_reducible refine hK _ ?_; clear hK K)
          | (apply Exists.intro
             with_reducible refine ⟨fun w' hw' => ?_, hK _ ?_⟩
             · first
               | with_reducible rfl
               | (obtain ⟨q0, q1, q2, q3, q4⟩ := hcells w' hw'; go_simp; with_reducible rfl)
               | ((first
                   | with_reducible refine (HSL.out w' (HB1.out.bt (hCB w' hw'))).mono ?_
                   | with_reducible refine ((HR.out w' (HB1.out.bt (hCB w' hw'))).1).mono ?_
                   | with_reducible refine ((HR.out w' (HB1.out.bt (hCB w' hw'))).2).mono ?_)
                  exact fun e w'' ⟨he, hb⟩ => ⟨he, hstep w' w'' hw' hb⟩)
             clear hK K)
      refine wpQuiet_nil ?_
      intro w2 hw2
      have HB2 := Lib.hid (HB1.out.bt (hCB w2 hw2))
      clear hcells hCB hstep hw2 q0 q1 q2 q3 q4
      go_wp2
      go_ret
      exact ⟨rfl, HB2.out⟩

set_option maxRecDepth 100000 in
set_option maxHeartbeats 4000000 in
theorem law_MigrateUp (r : Rec) (a : Option Addr) (n c : Nat) (w : World) (hE : Env w) (hv : Flds w (.slice a n c) r.fields) (hcd : ∀ f ∈ r.fields, ∀ s ∈ f.subs, s.1 < 256) :
    Calls Tryd.prog 4 #[.agg #[.int .i64 r.id, .int .i64 r.ver, .int .i64 r.kind, .string r.lang, .slice a n c]] w fun e w' => e = .returned (.bool true) ∧ Below w.heap.size w w' := by
  have hb0 : Below w.heap.size w (recW w r.id r.ver r.kind r.lang a n c) := (Below.refl _ _).alloc (Nat.le_refl _) _
  have HB0 := Lib.hid hb0
  have HV : Hid (∀ W, Below w.heap.size w W → Flds W (.slice a n c) r.fields) := Lib.hid (fun W h => hv.below h (Nat.le_refl _))
  have HE : Hid (∀ W, Below w.heap.size w W → Env W) := Lib.hid (fun W h => hE.below h)
  have HAL : Hid (∀ W, Below w.heap.size w W → Calls Tryd.prog 9 #[] W fun e w' => e = .returned (.bool true) ∧ Below W.heap.size W w') := Lib.hid (fun W h => alive_any W (hE.below h))
  have HSL : Hid (∀ W, Below w.heap.size w W → Calls Tryd.prog 10 #[.agg #[.int .i64 r.id, .int .i64 r.ver, .int .i64 r.kind, .string r.lang, .slice a n c]] W fun e w' => e = .returned (.bool (smallR r)) ∧ Below W.heap.size W w') := Lib.hid (fun W h => rSmall r a n c W (hv.below h (Nat.le_refl _)))
  have CELLS : ∀ W, Below (recW w r.id r.ver r.kind r.lang a n c).heap.size (recW w r.id r.ver r.kind r.lang a n c) W → W.cell? ⟨w.heap.size, 0, none⟩ = some (.int .i64 r.id) ∧ W.cell? ⟨w.heap.size, 1, none⟩ = some (.int .i64 r.ver) ∧ W.cell? ⟨w.heap.size, 2, none⟩ = some (.int .i64 r.kind) ∧ W.cell? ⟨w.heap.size, 3, none⟩ = some (.string r.lang) ∧ W.cell? ⟨w.heap.size, 4, none⟩ = some (.slice a n c) :=
    fun W h => ⟨block_cells h 0 _ rfl, block_cells h 1 _ rfl, block_cells h 2 _ rfl, block_cells h 3 _ rfl, block_cells h 4 _ rfl⟩
  have HCL := Lib.hid CELLS
  have HP : Hid (smallR r = true → ∀ W, Below w.heap.size w W → (Calls Tryd.prog 13 #[.agg #[.int .i64 r.id, .int .i64 r.ver, .int .i64 r.kind, .string r.lang, .slice a n c]] W (RetRec W (upP r))) ∧ (Calls Tryd.prog 14 #[.agg #[.int .i64 r.id, .int .i64 r.ver, .int .i64 r.kind, .string r.lang, .slice a n c]] W (RetRec W (upP r)))) := Lib.hid (fun h W hW => ⟨pUp r a n c W (hE.below hW) (hv.below hW (Nat.le_refl _)) (rec_small hcd h), rUp r a n c W (hv.below hW (Nat.le_refl _)) (rec_small hcd h)⟩)
  have HSP : Hid (smallR r = true → (upP r).1.small) := Lib.hid (fun h => upP_small (rec_small hcd h))
  obtain ⟨p, hp⟩ : ∃ p, p = upP r := ⟨_, rfl⟩
  obtain ⟨S, hS⟩ : ∃ S, S = smallR r := ⟨_, rfl⟩
  rw [← hp, ← hS] at HP HSP
  rw [← hS] at HSL
  obtain ⟨id, ver, kind, lang, l⟩ := r
  simp only at HB0 HAL HSL HCL HP ⊢
  clear CELLS hb0 hv hE hcd hp hS HV HE
  cases S with
  | false =>
    go_enter Tryd.func4, Tryd.ntmps4
    go_wp2_with fail
    refine (HAL.out _ HB0.out).mono ?_
    rintro e w1 ⟨rfl, b1⟩
    have HC1 := Lib.hid b1
    have HB1 := Lib.hid (HB0.out.bt b1)
    obtain ⟨q0, q1, q2, q3, q4⟩ := HCL.out w1 b1
    clear b1
    go_wp2_with fail
    refine (HSL.out _ HB1.out).mono ?_
    rintro e w2 ⟨rfl, b2⟩
    have HB2 := Lib.hid (HB1.out.bt b2)
    clear b2
    go_wp2
    go_ret
    exact ⟨rfl, HB2.out⟩
  | true =>
    replace HP := Lib.hid (HP.out rfl)
    replace HSP := Lib.hid (HSP.out rfl)
    go_enter Tryd.func4, Tryd.ntmps4
    go_wp2_with fail
    refine (HAL.out _ HB0.out).mono ?_
    rintro e w1 ⟨rfl, b1⟩
    have HC1 := Lib.hid b1
    have HB1 := Lib.hid (HB0.out.bt b1)
    obtain ⟨q0, q1, q2, q3, q4⟩ := HCL.out w1 b1
    clear b1
    go_wp2_with fail
    refine (HSL.out _ HB1.out).mono ?_
    rintro e w2 ⟨rfl, b2⟩
    have HC2 := Lib.hid (HC1.out.bt b2)
    have HB2 := Lib.hid (HB1.out.bt b2)
    clear b2 q0 q1 q2 q3 q4
    obtain ⟨q0, q1, q2, q3, q4⟩ := HCL.out w2 HC2.out
    go_wp2_with fail
    refine (HP.out w2 HB2.out).1.mono ?_
    rintro e w3 ⟨v3, rfl, ⟨a3, n3, c3, rfl, hf3⟩, b3⟩
    obtain ⟨⟨pid, pver, pkind, plang, pl⟩, pe⟩ := p
    simp only at hf3 HP HSP ⊢
    have HF3 := Lib.hid (hf3.below (Below.alloc (Below.refl w3.heap.size w3) (Nat.le_refl _) (.cells #[.int .i64 pid, .int .i64 pver, .int .i64 pkind, .string plang, .slice a3 n3 c3] 24)) (Nat.le_refl _))
    have HC3 := Lib.hid ((HC2.out.bt b3).alloc (HC2.out.bt b3).size (.cells #[.int .i64 pid, .int .i64 pver, .int .i64 pkind, .string plang, .slice a3 n3 c3] 24))
    have HB3 := Lib.hid ((HB2.out.bt b3).alloc (HB2.out.bt b3).size (.cells #[.int .i64 pid, .int .i64 pver, .int .i64 pkind, .string plang, .slice a3 n3 c3] 24))
    have HK3 : Hid ((w3.alloc (.cells #[.int .i64 pid, .int .i64 pver, .int .i64 pkind, .string plang, .slice a3 n3 c3] 24)).heap[w3.heap.size]? = some (.cells #[.int .i64 pid, .int .i64 pver, .int .i64 pkind, .string plang, .slice a3 n3 c3] 24 (0, 0))) := Lib.hid (heap_alloc_new w3 _)
    clear b3 hf3 q0 q1 q2 q3 q4
    obtain ⟨q0, q1, q2, q3, q4⟩ := HCL.out _ HC3.out
    go_wp2_with fail
    refine (HP.out _ HB3.out).2.mono ?_
    rintro e w4 ⟨v4, rfl, ⟨a4, n4, c4, rfl, hf4⟩, b4⟩
    simp only at hf4 ⊢
    have hk4 := (b4.block _ (Array.getElem?_eq_some_iff.1 HK3.out).1).trans HK3.out
    have ha4 := Below.alloc (Below.refl w4.heap.size w4) (Nat.le_refl _) (.cells #[.int .i64 pid, .int .i64 pver, .int .i64 pkind, .string plang, .slice a4 n4 c4] 24)
    have hk5 := (ha4.block _ (Array.getElem?_eq_some_iff.1 hk4).1).trans hk4
    have r0 := Lib.cell_of_heap hk5 0
    have r1 := Lib.cell_of_heap hk5 1
    have r2 := Lib.cell_of_heap hk5 2
    have r3 := Lib.cell_of_heap hk5 3
    have r4 := Lib.cell_of_heap hk5 4
    have hsame := rSameRec ⟨pid, pver, pkind, plang, pl⟩ ⟨pid, pver, pkind, plang, pl⟩ a3 a4 n3 c3 n4 c4 _ ((HF3.out.below b4 (Nat.le_refl _)).below ha4 (Nat.le_refl _)) (hf4.below ha4 (Nat.le_refl _)) rfl rfl rfl rfl rfl HSP.out HSP.out
    have HSA := Lib.hid hsame
    have HB4 := Lib.hid ((HB3.out.bt b4).bt ha4)
    have hee : (pe == pe) = true := by simp
    clear hsame b4 hf4 hk4 hk5 ha4 q0 q1 q2 q3 q4
    go_wp2_with fail
    refine HSA.out.mono ?_
    rintro e w5 ⟨rfl, b5⟩
    have HB5 := Lib.hid (HB4.out.bt b5)
    clear b5
    go_wp2
    go_ret
    exact ⟨rfl, HB5.out⟩

set_option maxRecDepth 100000 in
set_option maxHeartbeats 4000000 in
theorem law_MigrateDown (r : Rec) (a : Option Addr) (n c : Nat) (w : World) (hE : Env w) (hv : Flds w (.slice a n c) r.fields) (hcd : ∀ f ∈ r.fields, ∀ s ∈ f.subs, s.1 < 256) :
    Calls Tryd.prog 5 #[.agg #[.int .i64 r.id, .int .i64 r.ver, .int .i64 r.kind, .string r.lang, .slice a n c]] w fun e w' => e = .returned (.bool true) ∧ Below w.heap.size w w' := by
  have hb0 : Below w.heap.size w (recW w r.id r.ver r.kind r.lang a n c) := (Below.refl _ _).alloc (Nat.le_refl _) _
  have HB0 := Lib.hid hb0
  have HV : Hid (∀ W, Below w.heap.size w W → Flds W (.slice a n c) r.fields) := Lib.hid (fun W h => hv.below h (Nat.le_refl _))
  have HE : Hid (∀ W, Below w.heap.size w W → Env W) := Lib.hid (fun W h => hE.below h)
  have HAL : Hid (∀ W, Below w.heap.size w W → Calls Tryd.prog 9 #[] W fun e w' => e = .returned (.bool true) ∧ Below W.heap.size W w') := Lib.hid (fun W h => alive_any W (hE.below h))
  have HSL : Hid (∀ W, Below w.heap.size w W → Calls Tryd.prog 10 #[.agg #[.int .i64 r.id, .int .i64 r.ver, .int .i64 r.kind, .string r.lang, .slice a n c]] W fun e w' => e = .returned (.bool (smallR r)) ∧ Below W.heap.size W w') := Lib.hid (fun W h => rSmall r a n c W (hv.below h (Nat.le_refl _)))
  have CELLS : ∀ W, Below (recW w r.id r.ver r.kind r.lang a n c).heap.size (recW w r.id r.ver r.kind r.lang a n c) W → W.cell? ⟨w.heap.size, 0, none⟩ = some (.int .i64 r.id) ∧ W.cell? ⟨w.heap.size, 1, none⟩ = some (.int .i64 r.ver) ∧ W.cell? ⟨w.heap.size, 2, none⟩ = some (.int .i64 r.kind) ∧ W.cell? ⟨w.heap.size, 3, none⟩ = some (.string r.lang) ∧ W.cell? ⟨w.heap.size, 4, none⟩ = some (.slice a n c) :=
    fun W h => ⟨block_cells h 0 _ rfl, block_cells h 1 _ rfl, block_cells h 2 _ rfl, block_cells h 3 _ rfl, block_cells h 4 _ rfl⟩
  have HCL := Lib.hid CELLS
  have HP : Hid (smallR r = true → ∀ W, Below w.heap.size w W → (Calls Tryd.prog 16 #[.agg #[.int .i64 r.id, .int .i64 r.ver, .int .i64 r.kind, .string r.lang, .slice a n c]] W (RetRec W (downP r))) ∧ (Calls Tryd.prog 17 #[.agg #[.int .i64 r.id, .int .i64 r.ver, .int .i64 r.kind, .string r.lang, .slice a n c]] W (RetRec W (downP r)))) := Lib.hid (fun h W hW => ⟨pDown r a n c W (hE.below hW) (hv.below hW (Nat.le_refl _)) (rec_small hcd h), rDown r a n c W (hv.below hW (Nat.le_refl _)) (rec_small hcd h)⟩)
  have HSP : Hid (smallR r = true → (downP r).1.small) := Lib.hid (fun h => downP_small (rec_small hcd h))
  obtain ⟨p, hp⟩ : ∃ p, p = downP r := ⟨_, rfl⟩
  obtain ⟨S, hS⟩ : ∃ S, S = smallR r := ⟨_, rfl⟩
  rw [← hp, ← hS] at HP HSP
  rw [← hS] at HSL
  obtain ⟨id, ver, kind, lang, l⟩ := r
  simp only at HB0 HAL HSL HCL HP ⊢
  clear CELLS hb0 hv hE hcd hp hS HV HE
  cases S with
  | false =>
    go_enter Tryd.func5, Tryd.ntmps5
    go_wp2_with fail
    refine (HAL.out _ HB0.out).mono ?_
    rintro e w1 ⟨rfl, b1⟩
    have HC1 := Lib.hid b1
    have HB1 := Lib.hid (HB0.out.bt b1)
    obtain ⟨q0, q1, q2, q3, q4⟩ := HCL.out w1 b1
    clear b1
    go_wp2_with fail
    refine (HSL.out _ HB1.out).mono ?_
    rintro e w2 ⟨rfl, b2⟩
    have HB2 := Lib.hid (HB1.out.bt b2)
    clear b2
    go_wp2
    go_ret
    exact ⟨rfl, HB2.out⟩
  | true =>
    replace HP := Lib.hid (HP.out rfl)
    replace HSP := Lib.hid (HSP.out rfl)
    go_enter Tryd.func5, Tryd.ntmps5
    go_wp2_with fail
    refine (HAL.out _ HB0.out).mono ?_
    rintro e w1 ⟨rfl, b1⟩
    have HC1 := Lib.hid b1
    have HB1 := Lib.hid (HB0.out.bt b1)
    obtain ⟨q0, q1, q2, q3, q4⟩ := HCL.out w1 b1
    clear b1
    go_wp2_with fail
    refine (HSL.out _ HB1.out).mono ?_
    rintro e w2 ⟨rfl, b2⟩
    have HC2 := Lib.hid (HC1.out.bt b2)
    have HB2 := Lib.hid (HB1.out.bt b2)
    clear b2 q0 q1 q2 q3 q4
    obtain ⟨q0, q1, q2, q3, q4⟩ := HCL.out w2 HC2.out
    go_wp2_with fail
    refine (HP.out w2 HB2.out).1.mono ?_
    rintro e w3 ⟨v3, rfl, ⟨a3, n3, c3, rfl, hf3⟩, b3⟩
    obtain ⟨⟨pid, pver, pkind, plang, pl⟩, pe⟩ := p
    simp only at hf3 HP HSP ⊢
    have HF3 := Lib.hid (hf3.below (Below.alloc (Below.refl w3.heap.size w3) (Nat.le_refl _) (.cells #[.int .i64 pid, .int .i64 pver, .int .i64 pkind, .string plang, .slice a3 n3 c3] 24)) (Nat.le_refl _))
    have HC3 := Lib.hid ((HC2.out.bt b3).alloc (HC2.out.bt b3).size (.cells #[.int .i64 pid, .int .i64 pver, .int .i64 pkind, .string plang, .slice a3 n3 c3] 24))
    have HB3 := Lib.hid ((HB2.out.bt b3).alloc (HB2.out.bt b3).size (.cells #[.int .i64 pid, .int .i64 pver, .int .i64 pkind, .string plang, .slice a3 n3 c3] 24))
    have HK3 : Hid ((w3.alloc (.cells #[.int .i64 pid, .int .i64 pver, .int .i64 pkind, .string plang, .slice a3 n3 c3] 24)).heap[w3.heap.size]? = some (.cells #[.int .i64 pid, .int .i64 pver, .int .i64 pkind, .string plang, .slice a3 n3 c3] 24 (0, 0))) := Lib.hid (heap_alloc_new w3 _)
    clear b3 hf3 q0 q1 q2 q3 q4
    obtain ⟨q0, q1, q2, q3, q4⟩ := HCL.out _ HC3.out
    go_wp2_with fail
    refine (HP.out _ HB3.out).2.mono ?_
    rintro e w4 ⟨v4, rfl, ⟨a4, n4, c4, rfl, hf4⟩, b4⟩
    simp only at hf4 ⊢
    have hk4 := (b4.block _ (Array.getElem?_eq_some_iff.1 HK3.out).1).trans HK3.out
    have ha4 := Below.alloc (Below.refl w4.heap.size w4) (Nat.le_refl _) (.cells #[.int .i64 pid, .int .i64 pver, .int .i64 pkind, .string plang, .slice a4 n4 c4] 24)
    have hk5 := (ha4.block _ (Array.getElem?_eq_some_iff.1 hk4).1).trans hk4
    have r0 := Lib.cell_of_heap hk5 0
    have r1 := Lib.cell_of_heap hk5 1
    have r2 := Lib.cell_of_heap hk5 2
    have r3 := Lib.cell_of_heap hk5 3
    have r4 := Lib.cell_of_heap hk5 4
    have hsame := rSameRec ⟨pid, pver, pkind, plang, pl⟩ ⟨pid, pver, pkind, plang, pl⟩ a3 a4 n3 c3 n4 c4 _ ((HF3.out.below b4 (Nat.le_refl _)).below ha4 (Nat.le_refl _)) (hf4.below ha4 (Nat.le_refl _)) rfl rfl rfl rfl rfl HSP.out HSP.out
    have HSA := Lib.hid hsame
    have HB4 := Lib.hid ((HB3.out.bt b4).bt ha4)
    have hee : (pe == pe) = true := by simp
    clear hsame b4 hf4 hk4 hk5 ha4 q0 q1 q2 q3 q4
    go_wp2_with fail
    refine HSA.out.mono ?_
    rintro e w5 ⟨rfl, b5⟩
    have HB5 := Lib.hid (HB4.out.bt b5)
    clear b5
    go_wp2
    go_ret
    exact ⟨rfl, HB5.out⟩
end Go.Proofs.YtimecccphbgdeaaDoor
