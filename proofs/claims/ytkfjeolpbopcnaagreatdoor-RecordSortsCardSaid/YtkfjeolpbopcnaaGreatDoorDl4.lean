/- The law RecordSorts walked (layer 08). -/
import Derived.Test.YtkfjeolpbopcnaaGreatDoorEf
import Derived.Test.YtkfjeolpbopcnaaGreatDoorEg
import Derived.Test.YtkfjeolpbopcnaaGreatDoorDrs
import Derived.Deep.Quiet
namespace Go.Proofs.YtkfjeolpbopcnaaGreatDoor
open Go Go.RowKit

set_option maxRecDepth 100000 in
set_option maxHeartbeats 8000000 in
theorem law_RecordSorts (r : Rec) (a : Option Addr) (m c : Nat) (w : World) (hE : Env w) (hx0 : Flds w (.slice a m c) r.fields) (hq : Codes r) :
    Calls Tryz.prog 6 #[.agg #[.int .i64 r.id, .int .i64 r.ver, .int .i64 r.kind, .string r.lang, .slice a m c]] w fun e w' => e = .returned (.bool true) ∧ Below w.heap.size w w' := by
  obtain ⟨rfl, -⟩ := hx0.len
  have hx : RcdAt w ⟨r, a, c⟩ := hx0
  have HAL : Hid (∀ W, Below w.heap.size w W → Calls Tryz.prog 11 #[] W fun e w' => e = .returned (.bool true) ∧ Below W.heap.size W w') := Lib.hid (fun W h => lAlive W (hE.below h))
  have HVA : Hid (∀ W, Below w.heap.size w W → Calls Tryz.prog 16 #[.agg #[.int .i64 r.id, .int .i64 r.ver, .int .i64 r.kind, .string r.lang, .slice a r.fields.length c]] W fun e w' => e = .returned (.bool (validR r)) ∧ Below W.heap.size W w') := Lib.hid (fun W h => lValid ⟨r, a, c⟩ W (RcdAt.below hx h (Nat.le_refl _)) hq)
  have hl9 : validR r = true → r.fields.length ≤ 900 := fun hv => by have := (good_of hv hq).len; omega
  have HPS : Hid (validR r = true → ∀ W, Below w.heap.size w W → Calls Tryz.prog 25 #[.agg #[.int .i64 r.id, .int .i64 r.ver, .int .i64 r.kind, .string r.lang, .slice a r.fields.length c]] W (RetR1 W (withL r (sortR r.fields)))) := Lib.hid (fun hv W h => pSorted ⟨r, a, c⟩ W (hE.below h) (RcdAt.below hx h (Nat.le_refl _)) (hl9 hv))
  have HRS : Hid (validR r = true → ∀ W, Below w.heap.size w W → Calls Tryz.prog 26 #[.agg #[.int .i64 r.id, .int .i64 r.ver, .int .i64 r.kind, .string r.lang, .slice a r.fields.length c]] W (RetR1 W (withL r (sortR r.fields)))) := Lib.hid (fun hv W h => rSorted ⟨r, a, c⟩ W (RcdAt.below hx h (Nat.le_refl _)) (hl9 hv))
  have HG : Hid (validR r = true → (withL r (sortR r.fields)).fields.length ≤ 1000000 ∧ ∀ g ∈ (withL r (sortR r.fields)).fields, g.subs.length ≤ 1000000) := Lib.hid (fun hv => by
    have hg := good_of hv hq
    have hp := (sortR_good r.fields [] List.Pairwise.nil).2
    refine ⟨?_, fun g h => (hg.small.2 g (foldI_mem h)).subs⟩
    have := hp.length_eq
    show (sortR r.fields).length ≤ _
    unfold sortR
    simp only [List.nil_append] at this
    have := hg.len
    omega)
  obtain ⟨S, hS⟩ : ∃ P, P = withL r (sortR r.fields) := ⟨_, rfl⟩
  rw [← hS] at HPS HRS HG
  obtain ⟨V, hV⟩ : ∃ S, S = validR r := ⟨_, rfl⟩
  rw [← hV] at HVA HPS HRS HG
  clear hx0 hx hq hE hV hS hl9
  obtain ⟨id, ver, kind, lang, rf⟩ := r
  simp only at HVA HPS HRS ⊢
  obtain ⟨n, hn⟩ : ∃ n, n = rf.length := ⟨_, rfl⟩
  rw [← hn] at HVA HPS HRS ⊢
  clear hn
  obtain ⟨ra, hra⟩ : ∃ x, x = a := ⟨_, rfl⟩
  obtain ⟨rc, hrc⟩ : ∃ x, x = c := ⟨_, rfl⟩
  rw [← hra, ← hrc] at HVA HPS HRS ⊢
  clear hra hrc
  obtain ⟨W0, hW0⟩ : ∃ W, W = w.alloc (recO id ver kind lang ra n rc) := ⟨_, rfl⟩
  have hb0 : Below w.heap.size w W0 := by rw [hW0]; exact (Below.refl _ _).alloc (Nat.le_refl _) _
  have h0 : W0.heap[w.heap.size]? = some (recO id ver kind lang ra n rc) := by rw [hW0]; exact alloc_at rfl
  have hs0 : W0.heap.size = w.heap.size + 1 := by rw [hW0]; simp
  have HBK : Hid (∀ W, Below W0.heap.size W0 W → (W.cell? ⟨w.heap.size, 0, none⟩ = some (.int .i64 id) ∧ W.cell? ⟨w.heap.size, 1, none⟩ = some (.int .i64 ver) ∧ W.cell? ⟨w.heap.size, 2, none⟩ = some (.int .i64 kind) ∧ W.cell? ⟨w.heap.size, 3, none⟩ = some (.string lang) ∧ W.cell? ⟨w.heap.size, 4, none⟩ = some (.slice ra n rc)) ∧ Below w.heap.size w W) := Lib.hid (fun W h => by
    have k0 := (h.block w.heap.size (by omega)).trans h0
    exact ⟨⟨(Lib.cell_of_heap k0 0).trans rfl, (Lib.cell_of_heap k0 1).trans rfl, (Lib.cell_of_heap k0 2).trans rfl, (Lib.cell_of_heap k0 3).trans rfl, (Lib.cell_of_heap k0 4).trans rfl⟩, hb0.bt h⟩)
  have HW0 := Lib.hid hW0
  obtain ⟨⟨p0, p1, p2, p3, p4⟩, -⟩ := HBK.out W0 (Below.refl _ _)
  have HB0 : Hid (Below W0.heap.size W0 W0.drew) := Lib.hid (Below.refl _ _).drew
  clear hb0 h0 hs0
  cases V with
  | false =>
    clear HPS HRS HG p0 p1 p2 p3 p4
    go_enter Tryz.func6, Tryz.ntmps6
    go_wp2_with fail
    rw [← HW0.out]
    obtain ⟨C, hC⟩ : ∃ C : World → Prop, C = fun w' => Below W0.heap.size W0 w' := ⟨_, rfl⟩
    have hCB : ∀ w', C w' → Below w.heap.size w w' := fun w' h => by rw [hC] at h; exact (HBK.out w' h).2
    have hC0 : C { W0 with drawn := W0.drawn + 1 } := by rw [hC]; exact (Below.refl _ _).drew
    have hstep : ∀ w' w'', C w' → Below w'.heap.size w' w'' → C w'' := fun w' w'' h k => by rw [hC] at h ⊢; exact h.bt k
    have hcells : ∀ w', C w' → w'.cell? ⟨w.heap.size, 0, none⟩ = some (.int .i64 id) ∧ w'.cell? ⟨w.heap.size, 1, none⟩ = some (.int .i64 ver) ∧ w'.cell? ⟨w.heap.size, 2, none⟩ = some (.int .i64 kind) ∧ w'.cell? ⟨w.heap.size, 3, none⟩ = some (.string lang) ∧ w'.cell? ⟨w.heap.size, 4, none⟩ = some (.slice ra n rc) := fun w' h => by rw [hC] at h; exact (HBK.out w' h).1
    clear hC hW0
    refine wp_region_quiet (C := C) (by kernel_rfl) (by kernel_rfl) hC0 ?_
    show wpQuiet _ _ _ _ [_, _, _, _, _, _, _, _, _, _, _, _, _, _] _
    repeat
      with_reducible refine wpQuiet_step (fun K hK => ?_)
      go_simp
      first
        | (with_reducible refine hK _ ?_; clear hK K)
        | (apply Exists.intro
           with_reducible refine ⟨fun w' hw' => ?_, hK _ ?_⟩
           · first
             | with_reducible rfl
             | (obtain ⟨q0, q1, q2, q3, q4⟩ := hcells w' hw'; go_simp; with_reducible rfl)
             | ((first
                 | with_reducible refine (HVA.out w' (hCB w' hw')).mono ?_
                 | with_reducible refine (HAL.out w' (hCB w' hw')).mono ?_)
                exact fun e w'' ⟨he, hb⟩ => ⟨he, hstep w' w'' hw' hb⟩)
           clear hK K)
    refine wpQuiet_nil ?_
    intro w2 hw2
    have HB3 := Lib.hid (hCB w2 hw2)
    clear hcells hCB hstep hw2
    go_wp2
    go_ret
    exact ⟨rfl, HB3.out⟩
  | true =>
    have C1 := Lib.hid (HPS.out (by trivial))
    have C2 := Lib.hid (HRS.out (by trivial))
    have C3 := Lib.hid (HG.out (by trivial))
    have CV := Lib.hid (HVA.out _ (HBK.out _ HB0.out).2)
    rw [hW0] at p0 p1 p2 p3 p4
    clear HPS HRS HG HVA hW0
    go_enter Tryz.func6, Tryz.ntmps6
    go_upto_region 1 with fail
    rw [← HW0.out] at p0 p1 p2 p3 p4 ⊢
    go_region_with (first
      | (go_at_call 16
         refine CV.out.mono ?_
         rintro e w1 ⟨rfl, b1⟩
         have HB1 := Lib.hid (HB0.out.bt b1)
         have hk := HBK.out w1 HB1.out
         have k0 := hk.1.1
         have k1 := hk.1.2.1
         have k2 := hk.1.2.2.1
         have k3 := hk.1.2.2.2.1
         have k4 := hk.1.2.2.2.2
         have CA := Lib.hid (C1.out w1 hk.2)
         clear b1 hk)
      | (go_at_call 25
         refine CA.out.mono ?_
         rintro e w2 ⟨x1, y1, rfl, hr1, b2⟩
         have HR1 := Lib.hid hr1
         have HB2 := Lib.hid (HB1.out.bt b2)
         have hk := HBK.out w2 HB2.out
         have j0 := hk.1.1
         have j1 := hk.1.2.1
         have j2 := hk.1.2.2.1
         have j3 := hk.1.2.2.2.1
         have j4 := hk.1.2.2.2.2
         have CB := Lib.hid (C2.out w2 hk.2)
         clear hr1 b2 hk k0 k1 k2 k3 k4)
      | (go_at_call 26
         refine CB.out.mono ?_
         rintro e w3 ⟨x2, y2, rfl, hr2, b3⟩
         have HB3 := Lib.hid (HB2.out.bt b3)
         have hsr : Calls Tryz.prog 15 #[recV5 ⟨S, x1, y1⟩, recV5 ⟨S, x2, y2⟩] w3 fun e w' => e = .returned (.bool true) ∧ Below w3.heap.size w3 w' := by
           have := rSameRec S S x1 x2 S.fields.length y1 S.fields.length y2 w3 (RcdAt.below HR1.out b3 (Nat.le_refl _)) hr2 C3.out.1 C3.out.2 C3.out.2
           rw [sameRB_refl] at this
           exact this
         have CC := Lib.hid hsr
         clear hr2 b3 hsr j0 j1 j2 j3 j4)
      | (go_at_call 15
         refine CC.out.mono ?_
         rintro e w4 ⟨rfl, b4⟩
         have HB4 := Lib.hid (HB3.out.bt b4)
         have CD := Lib.hid (HAL.out w4 (HBK.out w4 HB4.out).2)
         clear b4)
      | (go_at_call 11
         refine CD.out.mono ?_
         rintro e w5 ⟨rfl, b5⟩
         have HB5 := Lib.hid (HB4.out.bt b5)
         clear b5))
    all_goals go_wp2
    all_goals go_ret
    all_goals exact ⟨rfl, (HBK.out _ HB5.out).2⟩
end Go.Proofs.YtkfjeolpbopcnaaGreatDoor
