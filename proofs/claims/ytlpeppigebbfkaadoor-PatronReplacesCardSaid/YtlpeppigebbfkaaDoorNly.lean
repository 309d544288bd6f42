/- The walks of the statements PatronAdds, PatronReplaces (layer 28): each returns true, and what was there before stays. -/
import Derived.Test.YtlpeppigebbfkaaDoorNlw
import Derived.Test.YtlpeppigebbfkaaDoorNrn
namespace Go.Proofs.YtlpeppigebbfkaaDoor
open Go Go.RowKit

theorem addL_len (F : ByteArray → Bool) (l : List Pat) (p : Pat) : (addL F l p).1.length ≤ l.length + 1 := by
  unfold addL
  split
  · exact Nat.zero_le _
  · split
    · exact Nat.le_of_eq (insP_len p l)
    · exact Nat.zero_le _
theorem replL_len (F : ByteArray → Bool) (l : List Pat) (p : Pat) : (replL F l p).1.length ≤ l.length := by
  unfold replL
  split
  · exact Nat.zero_le _
  · split
    · exact Nat.le_of_eq List.length_set
    · exact Nat.zero_le _
theorem removeL_len (l : List Pat) (x : Int) : (removeL l x).1.length ≤ l.length := by
  unfold removeL
  split
  · exact Nat.zero_le _
  · exact List.length_eraseIdx_le _ _

set_option maxRecDepth 100000 in
set_option maxHeartbeats 2000000 in
theorem law_PatronAdds (v : Value) (l : List Pat) (p : Pat) (w : World) (hE : Env w) (hv : Pats w v l) (hl : l.length ≤ maxLen) (_ : ∀ p ∈ l, p.fits) (hpf : p.fits) :
    Calls Tryd.prog 4 #[v, .agg #[.int .i64 p.id, .int .i64 p.kind, .int .i64 p.branch, .int .i64 p.till, .bool p.stop, .string p.name]] w fun e w' => e = .returned (.bool true) ∧ Below w.heap.size w w' := by
  obtain ⟨F, hF⟩ := form_dec
  obtain ⟨W0, hW0⟩ : ∃ W0, W0 = w.alloc (.cells #[.int .i64 p.id, .int .i64 p.kind, .int .i64 p.branch, .int .i64 p.till, .bool p.stop, .string p.name] 28) := ⟨_, rfl⟩
  have hb0 : Below w.heap.size w W0 := by rw [hW0]; exact (Below.refl _ _).alloc (Nat.le_refl _) _
  have hs0 : w.heap.size < W0.heap.size := by rw [hW0, World.size_alloc]; exact Nat.lt_succ_self _
  have h60 : Six W0 w.heap.size 0 p := by
    rw [hW0]
    refine ⟨?_, ?_, ?_, ?_, ?_, ?_⟩ <;> (rw [Lib.cell_of_heap (heap_alloc_new w _)]; rfl)
  have hE0 := hE.below hb0
  have hv0 := hv.below hb0 (Nat.le_refl _)
  have HW0 := Lib.hid hW0
  have HB0 := Lib.hid hb0
  have H60 := Lib.hid h60
  have HAL := Lib.hid (alive_any W0 hE0)
  have hva := fun W (hW : Below W0.heap.size W0 W) => lvalid hF v l W (hv0.below hW (Nat.le_refl _)) (by unfold maxLen at hl; omega)
  cases h : ((decide (l.length ≤ 60) && smallP l) && decide (right F l = 0)) with
  | false =>
    rw [h] at hva
    have HVA := Lib.hid hva
    clear hva h hv hE hl hF hW0 hb0 h60 hE0 hv0 hpf
    go_enter Tryd.func4, Tryd.ntmps4
    go_wp2_with fail
    rw [← HW0.out]
    refine HAL.out.mono ?_
    rintro e w1 ⟨rfl, b1⟩
    have HB1 := Lib.hid b1
    clear b1
    go_wp2_with fail
    refine (HVA.out w1 HB1.out).mono ?_
    rintro e w2 ⟨rfl, b2⟩
    have hb2 := HB1.out.bt b2
    have HB2 := Lib.hid hb2
    obtain ⟨q0, q1, q2, q3, q4, q5⟩ := H60.out.below hb2 hs0
    simp only [Nat.zero_add] at q0 q1 q2 q3 q4 q5
    clear b2 hb2
    go_wp2
    go_ret
    exact ⟨rfl, HB0.out.bt HB2.out⟩
  | true =>
    rw [h] at hva
    have HVA := Lib.hid hva
    simp only [Bool.and_eq_true, decide_eq_true_eq] at h
    obtain ⟨⟨h60', hsm⟩, hr⟩ := h
    have hn : ∀ q ∈ l, q.name.size ≤ 1000000 := fun q hq => by have := smallP_names hsm q hq; omega
    have hsz9 := hpf.name
    by_cases hs1 : p.name.size ≤ 1000
    · have hsz : ((p.name.size : Nat) : Int) ≤ 1000 := by omega
      have hpa := fun W (hW : Below W0.heap.size W0 W) => pAdd hF v l p W (hE0.below hW) (hv0.below hW (Nat.le_refl _)) (by omega) hn (by omega)
      have hra := fun W (hW : Below W0.heap.size W0 W) => rAdd hF v l p W (hv0.below hW (Nat.le_refl _)) (by omega) hn (by omega)
      have hl1 : ((addL F l p).1).length ≤ 1000000 := by have := addL_len F l p; omega
      obtain ⟨X1, hX1⟩ : ∃ X, X = (addL F l p).1 := ⟨_, rfl⟩
      obtain ⟨R1, hR1⟩ : ∃ R, R = (addL F l p).2 := ⟨_, rfl⟩
      rw [← hX1] at hl1
      simp only [← hX1, ← hR1] at hpa hra
      have HL1 := Lib.hid hl1
      have Kpa := Lib.hid hpa
      have Kra := Lib.hid hra
      clear hva hv hE hl hF hW0 hb0 h60 hE0 hv0 hpf hn hsm hr h60' hsz9 hs1 hpa hra hl1 hX1 hR1
      go_enter Tryd.func4, Tryd.ntmps4
      go_wp2_with fail
      rw [← HW0.out]
      refine HAL.out.mono ?_
      rintro e w1 ⟨rfl, b1⟩
      have HB1 := Lib.hid b1
      clear b1
      go_wp2_with fail
      refine (HVA.out w1 HB1.out).mono ?_
      rintro e w2 ⟨rfl, b2⟩
      have hb2 := HB1.out.bt b2
      have HB2 := Lib.hid hb2
      obtain ⟨q0, q1, q2, q3, q4, q5⟩ := H60.out.below hb2 hs0
      simp only [Nat.zero_add] at q0 q1 q2 q3 q4 q5
      clear b2 hb2
      go_wp2_with fail
      refine (Kpa.out w2 HB2.out).mono ?_
      rintro e w3 ⟨v3, rfl, p3, b3⟩
      have hb3 := HB2.out.bt b3
      have HB3 := Lib.hid hb3
      have HV3 := Lib.hid p3
      clear q0 q1 q2 q3 q4 q5
      obtain ⟨q0, q1, q2, q3, q4, q5⟩ := H60.out.below hb3 hs0
      simp only [Nat.zero_add] at q0 q1 q2 q3 q4 q5
      clear hb3 b3 p3
      go_wp2_with fail
      refine (Kra.out w3 HB3.out).mono ?_
      rintro e w4 ⟨v4, rfl, p4, b4⟩
      have hb4 := HB3.out.bt b4
      have HB4 := Lib.hid hb4
      have HV3_4 := Lib.hid (HV3.out.below b4 (Nat.le_refl _))
      have HV4 := Lib.hid p4
      clear q0 q1 q2 q3 q4 q5
      obtain ⟨q0, q1, q2, q3, q4, q5⟩ := H60.out.below hb4 hs0
      simp only [Nat.zero_add] at q0 q1 q2 q3 q4 q5
      clear hb4 b4 p4
      go_wp2_with fail
      refine (rSameP v3 v4 X1 w4 HV3_4.out HV4.out HL1.out).mono ?_
      rintro e w5 ⟨rfl, d5⟩
      have b5 := d5.below w4.heap.size
      have HB5 := Lib.hid (HB4.out.bt b5)
      have HV3_5 := Lib.hid (HV3_4.out.below b5 (Nat.le_refl _))
      have HV4_5 := Lib.hid (HV4.out.below b5 (Nat.le_refl _))
      clear b5 d5
      go_wp2
      go_ret
      exact ⟨rfl, HB0.out.bt HB5.out⟩
    · have hsz : (1000 : Int) < ((p.name.size : Nat) : Int) := by omega
      clear hva hv hE hl hF hW0 hb0 h60 hE0 hv0 hpf hn hsm hr h60' hsz9 hs1
      go_enter Tryd.func4, Tryd.ntmps4
      go_wp2_with fail
      rw [← HW0.out]
      refine HAL.out.mono ?_
      rintro e w1 ⟨rfl, b1⟩
      have HB1 := Lib.hid b1
      clear b1
      go_wp2_with fail
      refine (HVA.out w1 HB1.out).mono ?_
      rintro e w2 ⟨rfl, b2⟩
      have hb2 := HB1.out.bt b2
      have HB2 := Lib.hid hb2
      obtain ⟨q0, q1, q2, q3, q4, q5⟩ := H60.out.below hb2 hs0
      simp only [Nat.zero_add] at q0 q1 q2 q3 q4 q5
      clear b2 hb2
      go_wp2
      go_ret
      exact ⟨rfl, HB0.out.bt HB2.out⟩

set_option maxRecDepth 100000 in
set_option maxHeartbeats 2000000 in
theorem law_PatronReplaces (v : Value) (l : List Pat) (p : Pat) (x : Int) (w : World) (hE : Env w) (hv : Pats w v l) (hl : l.length ≤ maxLen) (_ : ∀ p ∈ l, p.fits) (hpf : p.fits) (_ : (Lit.int .i64 x).wf = true) :
    Calls Tryd.prog 9 #[v, .agg #[.int .i64 p.id, .int .i64 p.kind, .int .i64 p.branch, .int .i64 p.till, .bool p.stop, .string p.name], .int .i64 x] w fun e w' => e = .returned (.bool true) ∧ Below w.heap.size w w' := by
  obtain ⟨F, hF⟩ := form_dec
  obtain ⟨W0, hW0⟩ : ∃ W0, W0 = w.alloc (.cells #[.int .i64 p.id, .int .i64 p.kind, .int .i64 p.branch, .int .i64 p.till, .bool p.stop, .string p.name] 28) := ⟨_, rfl⟩
  have hb0 : Below w.heap.size w W0 := by rw [hW0]; exact (Below.refl _ _).alloc (Nat.le_refl _) _
  have hs0 : w.heap.size < W0.heap.size := by rw [hW0, World.size_alloc]; exact Nat.lt_succ_self _
  have h60 : Six W0 w.heap.size 0 p := by
    rw [hW0]
    refine ⟨?_, ?_, ?_, ?_, ?_, ?_⟩ <;> (rw [Lib.cell_of_heap (heap_alloc_new w _)]; rfl)
  have hE0 := hE.below hb0
  have hv0 := hv.below hb0 (Nat.le_refl _)
  have HW0 := Lib.hid hW0
  have HB0 := Lib.hid hb0
  have H60 := Lib.hid h60
  have HAL := Lib.hid (alive_any W0 hE0)
  have hva := fun W (hW : Below W0.heap.size W0 W) => lvalid hF v l W (hv0.below hW (Nat.le_refl _)) (by unfold maxLen at hl; omega)
  cases h : ((decide (l.length ≤ 60) && smallP l) && decide (right F l = 0)) with
  | false =>
    rw [h] at hva
    have HVA := Lib.hid hva
    clear hva h hv hE hl hF hW0 hb0 h60 hE0 hv0 hpf
    go_enter Tryd.func9, Tryd.ntmps9
    go_wp2_with fail
    rw [← HW0.out]
    refine HAL.out.mono ?_
    rintro e w1 ⟨rfl, b1⟩
    have HB1 := Lib.hid b1
    clear b1
    go_wp2_with fail
    refine (HVA.out w1 HB1.out).mono ?_
    rintro e w2 ⟨rfl, b2⟩
    have hb2 := HB1.out.bt b2
    have HB2 := Lib.hid hb2
    obtain ⟨q0, q1, q2, q3, q4, q5⟩ := H60.out.below hb2 hs0
    simp only [Nat.zero_add] at q0 q1 q2 q3 q4 q5
    clear b2 hb2
    go_wp2
    go_ret
    exact ⟨rfl, HB0.out.bt HB2.out⟩
  | true =>
    rw [h] at hva
    have HVA := Lib.hid hva
    simp only [Bool.and_eq_true, decide_eq_true_eq] at h
    obtain ⟨⟨h60', hsm⟩, hr⟩ := h
    have hn : ∀ q ∈ l, q.name.size ≤ 1000000 := fun q hq => by have := smallP_names hsm q hq; omega
    have hsz9 := hpf.name
    by_cases hs1 : p.name.size ≤ 1000
    · have hsz : ((p.name.size : Nat) : Int) ≤ 1000 := by omega
      have hpa := fun W (hW : Below W0.heap.size W0 W) => pReplace hF v l p W (hE0.below hW) (hv0.below hW (Nat.le_refl _)) (by omega) hn (by omega)
      have hra := fun W (hW : Below W0.heap.size W0 W) => rReplace hF v l p W (hv0.below hW (Nat.le_refl _)) (by omega) hn (by omega)
      have hpb := fun W (hW : Below W0.heap.size W0 W) => pRemove v l x W (hv0.below hW (Nat.le_refl _)) (by omega)
      have hrb := fun W (hW : Below W0.heap.size W0 W) => rRemove v l x W (hv0.below hW (Nat.le_refl _)) (by omega)
      have hl1 : ((replL F l p).1).length ≤ 1000000 := by have := replL_len F l p; omega
      obtain ⟨X1, hX1⟩ : ∃ X, X = (replL F l p).1 := ⟨_, rfl⟩
      obtain ⟨R1, hR1⟩ : ∃ R, R = (replL F l p).2 := ⟨_, rfl⟩
      rw [← hX1] at hl1
      simp only [← hX1, ← hR1] at hpa hra
      have HL1 := Lib.hid hl1
      have hl2 : ((removeL l x).1).length ≤ 1000000 := by have := removeL_len l x; omega
      obtain ⟨X2, hX2⟩ : ∃ X, X = (removeL l x).1 := ⟨_, rfl⟩
      obtain ⟨R2, hR2⟩ : ∃ R, R = (removeL l x).2 := ⟨_, rfl⟩
      rw [← hX2] at hl2
      simp only [← hX2, ← hR2] at hpb hrb
      have HL2 := Lib.hid hl2
      have Kpa := Lib.hid hpa
      have Kra := Lib.hid hra
      have Kpb := Lib.hid hpb
      have Krb := Lib.hid hrb
      clear hva hv hE hl hF hW0 hb0 h60 hE0 hv0 hpf hn hsm hr h60' hsz9 hs1 hpa hra hpb hrb hl1 hX1 hR1 hl2 hX2 hR2
      go_enter Tryd.func9, Tryd.ntmps9
      go_wp2_with fail
      rw [← HW0.out]
      refine HAL.out.mono ?_
      rintro e w1 ⟨rfl, b1⟩
      have HB1 := Lib.hid b1
      clear b1
      go_wp2_with fail
      refine (HVA.out w1 HB1.out).mono ?_
      rintro e w2 ⟨rfl, b2⟩
      have hb2 := HB1.out.bt b2
      have HB2 := Lib.hid hb2
      obtain ⟨q0, q1, q2, q3, q4, q5⟩ := H60.out.below hb2 hs0
      simp only [Nat.zero_add] at q0 q1 q2 q3 q4 q5
      clear b2 hb2
      go_wp2_with fail
      refine (Kpa.out w2 HB2.out).mono ?_
      rintro e w3 ⟨v3, rfl, p3, b3⟩
      have hb3 := HB2.out.bt b3
      have HB3 := Lib.hid hb3
      have HV3 := Lib.hid p3
      clear q0 q1 q2 q3 q4 q5
      obtain ⟨q0, q1, q2, q3, q4, q5⟩ := H60.out.below hb3 hs0
      simp only [Nat.zero_add] at q0 q1 q2 q3 q4 q5
      clear hb3 b3 p3
      go_wp2_with fail
      refine (Kra.out w3 HB3.out).mono ?_
      rintro e w4 ⟨v4, rfl, p4, b4⟩
      have hb4 := HB3.out.bt b4
      have HB4 := Lib.hid hb4
      have HV3_4 := Lib.hid (HV3.out.below b4 (Nat.le_refl _))
      have HV4 := Lib.hid p4
      clear q0 q1 q2 q3 q4 q5
      obtain ⟨q0, q1, q2, q3, q4, q5⟩ := H60.out.below hb4 hs0
      simp only [Nat.zero_add] at q0 q1 q2 q3 q4 q5
      clear hb4 b4 p4
      go_wp2_with fail
      refine (Kpb.out w4 HB4.out).mono ?_
      rintro e w5 ⟨v5, rfl, p5, b5⟩
      have hb5 := HB4.out.bt b5
      have HB5 := Lib.hid hb5
      have HV3_5 := Lib.hid (HV3_4.out.below b5 (Nat.le_refl _))
      have HV4_5 := Lib.hid (HV4.out.below b5 (Nat.le_refl _))
      have HV5 := Lib.hid p5
      clear q0 q1 q2 q3 q4 q5
      obtain ⟨q0, q1, q2, q3, q4, q5⟩ := H60.out.below hb5 hs0
      simp only [Nat.zero_add] at q0 q1 q2 q3 q4 q5
      clear hb5 b5 p5
      go_wp2_with fail
      refine (Krb.out w5 HB5.out).mono ?_
      rintro e w6 ⟨v6, rfl, p6, b6⟩
      have hb6 := HB5.out.bt b6
      have HB6 := Lib.hid hb6
      have HV3_6 := Lib.hid (HV3_5.out.below b6 (Nat.le_refl _))
      have HV4_6 := Lib.hid (HV4_5.out.below b6 (Nat.le_refl _))
      have HV5_6 := Lib.hid (HV5.out.below b6 (Nat.le_refl _))
      have HV6 := Lib.hid p6
      clear q0 q1 q2 q3 q4 q5
      obtain ⟨q0, q1, q2, q3, q4, q5⟩ := H60.out.below hb6 hs0
      simp only [Nat.zero_add] at q0 q1 q2 q3 q4 q5
      clear hb6 b6 p6
      go_wp2_with fail
      refine (rSameP v3 v4 X1 w6 HV3_6.out HV4_6.out HL1.out).mono ?_
      rintro e w7 ⟨rfl, d7⟩
      have b7 := d7.below w6.heap.size
      have HB7 := Lib.hid (HB6.out.bt b7)
      have HV3_7 := Lib.hid (HV3_6.out.below b7 (Nat.le_refl _))
      have HV4_7 := Lib.hid (HV4_6.out.below b7 (Nat.le_refl _))
      have HV5_7 := Lib.hid (HV5_6.out.below b7 (Nat.le_refl _))
      have HV6_7 := Lib.hid (HV6.out.below b7 (Nat.le_refl _))
      clear b7 d7
      go_wp2_with fail
      refine (rSameP v5 v6 X2 w7 HV5_7.out HV6_7.out HL2.out).mono ?_
      rintro e w8 ⟨rfl, d8⟩
      have b8 := d8.below w7.heap.size
      have HB8 := Lib.hid (HB7.out.bt b8)
      have HV3_8 := Lib.hid (HV3_7.out.below b8 (Nat.le_refl _))
      have HV4_8 := Lib.hid (HV4_7.out.below b8 (Nat.le_refl _))
      have HV5_8 := Lib.hid (HV5_7.out.below b8 (Nat.le_refl _))
      have HV6_8 := Lib.hid (HV6_7.out.below b8 (Nat.le_refl _))
      clear b8 d8
      go_wp2
      go_ret
      exact ⟨rfl, HB0.out.bt HB8.out⟩
    · have hsz : (1000 : Int) < ((p.name.size : Nat) : Int) := by omega
      clear hva hv hE hl hF hW0 hb0 h60 hE0 hv0 hpf hn hsm hr h60' hsz9 hs1
      go_enter Tryd.func9, Tryd.ntmps9
      go_wp2_with fail
      rw [← HW0.out]
      refine HAL.out.mono ?_
      rintro e w1 ⟨rfl, b1⟩
      have HB1 := Lib.hid b1
      clear b1
      go_wp2_with fail
      refine (HVA.out w1 HB1.out).mono ?_
      rintro e w2 ⟨rfl, b2⟩
      have hb2 := HB1.out.bt b2
      have HB2 := Lib.hid hb2
      obtain ⟨q0, q1, q2, q3, q4, q5⟩ := H60.out.below hb2 hs0
      simp only [Nat.zero_add] at q0 q1 q2 q3 q4 q5
      clear b2 hb2
      go_wp2
      go_ret
      exact ⟨rfl, HB0.out.bt HB2.out⟩

end Go.Proofs.YtlpeppigebbfkaaDoor
