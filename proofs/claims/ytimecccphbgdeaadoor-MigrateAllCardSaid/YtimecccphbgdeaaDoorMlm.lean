/- The walk of the statement MigrateAll (layer 18): it returns true, and what was there before stays. -/
import Derived.Test.YtimecccphbgdeaaDoorMal
import Derived.Test.YtimecccphbgdeaaDoorMlt
namespace Go.Proofs.YtimecccphbgdeaaDoor
open Go Go.RowKit

theorem allR_small (v : Int) : ∀ (l : List Rec) (k : Nat) (out : List Rec), (∀ r ∈ l, r.small) → (∀ r ∈ out, r.small) → ∀ r ∈ (allR v l k out).1, r.small
  | [], _, _, _, ho => ho
  | r :: l, k, out, hl, ho => by
    unfold allR
    split
    · intro x hx; cases hx
    · refine allR_small v l (k + 1) _ (fun x hx => hl x (List.mem_cons_of_mem _ hx)) (fun x hx => ?_)
      rcases List.mem_append.1 hx with hx | hx
      · exact ho x hx
      · cases List.mem_singleton.1 hx; exact toP_small (hl r List.mem_cons_self) v
theorem allR_len (v : Int) : ∀ (l : List Rec) (k : Nat) (out : List Rec), (allR v l k out).1.length ≤ l.length + out.length
  | [], _, _ => by unfold allR; simp
  | r :: l, k, out => by
    unfold allR
    split
    · exact Nat.zero_le _
    · have := allR_len v l (k + 1) (out ++ [(toP r v).1])
      simp only [List.length_append, List.length_cons, List.length_nil] at this ⊢
      omega
theorem smallRs_small {l : List Rcd} (hcd : ∀ x ∈ l, ∀ f ∈ x.r.fields, ∀ s ∈ f.subs, s.1 < 256) (h : smallRs l = true) : l.length ≤ 8 ∧ ∀ x ∈ l, x.r.small := by
  unfold smallRs at h
  rw [Bool.and_eq_true, decide_eq_true_eq, List.all_eq_true] at h
  exact ⟨h.1, fun x hx => rec_small (hcd x hx) (h.2 x hx)⟩
theorem Recs.shape {w : World} {v : Value} {l : List Rcd} (h : Recs w v l) : ∃ a n c, v = .slice a n c := by
  obtain ⟨⟨a, c, rfl, -⟩, -⟩ := h
  exact ⟨_, _, _, rfl⟩

set_option maxRecDepth 100000 in
set_option maxHeartbeats 4000000 in
theorem law_MigrateAll (vl : Value) (l : List Rcd) (v : Int) (w : World) (hE : Env w) (hv : Recs w vl l) (hcd : ∀ x ∈ l, ∀ f ∈ x.r.fields, ∀ s ∈ f.subs, s.1 < 256) (_ : (Lit.int .i64 v).wf = true) :
    Calls Tryd.prog 8 #[vl, .int .i64 v] w fun e w' => e = .returned (.bool true) ∧ Below w.heap.size w w' := by
  obtain ⟨a, n, c, rfl⟩ := hv.shape
  have HB0 : Hid (Below w.heap.size w w) := Lib.hid (Below.refl _ _)
  have HAL : Hid (∀ W, Below w.heap.size w W → Calls Tryd.prog 9 #[] W fun e w' => e = .returned (.bool true) ∧ Below W.heap.size W w') := Lib.hid (fun W h => alive_any W (hE.below h))
  have HSL : Hid (∀ W, Below w.heap.size w W → Calls Tryd.prog 21 #[.slice a n c, .int .i64 8] W fun e w' => e = .returned (.bool (smallRs l)) ∧ Below W.heap.size W w') := Lib.hid (fun W h => rSmallRecs l a n c W (hv.below h (Nat.le_refl _)))
  have HP : Hid (smallRs l = true → ∀ W, Below w.heap.size w W → (Calls Tryd.prog 22 #[.slice a n c, .int .i64 v] W (RetAll W (allR v (recsOf l) 0 []))) ∧ (Calls Tryd.prog 23 #[.slice a n c, .int .i64 v] W (RetAll W (allR v (recsOf l) 0 [])))) := Lib.hid (fun h W hW => by
    obtain ⟨h1, h2⟩ := smallRs_small hcd h
    exact ⟨pAll l a n c v W (hE.below hW) (hv.below hW (Nat.le_refl _)) (by omega) h2, rAll l a n c v W (hv.below hW (Nat.le_refl _)) (by omega) h2⟩)
  have HSP : Hid (smallRs l = true → (allR v (recsOf l) 0 []).1.length ≤ 1000000 ∧ ∀ r ∈ (allR v (recsOf l) 0 []).1, r.small) := Lib.hid (fun h => by
    obtain ⟨h1, h2⟩ := smallRs_small hcd h
    refine ⟨?_, allR_small v _ 0 [] (fun r hr => ?_) (by intro r hr; cases hr)⟩
    · have := allR_len v (recsOf l) 0 []
      simp only [recsOf, List.length_map, List.length_nil] at this ⊢
      omega
    · obtain ⟨x, hx, rfl⟩ := List.mem_map.1 hr
      exact h2 x hx)
  obtain ⟨p, hp⟩ : ∃ p, p = allR v (recsOf l) 0 [] := ⟨_, rfl⟩
  obtain ⟨S, hS⟩ : ∃ S, S = smallRs l := ⟨_, rfl⟩
  rw [← hp, ← hS] at HP HSP
  rw [← hS] at HSL
  clear hv hE hcd hp hS
  cases S with
  | false =>
    go_enter Tryd.func8, Tryd.ntmps8
    go_wp2_with fail
    refine (HAL.out _ HB0.out).mono ?_
    rintro e w1 ⟨rfl, b1⟩
    have HB1 := Lib.hid (HB0.out.bt b1)
    clear b1
    go_wp2_with fail
    refine (HSL.out _ HB1.out).mono ?_
    rintro e w2 ⟨rfl, b2⟩
    have HB2 := Lib.hid (HB1.out.bt b2)
    clear b2
    go_wp2
    go_ret
    exact ⟨rfl, HB2.out⟩
  | true =>
    replace HP := Lib.hid (HP.out rfl)
    replace HSP := Lib.hid (HSP.out rfl)
    go_enter Tryd.func8, Tryd.ntmps8
    go_wp2_with fail
    refine (HAL.out _ HB0.out).mono ?_
    rintro e w1 ⟨rfl, b1⟩
    have HB1 := Lib.hid (HB0.out.bt b1)
    clear b1
    go_wp2_with fail
    refine (HSL.out _ HB1.out).mono ?_
    rintro e w2 ⟨rfl, b2⟩
    have HB2 := Lib.hid (HB1.out.bt b2)
    clear b2
    go_wp2_with fail
    refine (HP.out w2 HB2.out).1.mono ?_
    rintro e w3 ⟨v3, xs3, rfl, hr3, he3, b3⟩
    obtain ⟨a3, n3, c3, rfl⟩ := hr3.shape
    have HR3 := Lib.hid hr3
    have HE3 := Lib.hid he3
    have HB3 := Lib.hid (HB2.out.bt b3)
    clear b3 hr3 he3
    go_wp2_with fail
    refine (HP.out w3 HB3.out).2.mono ?_
    rintro e w4 ⟨v4, xs4, rfl, hr4, he4, b4⟩
    obtain ⟨a4, n4, c4, rfl⟩ := hr4.shape
    have hsame := rSameRecs xs3 xs4 a3 a4 n3 c3 n4 c4 w4 (HR3.out.below b4 (Nat.le_refl _)) hr4 (HE3.out.trans he4.symm) (by
      have h1 := HSP.out.1
      rw [← HE3.out] at h1
      simpa [recsOf] using h1) (fun x hx => HSP.out.2 x.r (by rw [← HE3.out]; exact List.mem_map.2 ⟨x, hx, rfl⟩))
    have HSA := Lib.hid hsame
    have HB4 := Lib.hid (HB3.out.bt b4)
    obtain ⟨pl, pi, pe⟩ := p
    have hee : (pe == pe) = true := by simp
    have hii : (pi == pi) = true := by simp
    clear hsame b4 hr4 he4 HR3 HE3 HSP
    go_wp2_with fail
    refine HSA.out.mono ?_
    rintro e w5 ⟨rfl, b5⟩
    have HB5 := Lib.hid (HB4.out.bt b5)
    clear b5
    go_wp2
    go_ret
    exact ⟨rfl, HB5.out⟩
end Go.Proofs.YtimecccphbgdeaaDoor
