/- The walk of the statement PatronGets (layer 28): it returns true, and what was there before stays. -/
import Derived.Test.YtlpeppigebbfkaaDoorNlw
import Derived.Test.YtlpeppigebbfkaaDoorNgt
namespace Go.Proofs.YtlpeppigebbfkaaDoor
open Go Go.RowKit

set_option maxRecDepth 100000 in
set_option maxHeartbeats 2000000 in
theorem law_PatronGets (v : Value) (l : List Pat) (x : Int) (w : World) (hE : Env w) (hv : Pats w v l) (_ : l.length ≤ maxLen) (_ : ∀ p ∈ l, p.fits) (_ : (Lit.int .i64 x).wf = true) :
    Calls Tryd.prog 7 #[v, .int .i64 x] w fun e w' => e = .returned (.bool true) ∧ Below w.heap.size w w' := by
  have HAL := Lib.hid (alive_any w hE)
  by_cases h100 : l.length ≤ 100
  · have hp := fun W (hW : Below w.heap.size w W) => pGet v l x W (hv.below hW (Nat.le_refl _)) (by omega)
    have hr := fun W (hW : Below w.heap.size w W) => rGet v l x W (hv.below hW (Nat.le_refl _)) (by omega)
    obtain ⟨⟨⟨id, kind, branch, till, stop, name⟩, ok⟩, hq⟩ : ∃ q, q = getPat l x := ⟨_, rfl⟩
    rw [← hq] at hp hr
    simp only [Pat.agg] at hp hr
    obtain ⟨pa, pc, rfl, hpc, hcells⟩ := hv
    obtain ⟨n, hnn⟩ : ∃ n, n = l.length := ⟨_, rfl⟩
    rw [← hnn] at h100 hpc hp hr ⊢
    have hz : ((n : Nat) : Int) ≤ 100 := by omega
    have HP := Lib.hid hp
    have HR := Lib.hid hr
    clear hp hr hcells hnn hq hE
    go_enter Tryd.func7, Tryd.ntmps7
    go_wp2_with fail
    refine HAL.out.mono ?_
    rintro e w1 ⟨rfl, b1⟩
    have HB1 := Lib.hid b1
    clear b1
    go_wp2_with fail
    refine (HP.out w1 HB1.out).mono ?_
    rintro e w2 ⟨rfl, b2⟩
    have HB2 := Lib.hid (HB1.out.bt b2)
    clear b2
    go_wp2_with fail
    have hs3 := six_new w2 ⟨id, kind, branch, till, stop, name⟩ 28
    have b3 := (Below.refl w2.heap.size w2).alloc (Nat.le_refl _) (.cells #[.int .i64 id, .int .i64 kind, .int .i64 branch, .int .i64 till, .bool stop, .string name] 28)
    obtain ⟨w3, hw3⟩ : ∃ w3, w3 = w2.alloc (.cells #[.int .i64 id, .int .i64 kind, .int .i64 branch, .int .i64 till, .bool stop, .string name] 28) := ⟨_, rfl⟩
    rw [← hw3]
    rw [← hw3] at b3
    have hs3' : Six w3 w2.heap.size 0 ⟨id, kind, branch, till, stop, name⟩ := by rw [hw3]; exact hs3
    have hz3 : w2.heap.size < w3.heap.size := by rw [hw3, World.size_alloc]; exact Nat.lt_succ_self _
    have HB3 := Lib.hid (HB2.out.bt b3)
    obtain ⟨g, hg⟩ : ∃ g, g = w2.heap.size := ⟨_, rfl⟩
    rw [← hg] at hs3' hz3 ⊢
    have HS3 := Lib.hid hs3'
    have HZ3 := Lib.hid hz3
    clear hs3 b3 hw3 hs3' hz3 hg
    refine (HR.out w3 HB3.out).mono ?_
    rintro e w4 ⟨rfl, b4⟩
    have HB4 := Lib.hid (HB3.out.bt b4)
    obtain ⟨q0, q1, q2, q3, q4, q5⟩ := HS3.out.below b4 HZ3.out
    simp only [Nat.zero_add] at q0 q1 q2 q3 q4 q5
    have hgl : g < w4.heap.size := Nat.lt_of_lt_of_le HZ3.out b4.size
    clear b4
    go_wp2
    go_ret
    exact ⟨by simp, HB4.out.alloc HB4.out.size _⟩
  · obtain ⟨pa, pc, rfl, hpc, hcells⟩ := hv
    obtain ⟨n, hnn⟩ : ∃ n, n = l.length := ⟨_, rfl⟩
    rw [← hnn] at h100 hpc ⊢
    have hz : (100 : Int) < ((n : Nat) : Int) := by omega
    clear hcells hnn hE h100
    go_enter Tryd.func7, Tryd.ntmps7
    go_wp2_with fail
    refine HAL.out.mono ?_
    rintro e w1 ⟨rfl, b1⟩
    have HB1 := Lib.hid b1
    clear b1
    go_wp2
    go_ret
    exact ⟨rfl, HB1.out⟩
end Go.Proofs.YtlpeppigebbfkaaDoor
