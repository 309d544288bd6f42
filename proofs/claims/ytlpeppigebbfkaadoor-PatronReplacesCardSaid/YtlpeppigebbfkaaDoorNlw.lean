/- The walks of the statements PatronRight, PatronReasons, PatronSearch (layer 28): each returns true, and what was there before stays. -/
import Derived.Test.YtlpeppigebbfkaaDoorNao
import Derived.Test.YtlpeppigebbfkaaDoorNsr
import Derived.Test.YtlpeppigebbfkaaDoorNsm
import Derived.Test.YtlpeppigebbfkaaDoorNrm
import Derived.Test.YtlpeppigebbfkaaDoorNop
namespace Go.Proofs.YtlpeppigebbfkaaDoor
open Go Go.RowKit

set_option maxRecDepth 100000 in
set_option maxHeartbeats 1000000 in
theorem law_PatronRight (v : Value) (l : List Pat) (w : World) (hE : Env w) (hv : Pats w v l) (hl : l.length ≤ maxLen) (_ : ∀ p ∈ l, p.fits) :
    Calls Tryd.prog 3 #[v] w fun e w' => e = .returned (.bool true) ∧ Below w.heap.size w w' := by
  obtain ⟨F, hF⟩ := form_dec
  have hal := alive_any w hE
  have hsm := fun W (hW : Below w.heap.size w W) => rSmallP v l W (hv.below hW (Nat.le_refl _)) (by unfold maxLen at hl; omega)
  have HE := Lib.hid (fun W (hW : Below w.heap.size w W) => hE.below hW)
  have HAL := Lib.hid hal
  cases h : (decide (l.length ≤ 60) && smallP l) with
  | false =>
    rw [h] at hsm
    have HSM := Lib.hid hsm
    clear hsm h hv hE hal hl
    go_enter Tryd.func3, Tryd.ntmps3
    go_wp2_with fail
    refine HAL.out.mono ?_
    rintro e w1 ⟨rfl, b1⟩
    have HB1 := Lib.hid b1
    clear b1
    go_wp2_with fail
    refine (HSM.out w1 HB1.out).mono ?_
    rintro e w2 ⟨rfl, rfl⟩
    go_wp2
    go_ret
    exact ⟨rfl, HB1.out⟩
  | true =>
    rw [h] at hsm
    have HSM := Lib.hid hsm
    rw [Bool.and_eq_true, decide_eq_true_eq] at h
    have hn : ∀ p ∈ l, p.name.size ≤ 1000000 := fun p hp => by have := smallP_names h.2 p hp; omega
    have hp := fun W (hW : Below w.heap.size w W) => pRight hF v l W (hE.below hW) (hv.below hW (Nat.le_refl _)) (by omega) hn
    have hr := fun W (hW : Below w.heap.size w W) => rRight hF v l W (hv.below hW (Nat.le_refl _)) (by omega) hn
    obtain ⟨R, hR⟩ : ∃ R, R = right F l := ⟨_, rfl⟩
    rw [← hR] at hp hr
    have HP := Lib.hid hp
    have HR := Lib.hid hr
    clear hsm h hv hE hal hl hp hr hR hn
    go_enter Tryd.func3, Tryd.ntmps3
    go_wp2_with fail
    refine HAL.out.mono ?_
    rintro e w1 ⟨rfl, b1⟩
    have HB1 := Lib.hid b1
    clear b1
    go_wp2_with fail
    refine (HSM.out w1 HB1.out).mono ?_
    rintro e w2 ⟨rfl, rfl⟩
    go_wp2_with fail
    refine (HP.out w2 HB1.out).mono ?_
    rintro e w3 ⟨rfl, b3⟩
    have HB3 := Lib.hid (HB1.out.bt b3)
    clear b3
    go_wp2_with fail
    refine (HR.out w3 HB3.out).mono ?_
    rintro e w4 ⟨rfl, b4⟩
    have HB4 := Lib.hid (HB3.out.bt b4)
    clear b4
    go_wp2
    go_ret
    exact ⟨by simp, HB4.out⟩

theorem names_of {F : ByteArray → Bool} (hF : ∀ n, F n = true ↔ formOk n) {l : List Pat} (h : right F l = 0) : ∀ p ∈ l, p.name.size ≤ 1000 ∧ ∃ cs, okt cs = true ∧ p.name = bs cs := fun p hp => by
  obtain ⟨h1, h2⟩ := right_names h p hp
  obtain ⟨-, cs, hok, hn, -⟩ := (hF _).1 h1
  exact ⟨by omega, cs, hok, hn⟩
end Go.Proofs.YtlpeppigebbfkaaDoor
