/- The walk of the examples (alive) of the statements about layer 2. -/
import Derived.Test.YtieapjdkbigejaaDoorKsw
import Derived.Test.YtieapjdkbigejaaDoorKrk
import Derived.Test.YtieapjdkbigejaaDoorKsm
namespace Go.Proofs.YtieapjdkbigejaaDoor
open Go Go.RowKit

theorem kl1 (w : World) (hE : Env w) : Calls Tryd.prog 15 #[.string ⟨#[101, 110, 103]⟩, .string ⟨#[84, 104, 101, 32, 32, 68, 111, 103, 115]⟩] w fun e w' => e = .returned (.string ⟨#[68, 111, 103, 115]⟩) ∧ Below w.heap.size w w' := by
  have h := pSkip ⟨#[101, 110, 103]⟩ [84, 104, 101, 32, 32, 68, 111, 103, 115] w hE (by decide) (by decide) (by decide)
  rw [show skip (lcode ⟨#[101, 110, 103]⟩) [84, 104, 101, 32, 32, 68, 111, 103, 115] = [68, 111, 103, 115] by decide +kernel] at h
  exact h
theorem kl2 (w : World) (hE : Env w) : Calls Tryd.prog 15 #[.string ⟨#[101, 110, 103]⟩, .string ⟨#[84, 104, 101]⟩] w fun e w' => e = .returned (.string ⟨#[84, 104, 101]⟩) ∧ Below w.heap.size w w' := by
  have h := pSkip ⟨#[101, 110, 103]⟩ [84, 104, 101] w hE (by decide) (by decide) (by decide)
  rw [show skip (lcode ⟨#[101, 110, 103]⟩) [84, 104, 101] = [84, 104, 101] by decide +kernel] at h
  exact h
theorem kl3 (w : World) (hE : Env w) : Calls Tryd.prog 15 #[.string ⟨#[103, 101, 114]⟩, .string ⟨#[84, 104, 101, 32, 68, 111, 103, 115]⟩] w fun e w' => e = .returned (.string ⟨#[84, 104, 101, 32, 68, 111, 103, 115]⟩) ∧ Below w.heap.size w w' := by
  have h := pSkip ⟨#[103, 101, 114]⟩ [84, 104, 101, 32, 68, 111, 103, 115] w hE (by decide) (by decide) (by decide)
  rw [show skip (lcode ⟨#[103, 101, 114]⟩) [84, 104, 101, 32, 68, 111, 103, 115] = [84, 104, 101, 32, 68, 111, 103, 115] by decide +kernel] at h
  exact h
theorem kl4 (w : World) (hE : Env w) : Calls Tryd.prog 15 #[.string ⟨#[108, 97, 116]⟩, .string ⟨#[84, 104, 101, 32, 68, 111, 103, 115]⟩] w fun e w' => e = .returned (.string ⟨#[84, 104, 101, 32, 68, 111, 103, 115]⟩) ∧ Below w.heap.size w w' := by
  have h := pSkip ⟨#[108, 97, 116]⟩ [84, 104, 101, 32, 68, 111, 103, 115] w hE (by decide) (by decide) (by decide)
  rw [show skip (lcode ⟨#[108, 97, 116]⟩) [84, 104, 101, 32, 68, 111, 103, 115] = [84, 104, 101, 32, 68, 111, 103, 115] by decide +kernel] at h
  exact h
theorem kl5 (w : World) (hE : Env w) : Calls Tryd.prog 17 #[.string ⟨#[103, 101, 114]⟩, .string ⟨#[195, 132, 112, 102, 101, 108, 32, 38, 32, 195, 150, 108]⟩] w fun e w' => e = .returned (.string ⟨#[97, 101, 112, 102, 101, 108, 32, 111, 101, 108]⟩) ∧ Below w.heap.size w w' := by
  have h := pKey ⟨#[103, 101, 114]⟩ [196, 112, 102, 101, 108, 32, 38, 32, 214, 108] w hE (by decide) (by decide)
  rw [show key (lcode ⟨#[103, 101, 114]⟩) [196, 112, 102, 101, 108, 32, 38, 32, 214, 108] = [97, 101, 112, 102, 101, 108, 32, 111, 101, 108] by decide +kernel] at h
  exact h
theorem kl6 (w : World) (hE : Env w) : Calls Tryd.prog 17 #[.string ⟨#[101, 110, 103]⟩, .string ⟨#[195, 132, 112, 102, 101, 108]⟩] w fun e w' => e = .returned (.string ⟨#[97, 112, 102, 101, 108]⟩) ∧ Below w.heap.size w w' := by
  have h := pKey ⟨#[101, 110, 103]⟩ [196, 112, 102, 101, 108] w hE (by decide) (by decide)
  rw [show key (lcode ⟨#[101, 110, 103]⟩) [196, 112, 102, 101, 108] = [97, 112, 102, 101, 108] by decide +kernel] at h
  exact h
theorem kl7 (w : World) (hE : Env w) : Calls Tryd.prog 17 #[.string ⟨#[115, 119, 101]⟩, .string ⟨#[195, 133, 108]⟩] w fun e w' => e = .returned (.string ⟨#[123, 108]⟩) ∧ Below w.heap.size w w' := by
  have h := pKey ⟨#[115, 119, 101]⟩ [197, 108] w hE (by decide) (by decide)
  rw [show key (lcode ⟨#[115, 119, 101]⟩) [197, 108] = [123, 108] by decide +kernel] at h
  exact h
theorem kl8 (w : World) (hE : Env w) : Calls Tryd.prog 17 #[.string ⟨#[115, 112, 97]⟩, .string ⟨#[65, 195, 177, 111]⟩] w fun e w' => e = .returned (.string ⟨#[97, 110, 126, 111]⟩) ∧ Below w.heap.size w w' := by
  have h := pKey ⟨#[115, 112, 97]⟩ [65, 241, 111] w hE (by decide) (by decide)
  rw [show key (lcode ⟨#[115, 112, 97]⟩) [65, 241, 111] = [97, 110, 126, 111] by decide +kernel] at h
  exact h
theorem kl9 (w : World) (hE : Env w) : Calls Tryd.prog 17 #[.string ⟨#[101, 110, 103]⟩, .string ⟨#[97, 123, 98]⟩] w fun e w' => e = .returned (.string ⟨#[97, 32, 98]⟩) ∧ Below w.heap.size w w' := by
  have h := pKey ⟨#[101, 110, 103]⟩ [97, 123, 98] w hE (by decide) (by decide)
  rw [show key (lcode ⟨#[101, 110, 103]⟩) [97, 123, 98] = [97, 32, 98] by decide +kernel] at h
  exact h
theorem kl10 (w : World) (hE : Env w) : Calls Tryd.prog 19 #[.string ⟨#[115, 119, 101]⟩, .string ⟨#[90, 111, 110]⟩, .string ⟨#[195, 133, 108]⟩] w fun e w' => e = .returned (.int .i64 (-1)) ∧ Below w.heap.size w w' := by
  have h := pCompare ⟨#[115, 119, 101]⟩ [90, 111, 110] [197, 108] w hE (by decide) (by decide) (by decide) (by decide)
  rw [show kcmp (lcode ⟨#[115, 119, 101]⟩) [90, 111, 110] [197, 108] = -1 by decide +kernel] at h
  exact h
theorem kl11 (w : World) (hE : Env w) : Calls Tryd.prog 19 #[.string ⟨#[101, 110, 103]⟩, .string ⟨#[195, 133, 108]⟩, .string ⟨#[90, 111, 110]⟩] w fun e w' => e = .returned (.int .i64 (-1)) ∧ Below w.heap.size w w' := by
  have h := pCompare ⟨#[101, 110, 103]⟩ [197, 108] [90, 111, 110] w hE (by decide) (by decide) (by decide) (by decide)
  rw [show kcmp (lcode ⟨#[101, 110, 103]⟩) [197, 108] [90, 111, 110] = -1 by decide +kernel] at h
  exact h
theorem kl12 (w : World) (hE : Env w) : Calls Tryd.prog 19 #[.string ⟨#[101, 110, 103]⟩, .string ⟨#[100, 111, 103]⟩, .string ⟨#[68, 111, 103]⟩] w fun e w' => e = .returned (.int .i64 (1)) ∧ Below w.heap.size w w' := by
  have h := pCompare ⟨#[101, 110, 103]⟩ [100, 111, 103] [68, 111, 103] w hE (by decide) (by decide) (by decide) (by decide)
  rw [show kcmp (lcode ⟨#[101, 110, 103]⟩) [100, 111, 103] [68, 111, 103] = 1 by decide +kernel] at h
  exact h
theorem kl13 (w : World) : Calls Tryd.prog 13 #[.string ⟨#[115, 112, 97]⟩] w fun e w' => e = .returned (.bool true) ∧ Below w.heap.size w w' := by
  have h := pKnown ⟨#[115, 112, 97]⟩ w (by decide)
  exact h
theorem kl14 (w : World) : Calls Tryd.prog 13 #[.string ⟨#[108, 97, 116]⟩] w fun e w' => e = .returned (.bool false) ∧ Below w.heap.size w w' := by
  have h := pKnown ⟨#[108, 97, 116]⟩ w (by decide)
  exact h
set_option maxRecDepth 100000 in
set_option maxHeartbeats 4000000 in
theorem alive_any (w : World) (hE : Env w) :
    Calls Tryd.prog 12 #[] w fun e w' => e = .returned (.bool true) ∧ Below w.heap.size w w' := by
  go_enter Tryd.func12, Tryd.ntmps12
  go_wp2_with fail
  refine (kl1 _ hE).mono ?_
  rintro e w1 ⟨rfl, b1⟩
  have E1 := hE.below b1
  go_wp2_with fail
  refine (kl2 _ E1).mono ?_
  rintro e w2 ⟨rfl, b2⟩
  have E2 := E1.below b2
  go_wp2_with fail
  refine (kl3 _ E2).mono ?_
  rintro e w3 ⟨rfl, b3⟩
  have E3 := E2.below b3
  go_wp2_with fail
  refine (kl4 _ E3).mono ?_
  rintro e w4 ⟨rfl, b4⟩
  have E4 := E3.below b4
  go_wp2_with fail
  refine (kl5 _ E4).mono ?_
  rintro e w5 ⟨rfl, b5⟩
  have E5 := E4.below b5
  go_wp2_with fail
  refine (kl6 _ E5).mono ?_
  rintro e w6 ⟨rfl, b6⟩
  have E6 := E5.below b6
  go_wp2_with fail
  refine (kl7 _ E6).mono ?_
  rintro e w7 ⟨rfl, b7⟩
  have E7 := E6.below b7
  go_wp2_with fail
  refine (kl8 _ E7).mono ?_
  rintro e w8 ⟨rfl, b8⟩
  have E8 := E7.below b8
  go_wp2_with fail
  refine (kl9 _ E8).mono ?_
  rintro e w9 ⟨rfl, b9⟩
  have E9 := E8.below b9
  go_wp2_with fail
  refine (kl10 _ E9).mono ?_
  rintro e w10 ⟨rfl, b10⟩
  have E10 := E9.below b10
  go_wp2_with fail
  refine (kl11 _ E10).mono ?_
  rintro e w11 ⟨rfl, b11⟩
  have E11 := E10.below b11
  go_wp2_with fail
  refine (kl12 _ E11).mono ?_
  rintro e w12 ⟨rfl, b12⟩
  have E12 := E11.below b12
  go_wp2_with fail
  refine (kl13 _).mono ?_
  rintro e w13 ⟨rfl, b13⟩
  have E13 := E12.below b13
  go_wp2_with fail
  refine (kl14 _).mono ?_
  rintro e w14 ⟨rfl, b14⟩
  go_wp2
  go_ret
  exact ⟨rfl, (((((((((((((b1.bt b2).bt b3).bt b4).bt b5).bt b6).bt b7).bt b8).bt b9).bt b10).bt b11).bt b12).bt b13).bt b14)⟩
end Go.Proofs.YtieapjdkbigejaaDoor
