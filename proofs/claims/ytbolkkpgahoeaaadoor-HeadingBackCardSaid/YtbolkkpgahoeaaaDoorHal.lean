/- The walk of the examples (alive) of the statements about layer 12. -/
import Derived.Test.YtbolkkpgahoeaaaDoorHty
import Derived.Test.YtbolkkpgahoeaaaDoorHjn
import Derived.Test.YtbolkkpgahoeaaaDoorHab
import Derived.Test.YtbolkkpgahoeaaaDoorHsl
namespace Go.Proofs.YtbolkkpgahoeaaaDoor
open Go Go.RowKit

theorem kv1 {N : ByteArray → Option (ByteArray × ByteArray × ByteArray)} (hN : NameDec N) : N ⟨#[68, 97, 114, 119, 105, 110, 44, 32, 67, 104, 97, 114, 108, 101, 115, 44, 32, 49, 56, 48, 57, 45, 49, 56, 56, 50]⟩ = some (⟨#[68, 97, 114, 119, 105, 110]⟩, ⟨#[67, 104, 97, 114, 108, 101, 115]⟩, ⟨#[49, 56, 48, 57, 45, 49, 56, 56, 50]⟩) := by
  have h := hN.text [68, 97, 114, 119, 105, 110, 44, 32, 67, 104, 97, 114, 108, 101, 115, 44, 32, 49, 56, 48, 57, 45, 49, 56, 56, 50] (by decide)
  rw [show nameOf [68, 97, 114, 119, 105, 110, 44, 32, 67, 104, 97, 114, 108, 101, 115, 44, 32, 49, 56, 48, 57, 45, 49, 56, 56, 50] = some ([68, 97, 114, 119, 105, 110], [67, 104, 97, 114, 108, 101, 115], [49, 56, 48, 57, 45, 49, 56, 56, 50]) by decide +kernel] at h
  exact h
theorem kh1 {N : ByteArray → Option (ByteArray × ByteArray × ByteArray)} (hN : NameDec N) (w : World) (hE : Env w) : Calls Tryd.prog 25 #[.string ⟨#[68, 97, 114, 119, 105, 110, 44, 32, 67, 104, 97, 114, 108, 101, 115, 44, 32, 49, 56, 48, 57, 45, 49, 56, 56, 50]⟩] w fun e w' => e = .returned (.tuple #[.agg #[.string ⟨#[68, 97, 114, 119, 105, 110]⟩, .string ⟨#[67, 104, 97, 114, 108, 101, 115]⟩, .string ⟨#[49, 56, 48, 57, 45, 49, 56, 56, 50]⟩], .int .i64 0]) ∧ Below w.heap.size w w' := by
  have h := pName hN ⟨#[68, 97, 114, 119, 105, 110, 44, 32, 67, 104, 97, 114, 108, 101, 115, 44, 32, 49, 56, 48, 57, 45, 49, 56, 56, 50]⟩ w hE (by decide)
  rw [nameR_some (kv1 hN)] at h
  exact h
theorem kv2 {N : ByteArray → Option (ByteArray × ByteArray × ByteArray)} (hN : NameDec N) : N ⟨#[80, 108, 97, 116, 111, 44, 32, 49, 57, 48, 48, 45]⟩ = some (⟨#[80, 108, 97, 116, 111]⟩, ⟨#[]⟩, ⟨#[49, 57, 48, 48, 45]⟩) := by
  have h := hN.text [80, 108, 97, 116, 111, 44, 32, 49, 57, 48, 48, 45] (by decide)
  rw [show nameOf [80, 108, 97, 116, 111, 44, 32, 49, 57, 48, 48, 45] = some ([80, 108, 97, 116, 111], [], [49, 57, 48, 48, 45]) by decide +kernel] at h
  exact h
theorem kh2 {N : ByteArray → Option (ByteArray × ByteArray × ByteArray)} (hN : NameDec N) (w : World) (hE : Env w) : Calls Tryd.prog 25 #[.string ⟨#[80, 108, 97, 116, 111, 44, 32, 49, 57, 48, 48, 45]⟩] w fun e w' => e = .returned (.tuple #[.agg #[.string ⟨#[80, 108, 97, 116, 111]⟩, .string ⟨#[]⟩, .string ⟨#[49, 57, 48, 48, 45]⟩], .int .i64 0]) ∧ Below w.heap.size w w' := by
  have h := pName hN ⟨#[80, 108, 97, 116, 111, 44, 32, 49, 57, 48, 48, 45]⟩ w hE (by decide)
  rw [nameR_some (kv2 hN)] at h
  exact h
theorem kv3 {N : ByteArray → Option (ByteArray × ByteArray × ByteArray)} (hN : NameDec N) : N ⟨#[97, 44, 98]⟩ = none := by
  have h := hN.text [97, 44, 98] (by decide)
  rw [show nameOf [97, 44, 98] = none by decide +kernel] at h
  exact h
theorem kh3 {N : ByteArray → Option (ByteArray × ByteArray × ByteArray)} (hN : NameDec N) (w : World) (hE : Env w) : Calls Tryd.prog 25 #[.string ⟨#[97, 44, 98]⟩] w fun e w' => e = .returned (.tuple #[.agg #[.string ⟨#[]⟩, .string ⟨#[]⟩, .string ⟨#[]⟩], .int .i64 3]) ∧ Below w.heap.size w w' := by
  have h := pName hN ⟨#[97, 44, 98]⟩ w hE (by decide)
  rw [nameR_none (kv3 hN)] at h
  exact h
theorem kh4 {N : ByteArray → Option (ByteArray × ByteArray × ByteArray)} (hN : NameDec N) (w : World) (hE : Env w) : Calls Tryd.prog 27 #[.agg #[.string ⟨#[80, 108, 97, 116, 111]⟩, .string ⟨#[49, 57, 48, 48, 45]⟩, .string ⟨#[]⟩]] w fun e w' => e = .returned (.tuple #[.string ⟨#[]⟩, .int .i64 3]) ∧ Below w.heap.size w w' := by
  have h := pText hN ⟨#[80, 108, 97, 116, 111]⟩ ⟨#[49, 57, 48, 48, 45]⟩ ⟨#[]⟩ w hE (by decide) (by decide) (by decide)
  have ht : textB ⟨#[80, 108, 97, 116, 111]⟩ ⟨#[49, 57, 48, 48, 45]⟩ ⟨#[]⟩ = ⟨#[80, 108, 97, 116, 111, 44, 32, 49, 57, 48, 48, 45]⟩ := by decide +kernel
  have hr : textR N ⟨#[80, 108, 97, 116, 111]⟩ ⟨#[49, 57, 48, 48, 45]⟩ ⟨#[]⟩ = (⟨#[]⟩, 3) := by
    unfold textR
    rw [ht, kv2 hN, if_neg (by decide)]
  rw [hr] at h
  exact h
theorem kh5 {P : ByteArray → Bool} (hP : ∀ s, P s = true ↔ ∃ cs, okt cs = true ∧ s = bs cs ∧ plainP cs = true) (v : Value) (w : World) (hE : Env w) (hv : Strs w v [⟨#[97]⟩, ⟨#[45, 98]⟩]) : Calls Tryd.prog 21 #[v] w fun e w' => e = .returned (.tuple #[.string ⟨#[]⟩, .int .i64 3]) ∧ Below w.heap.size w w' := by
  have h := pJoin hP [⟨#[97]⟩, ⟨#[45, 98]⟩] v w hE hv (by decide) (by decide)
  have h1 : P ⟨#[97]⟩ = true := (part_text hP [97] (by decide)).trans (by decide +kernel)
  have h2 : P ⟨#[45, 98]⟩ = false := (part_text hP [45, 98] (by decide)).trans (by decide +kernel)
  have hr : joinR P [⟨#[97]⟩, ⟨#[45, 98]⟩] = (⟨#[]⟩, 3) := by
    have hp : partErr P [⟨#[97]⟩, ⟨#[45, 98]⟩] = 3 := by
      unfold partErr
      rw [if_neg (by decide), if_neg (by rw [h1]; decide)]
      unfold partErr
      rw [if_neg (by decide), if_pos h2]
    unfold joinR
    rw [if_neg (by decide), if_neg (by decide), hp, if_pos (by decide)]
  rw [hr] at h
  exact h
theorem kh6 {P : ByteArray → Bool} (hP : ∀ s, P s = true ↔ ∃ cs, okt cs = true ∧ s = bs cs ∧ plainP cs = true) (w : World) (hE : Env w) : Calls Tryd.prog 21 #[.slice none 0 0] w fun e w' => e = .returned (.tuple #[.string ⟨#[]⟩, .int .i64 8]) ∧ Below w.heap.size w w' := by
  have h := pJoin hP [] (.slice none 0 0) w hE ⟨none, 0, rfl, Nat.le_refl _, .inl rfl⟩ (by decide) (by decide)
  exact h
theorem kh7 (w : World) (hE : Env w) : Calls Tryd.prog 16 #[.string ⟨#[68, 111, 103, 115, 32, 45, 45, 32, 32, 84, 114, 97, 105, 110, 105, 110, 103, 32, 45, 45, 32]⟩] w fun e w' => e = .returned (.string ⟨#[100, 111, 103, 115, 45, 45, 116, 114, 97, 105, 110, 105, 110, 103]⟩) ∧ Below w.heap.size w w' := by
  have h := pNorm [68, 111, 103, 115, 32, 45, 45, 32, 32, 84, 114, 97, 105, 110, 105, 110, 103, 32, 45, 45, 32] w hE (by decide) (by decide +kernel)
  rw [show norm [68, 111, 103, 115, 32, 45, 45, 32, 32, 84, 114, 97, 105, 110, 105, 110, 103, 32, 45, 45, 32] = [100, 111, 103, 115, 45, 45, 116, 114, 97, 105, 110, 105, 110, 103] by decide +kernel] at h
  exact h
theorem kh8 (w : World) (hE : Env w) : Calls Tryd.prog 18 #[.string ⟨#[68, 111, 103, 115]⟩, .string ⟨#[68, 79, 71, 83, 46]⟩] w fun e w' => e = .returned (.bool true) ∧ Below w.heap.size w w' := by
  have h := pSame [68, 111, 103, 115] [68, 79, 71, 83, 46] w hE (by decide) (by decide) (by decide +kernel) (by decide +kernel)
  rw [show (decide (norm [68, 111, 103, 115] ≠ []) && decide (norm [68, 111, 103, 115] = norm [68, 79, 71, 83, 46])) = true by decide +kernel] at h
  exact h
theorem kh9 (w : World) (hE : Env w) : Calls Tryd.prog 18 #[.string ⟨#[45, 45]⟩, .string ⟨#[45, 45]⟩] w fun e w' => e = .returned (.bool false) ∧ Below w.heap.size w w' := by
  have h := pSame [45, 45] [45, 45] w hE (by decide) (by decide) (by decide +kernel) (by decide +kernel)
  rw [show (decide (norm [45, 45] ≠ []) && decide (norm [45, 45] = norm [45, 45])) = false by decide +kernel] at h
  exact h
theorem kh10 (w : World) (hE : Env w) : Calls Tryd.prog 14 #[.string ⟨#[97, 45, 45, 45, 98]⟩] w (RetStrs w [⟨#[97]⟩, ⟨#[45, 98]⟩]) := by
  have h := pParts [97, 45, 45, 45, 98] w hE (by decide) (by decide +kernel)
  rw [show parts [97, 45, 45, 45, 98] = [[97], [45, 98]] by decide +kernel] at h
  exact h
theorem kh11 (w : World) (hE : Env w) : Calls Tryd.prog 23 #[.string ⟨#[65, 114, 116, 45, 45, 72, 105, 115, 116, 111, 114, 121, 45, 45, 70, 114, 97, 110, 99, 101]⟩] w (RetStrs w [⟨#[65, 114, 116, 45, 45, 72, 105, 115, 116, 111, 114, 121]⟩, ⟨#[65, 114, 116]⟩]) := by
  have h := pAbove [65, 114, 116, 45, 45, 72, 105, 115, 116, 111, 114, 121, 45, 45, 70, 114, 97, 110, 99, 101] w hE (by decide) (by decide +kernel)
  rw [show above [65, 114, 116, 45, 45, 72, 105, 115, 116, 111, 114, 121, 45, 45, 70, 114, 97, 110, 99, 101] = [[65, 114, 116, 45, 45, 72, 105, 115, 116, 111, 114, 121], [65, 114, 116]] by decide +kernel] at h
  exact h

set_option maxRecDepth 100000 in
set_option maxHeartbeats 4000000 in
theorem alive_any (w : World) (hE : Env w) :
    Calls Tryd.prog 11 #[] w fun e w' => e = .returned (.bool true) ∧ Below w.heap.size w w' := by
  obtain ⟨N, hN⟩ := name_dec
  obtain ⟨P, hP⟩ := part_dec
  have HN := Lib.hid hN
  have HP := Lib.hid hP
  have H0 := Lib.hid (And.intro hE (Below.refl w.heap.size w))
  clear hN hP hE
  go_enter Tryd.func11, Tryd.ntmps11
  go_wp2_with fail
  refine (kh1 HN.out w H0.out.1).mono ?_
  rintro e w1 ⟨rfl, b1⟩
  have H1 := Lib.hid (And.intro (H0.out.1.below b1) (H0.out.2.bt b1))
  clear b1
  go_wp2_with fail
  have b2 := (Below.refl w1.heap.size w1).alloc (Nat.le_refl _) (.cells #[.string ⟨#[68, 97, 114, 119, 105, 110]⟩, .string ⟨#[67, 104, 97, 114, 108, 101, 115]⟩, .string ⟨#[49, 56, 48, 57, 45, 49, 56, 56, 50]⟩] 34)
  have n2 := heap_alloc_new w1 (.cells #[.string ⟨#[68, 97, 114, 119, 105, 110]⟩, .string ⟨#[67, 104, 97, 114, 108, 101, 115]⟩, .string ⟨#[49, 56, 48, 57, 45, 49, 56, 56, 50]⟩] 34)
  have s2 : w1.heap.size < (w1.alloc (.cells #[.string ⟨#[68, 97, 114, 119, 105, 110]⟩, .string ⟨#[67, 104, 97, 114, 108, 101, 115]⟩, .string ⟨#[49, 56, 48, 57, 45, 49, 56, 56, 50]⟩] 34)).heap.size := by rw [World.size_alloc]; exact Nat.lt_succ_self _
  obtain ⟨w2, hw2⟩ : ∃ w2, w2 = w1.alloc (.cells #[.string ⟨#[68, 97, 114, 119, 105, 110]⟩, .string ⟨#[67, 104, 97, 114, 108, 101, 115]⟩, .string ⟨#[49, 56, 48, 57, 45, 49, 56, 56, 50]⟩] 34) := ⟨_, rfl⟩
  rw [← hw2]
  rw [← hw2] at b2 n2 s2
  have H2 := Lib.hid (And.intro (H1.out.1.below b2) (H1.out.2.bt b2))
  obtain ⟨g1, hg1⟩ : ∃ g1, g1 = w1.heap.size := ⟨_, rfl⟩
  rw [← hg1] at n2 s2 ⊢
  have Kg1_2 := Lib.hid (And.intro n2 s2)
  clear n2 s2 b2 hw2 hg1
  refine (kh2 HN.out w2 H2.out.1).mono ?_
  rintro e w3 ⟨rfl, b3⟩
  have H3 := Lib.hid (And.intro (H2.out.1.below b3) (H2.out.2.bt b3))
  have Kg1_3 := Lib.hid (And.intro ((b3.block _ Kg1_2.out.2).trans Kg1_2.out.1) (Nat.lt_of_lt_of_le Kg1_2.out.2 b3.size))
  clear b3
  go_wp2_with fail
  have b4 := (Below.refl w3.heap.size w3).alloc (Nat.le_refl _) (.cells #[.string ⟨#[80, 108, 97, 116, 111]⟩, .string ⟨#[]⟩, .string ⟨#[49, 57, 48, 48, 45]⟩] 34)
  have n4 := heap_alloc_new w3 (.cells #[.string ⟨#[80, 108, 97, 116, 111]⟩, .string ⟨#[]⟩, .string ⟨#[49, 57, 48, 48, 45]⟩] 34)
  have s4 : w3.heap.size < (w3.alloc (.cells #[.string ⟨#[80, 108, 97, 116, 111]⟩, .string ⟨#[]⟩, .string ⟨#[49, 57, 48, 48, 45]⟩] 34)).heap.size := by rw [World.size_alloc]; exact Nat.lt_succ_self _
  obtain ⟨w4, hw4⟩ : ∃ w4, w4 = w3.alloc (.cells #[.string ⟨#[80, 108, 97, 116, 111]⟩, .string ⟨#[]⟩, .string ⟨#[49, 57, 48, 48, 45]⟩] 34) := ⟨_, rfl⟩
  rw [← hw4]
  rw [← hw4] at b4 n4 s4
  have H4 := Lib.hid (And.intro (H3.out.1.below b4) (H3.out.2.bt b4))
  have Kg1_4 := Lib.hid (And.intro ((b4.block _ Kg1_3.out.2).trans Kg1_3.out.1) (Nat.lt_of_lt_of_le Kg1_3.out.2 b4.size))
  obtain ⟨g3, hg3⟩ : ∃ g3, g3 = w3.heap.size := ⟨_, rfl⟩
  rw [← hg3] at n4 s4 ⊢
  have Kg3_4 := Lib.hid (And.intro n4 s4)
  clear n4 s4 b4 hw4 hg3
  refine (kh3 HN.out w4 H4.out.1).mono ?_
  rintro e w5 ⟨rfl, b5⟩
  have H5 := Lib.hid (And.intro (H4.out.1.below b5) (H4.out.2.bt b5))
  have Kg1_5 := Lib.hid (And.intro ((b5.block _ Kg1_4.out.2).trans Kg1_4.out.1) (Nat.lt_of_lt_of_le Kg1_4.out.2 b5.size))
  have Kg3_5 := Lib.hid (And.intro ((b5.block _ Kg3_4.out.2).trans Kg3_4.out.1) (Nat.lt_of_lt_of_le Kg3_4.out.2 b5.size))
  clear b5
  go_wp2_with fail
  have b6 := (Below.refl w5.heap.size w5).alloc (Nat.le_refl _) (.cells #[.string ⟨#[]⟩, .string ⟨#[]⟩, .string ⟨#[]⟩] 34)
  have n6 := heap_alloc_new w5 (.cells #[.string ⟨#[]⟩, .string ⟨#[]⟩, .string ⟨#[]⟩] 34)
  have s6 : w5.heap.size < (w5.alloc (.cells #[.string ⟨#[]⟩, .string ⟨#[]⟩, .string ⟨#[]⟩] 34)).heap.size := by rw [World.size_alloc]; exact Nat.lt_succ_self _
  obtain ⟨w6, hw6⟩ : ∃ w6, w6 = w5.alloc (.cells #[.string ⟨#[]⟩, .string ⟨#[]⟩, .string ⟨#[]⟩] 34) := ⟨_, rfl⟩
  rw [← hw6]
  rw [← hw6] at b6 n6 s6
  have H6 := Lib.hid (And.intro (H5.out.1.below b6) (H5.out.2.bt b6))
  have Kg1_6 := Lib.hid (And.intro ((b6.block _ Kg1_5.out.2).trans Kg1_5.out.1) (Nat.lt_of_lt_of_le Kg1_5.out.2 b6.size))
  have Kg3_6 := Lib.hid (And.intro ((b6.block _ Kg3_5.out.2).trans Kg3_5.out.1) (Nat.lt_of_lt_of_le Kg3_5.out.2 b6.size))
  clear b6 n6 s6 hw6
  refine (kh4 HN.out w6 H6.out.1).mono ?_
  rintro e w7 ⟨rfl, b7⟩
  have H7 := Lib.hid (And.intro (H6.out.1.below b7) (H6.out.2.bt b7))
  have Kg1_7 := Lib.hid (And.intro ((b7.block _ Kg1_6.out.2).trans Kg1_6.out.1) (Nat.lt_of_lt_of_le Kg1_6.out.2 b7.size))
  have Kg3_7 := Lib.hid (And.intro ((b7.block _ Kg3_6.out.2).trans Kg3_6.out.1) (Nat.lt_of_lt_of_le Kg3_6.out.2 b7.size))
  clear b7
  go_wp2_with fail
  have q8 := strs_new w7 [⟨#[97]⟩, ⟨#[45, 98]⟩] 9
  have b8 := (Below.refl w7.heap.size w7).alloc (Nat.le_refl _) (.cells #[.string ⟨#[97]⟩, .string ⟨#[45, 98]⟩] 9)
  have n8 := heap_alloc_new w7 (.cells #[.string ⟨#[97]⟩, .string ⟨#[45, 98]⟩] 9)
  have s8 : w7.heap.size < (w7.alloc (.cells #[.string ⟨#[97]⟩, .string ⟨#[45, 98]⟩] 9)).heap.size := by rw [World.size_alloc]; exact Nat.lt_succ_self _
  obtain ⟨w8, hw8⟩ : ∃ w8, w8 = w7.alloc (.cells #[.string ⟨#[97]⟩, .string ⟨#[45, 98]⟩] 9) := ⟨_, rfl⟩
  rw [← hw8]
  rw [← hw8] at b8 n8 s8
  have z8 : Strs w8 (.slice (some ⟨w7.heap.size, 0, none⟩) 2 2) [⟨#[97]⟩, ⟨#[45, 98]⟩] := by rw [hw8]; exact q8
  have H8 := Lib.hid (And.intro (H7.out.1.below b8) (H7.out.2.bt b8))
  have Kg1_8 := Lib.hid (And.intro ((b8.block _ Kg1_7.out.2).trans Kg1_7.out.1) (Nat.lt_of_lt_of_le Kg1_7.out.2 b8.size))
  have Kg3_8 := Lib.hid (And.intro ((b8.block _ Kg3_7.out.2).trans Kg3_7.out.1) (Nat.lt_of_lt_of_le Kg3_7.out.2 b8.size))
  clear b8 n8 s8 hw8 q8
  refine (kh5 HP.out _ w8 H8.out.1 z8).mono ?_
  rintro e w9 ⟨rfl, b9⟩
  have H9 := Lib.hid (And.intro (H8.out.1.below b9) (H8.out.2.bt b9))
  have Kg1_9 := Lib.hid (And.intro ((b9.block _ Kg1_8.out.2).trans Kg1_8.out.1) (Nat.lt_of_lt_of_le Kg1_8.out.2 b9.size))
  have Kg3_9 := Lib.hid (And.intro ((b9.block _ Kg3_8.out.2).trans Kg3_8.out.1) (Nat.lt_of_lt_of_le Kg3_8.out.2 b9.size))
  clear b9 z8
  go_wp2_with fail
  refine (kh6 HP.out w9 H9.out.1).mono ?_
  rintro e w10 ⟨rfl, b10⟩
  have H10 := Lib.hid (And.intro (H9.out.1.below b10) (H9.out.2.bt b10))
  have Kg1_10 := Lib.hid (And.intro ((b10.block _ Kg1_9.out.2).trans Kg1_9.out.1) (Nat.lt_of_lt_of_le Kg1_9.out.2 b10.size))
  have Kg3_10 := Lib.hid (And.intro ((b10.block _ Kg3_9.out.2).trans Kg3_9.out.1) (Nat.lt_of_lt_of_le Kg3_9.out.2 b10.size))
  clear b10
  go_wp2_with fail
  refine (kh7 w10 H10.out.1).mono ?_
  rintro e w11 ⟨rfl, b11⟩
  have H11 := Lib.hid (And.intro (H10.out.1.below b11) (H10.out.2.bt b11))
  have Kg1_11 := Lib.hid (And.intro ((b11.block _ Kg1_10.out.2).trans Kg1_10.out.1) (Nat.lt_of_lt_of_le Kg1_10.out.2 b11.size))
  have Kg3_11 := Lib.hid (And.intro ((b11.block _ Kg3_10.out.2).trans Kg3_10.out.1) (Nat.lt_of_lt_of_le Kg3_10.out.2 b11.size))
  clear b11
  go_wp2_with fail
  refine (kh8 w11 H11.out.1).mono ?_
  rintro e w12 ⟨rfl, b12⟩
  have H12 := Lib.hid (And.intro (H11.out.1.below b12) (H11.out.2.bt b12))
  have Kg1_12 := Lib.hid (And.intro ((b12.block _ Kg1_11.out.2).trans Kg1_11.out.1) (Nat.lt_of_lt_of_le Kg1_11.out.2 b12.size))
  have Kg3_12 := Lib.hid (And.intro ((b12.block _ Kg3_11.out.2).trans Kg3_11.out.1) (Nat.lt_of_lt_of_le Kg3_11.out.2 b12.size))
  clear b12
  go_wp2_with fail
  refine (kh9 w12 H12.out.1).mono ?_
  rintro e w13 ⟨rfl, b13⟩
  have H13 := Lib.hid (And.intro (H12.out.1.below b13) (H12.out.2.bt b13))
  have Kg1_13 := Lib.hid (And.intro ((b13.block _ Kg1_12.out.2).trans Kg1_12.out.1) (Nat.lt_of_lt_of_le Kg1_12.out.2 b13.size))
  have Kg3_13 := Lib.hid (And.intro ((b13.block _ Kg3_12.out.2).trans Kg3_12.out.1) (Nat.lt_of_lt_of_le Kg3_12.out.2 b13.size))
  clear b13
  go_wp2_with fail
  refine (kh10 w13 H13.out.1).mono ?_
  rintro e w14 ⟨v14, rfl, i14, b14⟩
  have H14 := Lib.hid (And.intro (H13.out.1.below b14) (H13.out.2.bt b14))
  have Kg1_14 := Lib.hid (And.intro ((b14.block _ Kg1_13.out.2).trans Kg1_13.out.1) (Nat.lt_of_lt_of_le Kg1_13.out.2 b14.size))
  have Kg3_14 := Lib.hid (And.intro ((b14.block _ Kg3_13.out.2).trans Kg3_13.out.1) (Nat.lt_of_lt_of_le Kg3_13.out.2 b14.size))
  clear b14
  go_wp2_with fail
  have q15 := strs_new w14 [⟨#[97]⟩, ⟨#[45, 98]⟩] 9
  have b15 := (Below.refl w14.heap.size w14).alloc (Nat.le_refl _) (.cells #[.string ⟨#[97]⟩, .string ⟨#[45, 98]⟩] 9)
  have n15 := heap_alloc_new w14 (.cells #[.string ⟨#[97]⟩, .string ⟨#[45, 98]⟩] 9)
  have s15 : w14.heap.size < (w14.alloc (.cells #[.string ⟨#[97]⟩, .string ⟨#[45, 98]⟩] 9)).heap.size := by rw [World.size_alloc]; exact Nat.lt_succ_self _
  obtain ⟨w15, hw15⟩ : ∃ w15, w15 = w14.alloc (.cells #[.string ⟨#[97]⟩, .string ⟨#[45, 98]⟩] 9) := ⟨_, rfl⟩
  rw [← hw15]
  rw [← hw15] at b15 n15 s15
  have z15 : Strs w15 (.slice (some ⟨w14.heap.size, 0, none⟩) 2 2) [⟨#[97]⟩, ⟨#[45, 98]⟩] := by rw [hw15]; exact q15
  have y15 := i14.below b15 (Nat.le_refl _)
  have H15 := Lib.hid (And.intro (H14.out.1.below b15) (H14.out.2.bt b15))
  have Kg1_15 := Lib.hid (And.intro ((b15.block _ Kg1_14.out.2).trans Kg1_14.out.1) (Nat.lt_of_lt_of_le Kg1_14.out.2 b15.size))
  have Kg3_15 := Lib.hid (And.intro ((b15.block _ Kg3_14.out.2).trans Kg3_14.out.1) (Nat.lt_of_lt_of_le Kg3_14.out.2 b15.size))
  clear b15 n15 s15 hw15 q15 i14
  refine (rSameS _ _ [⟨#[97]⟩, ⟨#[45, 98]⟩] w15 y15 z15 (by decide)).mono ?_
  rintro e w16 ⟨rfl, d16⟩
  have b16 := d16.below w15.heap.size
  have H16 := Lib.hid (And.intro (H15.out.1.below b16) (H15.out.2.bt b16))
  have Kg1_16 := Lib.hid (And.intro ((b16.block _ Kg1_15.out.2).trans Kg1_15.out.1) (Nat.lt_of_lt_of_le Kg1_15.out.2 b16.size))
  have Kg3_16 := Lib.hid (And.intro ((b16.block _ Kg3_15.out.2).trans Kg3_15.out.1) (Nat.lt_of_lt_of_le Kg3_15.out.2 b16.size))
  clear b16 d16 y15 z15
  go_wp2_with fail
  refine (kh11 w16 H16.out.1).mono ?_
  rintro e w17 ⟨v17, rfl, i17, b17⟩
  have H17 := Lib.hid (And.intro (H16.out.1.below b17) (H16.out.2.bt b17))
  have Kg1_17 := Lib.hid (And.intro ((b17.block _ Kg1_16.out.2).trans Kg1_16.out.1) (Nat.lt_of_lt_of_le Kg1_16.out.2 b17.size))
  have Kg3_17 := Lib.hid (And.intro ((b17.block _ Kg3_16.out.2).trans Kg3_16.out.1) (Nat.lt_of_lt_of_le Kg3_16.out.2 b17.size))
  clear b17
  go_wp2_with fail
  have q18 := strs_new w17 [⟨#[65, 114, 116, 45, 45, 72, 105, 115, 116, 111, 114, 121]⟩, ⟨#[65, 114, 116]⟩] 9
  have b18 := (Below.refl w17.heap.size w17).alloc (Nat.le_refl _) (.cells #[.string ⟨#[65, 114, 116, 45, 45, 72, 105, 115, 116, 111, 114, 121]⟩, .string ⟨#[65, 114, 116]⟩] 9)
  have n18 := heap_alloc_new w17 (.cells #[.string ⟨#[65, 114, 116, 45, 45, 72, 105, 115, 116, 111, 114, 121]⟩, .string ⟨#[65, 114, 116]⟩] 9)
  have s18 : w17.heap.size < (w17.alloc (.cells #[.string ⟨#[65, 114, 116, 45, 45, 72, 105, 115, 116, 111, 114, 121]⟩, .string ⟨#[65, 114, 116]⟩] 9)).heap.size := by rw [World.size_alloc]; exact Nat.lt_succ_self _
  obtain ⟨w18, hw18⟩ : ∃ w18, w18 = w17.alloc (.cells #[.string ⟨#[65, 114, 116, 45, 45, 72, 105, 115, 116, 111, 114, 121]⟩, .string ⟨#[65, 114, 116]⟩] 9) := ⟨_, rfl⟩
  rw [← hw18]
  rw [← hw18] at b18 n18 s18
  have z18 : Strs w18 (.slice (some ⟨w17.heap.size, 0, none⟩) 2 2) [⟨#[65, 114, 116, 45, 45, 72, 105, 115, 116, 111, 114, 121]⟩, ⟨#[65, 114, 116]⟩] := by rw [hw18]; exact q18
  have y18 := i17.below b18 (Nat.le_refl _)
  have H18 := Lib.hid (And.intro (H17.out.1.below b18) (H17.out.2.bt b18))
  have Kg1_18 := Lib.hid (And.intro ((b18.block _ Kg1_17.out.2).trans Kg1_17.out.1) (Nat.lt_of_lt_of_le Kg1_17.out.2 b18.size))
  have Kg3_18 := Lib.hid (And.intro ((b18.block _ Kg3_17.out.2).trans Kg3_17.out.1) (Nat.lt_of_lt_of_le Kg3_17.out.2 b18.size))
  clear b18 n18 s18 hw18 q18 i17
  refine (rSameS _ _ [⟨#[65, 114, 116, 45, 45, 72, 105, 115, 116, 111, 114, 121]⟩, ⟨#[65, 114, 116]⟩] w18 y18 z18 (by decide)).mono ?_
  rintro e w19 ⟨rfl, d19⟩
  have b19 := d19.below w18.heap.size
  have H19 := Lib.hid (And.intro (H18.out.1.below b19) (H18.out.2.bt b19))
  have Kg1_19 := Lib.hid (And.intro ((b19.block _ Kg1_18.out.2).trans Kg1_18.out.1) (Nat.lt_of_lt_of_le Kg1_18.out.2 b19.size))
  have Kg3_19 := Lib.hid (And.intro ((b19.block _ Kg3_18.out.2).trans Kg3_18.out.1) (Nat.lt_of_lt_of_le Kg3_18.out.2 b19.size))
  clear b19 d19 y18 z18
  obtain ⟨⟨c0, c1, c2⟩, cf0, cf1, cf2⟩ := block_cells Kg1_19.out.1
  obtain ⟨⟨d0, d1, d2⟩, df0, df1, df2⟩ := block_cells Kg3_19.out.1
  go_wp2
  go_ret
  exact ⟨rfl, H19.out.2⟩
end Go.Proofs.YtbolkkpgahoeaaaDoor
