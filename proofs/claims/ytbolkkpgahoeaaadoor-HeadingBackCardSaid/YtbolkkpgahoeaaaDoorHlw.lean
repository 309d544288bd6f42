/- The walks of the statements HeadingParts, HeadingAbove, HeadingNorms, HeadingAgain, HeadingJoins (layer 12): each returns true, and what was there before stays. -/
import Derived.Test.YtbolkkpgahoeaaaDoorHal
namespace Go.Proofs.YtbolkkpgahoeaaaDoor
open Go Go.RowKit

theorem text_split {s : ByteArray} (h : (decide (s.size ≤ 1000) && isText s.data.toList) = true) : ∃ cs, okt cs = true ∧ s = bs cs ∧ (bs cs).size ≤ 1000 := by
  simp only [Bool.and_eq_true, decide_eq_true_eq] at h
  obtain ⟨cs, hok, rfl⟩ := text_bs s h.2
  exact ⟨cs, hok, rfl, h.1⟩

set_option maxRecDepth 100000 in
set_option maxHeartbeats 2000000 in
theorem law_HeadingParts (s : ByteArray) (w : World) (hE : Env w) (hs : s.size ≤ 9223372036854775807) :
    Calls Tryd.prog 3 #[.string s] w fun e w' => e = .returned (.bool true) ∧ Below w.heap.size w w' := by
  have HAL := Lib.hid (alive_any w hE)
  have hT := fun W => lText s W hs
  cases h : (decide (s.size ≤ 1000) && isText s.data.toList) with
  | false =>
    rw [h] at hT
    have HT := Lib.hid hT
    clear hT h hs hE
    go_enter Tryd.func3, Tryd.ntmps3
    go_wp2_with fail
    refine HAL.out.mono ?_
    rintro e w1 ⟨rfl, b1⟩
    have HB1 := Lib.hid b1
    clear b1
    go_wp2_with fail
    refine (HT.out w1).mono ?_
    rintro e w2 ⟨rfl, d2⟩
    have HB2 := Lib.hid (HB1.out.bt (d2.below _))
    clear d2
    go_wp2
    go_ret
    exact ⟨rfl, HB2.out⟩
  | true =>
    rw [h] at hT
    obtain ⟨cs, hok, rfl, hz⟩ := text_split h
    have hp := fun W (hW : Below w.heap.size w W) => pParts cs W (hE.below hW) hok (by omega)
    have hr := fun W => rParts cs W hok (by omega)
    have hlen : ((parts cs).map bs).length ≤ 1000000 := by
      rw [List.length_map]
      have := (parts_size cs hok).1
      omega
    obtain ⟨X, hX⟩ : ∃ X, X = (parts cs).map bs := ⟨_, rfl⟩
    rw [← hX] at hlen
    simp only [← hX] at hp hr
    obtain ⟨S, hS⟩ : ∃ S, S = bs cs := ⟨_, rfl⟩
    rw [← hS] at hT ⊢
    simp only [← hS] at hp hr
    have HT := Lib.hid hT
    have HP := Lib.hid hp
    have HR := Lib.hid hr
    have HL := Lib.hid hlen
    clear hT h hs hE hp hr hlen hX hS hok hz
    go_enter Tryd.func3, Tryd.ntmps3
    go_wp2_with fail
    refine HAL.out.mono ?_
    rintro e w1 ⟨rfl, b1⟩
    have HB1 := Lib.hid b1
    clear b1
    go_wp2_with fail
    refine (HT.out w1).mono ?_
    rintro e w2 ⟨rfl, d2⟩
    have HB2 := Lib.hid (HB1.out.bt (d2.below _))
    clear d2
    go_wp2_with fail
    refine (HP.out w2 HB2.out).mono ?_
    rintro e w3 ⟨v3, rfl, i3, b3⟩
    have HB3 := Lib.hid (HB2.out.bt b3)
    have HI3 := Lib.hid i3
    clear i3
    clear b3
    go_wp2_with fail
    refine (HR.out w3).mono ?_
    rintro e w4 ⟨v4, rfl, i4, b4⟩
    have HB4 := Lib.hid (HB3.out.bt b4)
    have HI4 := Lib.hid i4
    have HJ4 := Lib.hid (HI3.out.below b4 (Nat.le_refl _))
    clear i4
    clear b4
    go_wp2_with fail
    refine (rSameS v3 v4 X w4 HJ4.out HI4.out HL.out).mono ?_
    rintro e w5 ⟨rfl, d5⟩
    have HB5 := Lib.hid (HB4.out.bt (d5.below _))
    clear d5
    go_wp2
    go_ret
    exact ⟨rfl, HB5.out⟩

set_option maxRecDepth 100000 in
set_option maxHeartbeats 2000000 in
theorem law_HeadingAbove (s : ByteArray) (w : World) (hE : Env w) (hs : s.size ≤ 9223372036854775807) :
    Calls Tryd.prog 6 #[.string s] w fun e w' => e = .returned (.bool true) ∧ Below w.heap.size w w' := by
  have HAL := Lib.hid (alive_any w hE)
  have hT := fun W => lText s W hs
  cases h : (decide (s.size ≤ 1000) && isText s.data.toList) with
  | false =>
    rw [h] at hT
    have HT := Lib.hid hT
    clear hT h hs hE
    go_enter Tryd.func6, Tryd.ntmps6
    go_wp2_with fail
    refine HAL.out.mono ?_
    rintro e w1 ⟨rfl, b1⟩
    have HB1 := Lib.hid b1
    clear b1
    go_wp2_with fail
    refine (HT.out w1).mono ?_
    rintro e w2 ⟨rfl, d2⟩
    have HB2 := Lib.hid (HB1.out.bt (d2.below _))
    clear d2
    go_wp2
    go_ret
    exact ⟨rfl, HB2.out⟩
  | true =>
    rw [h] at hT
    obtain ⟨cs, hok, rfl, hz⟩ := text_split h
    have hp := fun W (hW : Below w.heap.size w W) => pAbove cs W (hE.below hW) hok (by omega)
    have hr := fun W => rAbove cs W hok (by omega)
    have hlen : ((above cs).map bs).length ≤ 1000000 := by
      rw [List.length_map]
      have := (parts_size cs hok).1
      have h2 : (above cs).length = (parts cs).length - 1 := upFrom_len _ _
      omega
    obtain ⟨X, hX⟩ : ∃ X, X = (above cs).map bs := ⟨_, rfl⟩
    rw [← hX] at hlen
    simp only [← hX] at hp hr
    obtain ⟨S, hS⟩ : ∃ S, S = bs cs := ⟨_, rfl⟩
    rw [← hS] at hT ⊢
    simp only [← hS] at hp hr
    have HT := Lib.hid hT
    have HP := Lib.hid hp
    have HR := Lib.hid hr
    have HL := Lib.hid hlen
    clear hT h hs hE hp hr hlen hX hS hok hz
    go_enter Tryd.func6, Tryd.ntmps6
    go_wp2_with fail
    refine HAL.out.mono ?_
    rintro e w1 ⟨rfl, b1⟩
    have HB1 := Lib.hid b1
    clear b1
    go_wp2_with fail
    refine (HT.out w1).mono ?_
    rintro e w2 ⟨rfl, d2⟩
    have HB2 := Lib.hid (HB1.out.bt (d2.below _))
    clear d2
    go_wp2_with fail
    refine (HP.out w2 HB2.out).mono ?_
    rintro e w3 ⟨v3, rfl, i3, b3⟩
    have HB3 := Lib.hid (HB2.out.bt b3)
    have HI3 := Lib.hid i3
    clear i3
    clear b3
    go_wp2_with fail
    refine (HR.out w3).mono ?_
    rintro e w4 ⟨v4, rfl, i4, b4⟩
    have HB4 := Lib.hid (HB3.out.bt b4)
    have HI4 := Lib.hid i4
    have HJ4 := Lib.hid (HI3.out.below b4 (Nat.le_refl _))
    clear i4
    clear b4
    go_wp2_with fail
    refine (rSameS v3 v4 X w4 HJ4.out HI4.out HL.out).mono ?_
    rintro e w5 ⟨rfl, d5⟩
    have HB5 := Lib.hid (HB4.out.bt (d5.below _))
    clear d5
    go_wp2
    go_ret
    exact ⟨rfl, HB5.out⟩

set_option maxRecDepth 100000 in
set_option maxHeartbeats 2000000 in
theorem law_HeadingNorms (x y : ByteArray) (w : World) (hE : Env w) (hx : x.size ≤ 9223372036854775807) (hy : y.size ≤ 9223372036854775807) :
    Calls Tryd.prog 4 #[.string x, .string y] w fun e w' => e = .returned (.bool true) ∧ Below w.heap.size w w' := by
  have HAL := Lib.hid (alive_any w hE)
  have hT := fun W => lText x W hx
  have hU := fun W => lText y W hy
  cases h : (decide (x.size ≤ 1000) && isText x.data.toList) with
  | false =>
    rw [h] at hT
    have HT := Lib.hid hT
    clear hT hU h hx hy hE
    go_enter Tryd.func4, Tryd.ntmps4
    go_wp2_with fail
    refine HAL.out.mono ?_
    rintro e w1 ⟨rfl, b1⟩
    have HB1 := Lib.hid b1
    clear b1
    go_wp2_with fail
    refine (HT.out w1).mono ?_
    rintro e w2 ⟨rfl, d2⟩
    have HB2 := Lib.hid (HB1.out.bt (d2.below _))
    clear d2
    go_wp2
    go_ret
    exact ⟨rfl, HB2.out⟩
  | true =>
    rw [h] at hT
    cases h2 : (decide (y.size ≤ 1000) && isText y.data.toList) with
    | false =>
      rw [h2] at hU
      have HT := Lib.hid hT
      have HU := Lib.hid hU
      clear hT hU h h2 hx hy hE
      go_enter Tryd.func4, Tryd.ntmps4
      go_wp2_with fail
      refine HAL.out.mono ?_
      rintro e w1 ⟨rfl, b1⟩
      have HB1 := Lib.hid b1
      clear b1
      go_wp2_with fail
      refine (HT.out w1).mono ?_
      rintro e w2 ⟨rfl, d2⟩
      have HB2 := Lib.hid (HB1.out.bt (d2.below _))
      clear d2
      go_wp2_with fail
      refine (HU.out w2).mono ?_
      rintro e w3 ⟨rfl, d3⟩
      have HB3 := Lib.hid (HB2.out.bt (d3.below _))
      clear d3
      go_wp2
      go_ret
      exact ⟨rfl, HB3.out⟩
    | true =>
      rw [h2] at hU
      obtain ⟨cs, hok, rfl, hz⟩ := text_split h
      obtain ⟨ds, hok2, rfl, hz2⟩ := text_split h2
      have hp := fun W (hW : Below w.heap.size w W) => pNorm cs W (hE.below hW) hok (by omega)
      have hr := fun W => rNorm cs W hok (by omega)
      have hp2 := fun W (hW : Below w.heap.size w W) => pSame cs ds W (hE.below hW) hok hok2 (by omega) (by omega)
      have hr2 := fun W => rSame cs ds W hok hok2 (by omega) (by omega)
      obtain ⟨q, hq⟩ : ∃ q, q = (decide (norm cs ≠ []) && decide (norm cs = norm ds)) := ⟨_, rfl⟩
      simp only [← hq] at hp2 hr2
      obtain ⟨X, hX⟩ : ∃ X, X = bs (norm cs) := ⟨_, rfl⟩
      simp only [← hX] at hp hr
      obtain ⟨S, hS⟩ : ∃ S, S = bs cs := ⟨_, rfl⟩
      obtain ⟨T, hT2⟩ : ∃ T, T = bs ds := ⟨_, rfl⟩
      rw [← hS, ← hT2]
      simp only [← hS, ← hT2] at hp hr hp2 hr2 hT hU
      have HT := Lib.hid hT
      have HU := Lib.hid hU
      have HP := Lib.hid hp
      have HR := Lib.hid hr
      have HP2 := Lib.hid hp2
      have HR2 := Lib.hid hr2
      clear hT hU h h2 hx hy hE hp hr hp2 hr2 hX hS hT2 hok hok2 hz hz2 hq
      go_enter Tryd.func4, Tryd.ntmps4
      go_wp2_with fail
      refine HAL.out.mono ?_
      rintro e w1 ⟨rfl, b1⟩
      have HB1 := Lib.hid b1
      clear b1
      go_wp2_with fail
      refine (HT.out w1).mono ?_
      rintro e w2 ⟨rfl, d2⟩
      have HB2 := Lib.hid (HB1.out.bt (d2.below _))
      clear d2
      go_wp2_with fail
      refine (HU.out w2).mono ?_
      rintro e w3 ⟨rfl, d3⟩
      have HB3 := Lib.hid (HB2.out.bt (d3.below _))
      clear d3
      go_wp2_with fail
      refine (HP.out w3 HB3.out).mono ?_
      rintro e w4 ⟨rfl, b4⟩
      have HB4 := Lib.hid (HB3.out.bt b4)
      clear b4
      go_wp2_with fail
      refine (HR.out w4).mono ?_
      rintro e w5 ⟨rfl, b5⟩
      have HB5 := Lib.hid (HB4.out.bt b5)
      clear b5
      go_wp2_with fail
      refine (HP2.out w5 HB5.out).mono ?_
      rintro e w6 ⟨rfl, b6⟩
      have HB6 := Lib.hid (HB5.out.bt b6)
      clear b6
      go_wp2_with fail
      refine (HR2.out w6).mono ?_
      rintro e w7 ⟨rfl, b7⟩
      have HB7 := Lib.hid (HB6.out.bt b7)
      clear b7
      go_wp2
      go_ret
      exact ⟨by simp, HB7.out⟩

set_option maxRecDepth 100000 in
set_option maxHeartbeats 2000000 in
theorem law_HeadingAgain (s : ByteArray) (w : World) (hE : Env w) (hs : s.size ≤ 9223372036854775807) :
    Calls Tryd.prog 9 #[.string s] w fun e w' => e = .returned (.bool true) ∧ Below w.heap.size w w' := by
  have HAL := Lib.hid (alive_any w hE)
  have hT := fun W => lText s W hs
  cases h : (decide (s.size ≤ 1000) && isText s.data.toList) with
  | false =>
    rw [h] at hT
    have HT := Lib.hid hT
    clear hT h hs hE
    go_enter Tryd.func9, Tryd.ntmps9
    go_wp2_with fail
    refine HAL.out.mono ?_
    rintro e w1 ⟨rfl, b1⟩
    have HB1 := Lib.hid b1
    clear b1
    go_wp2_with fail
    refine (HT.out w1).mono ?_
    rintro e w2 ⟨rfl, d2⟩
    have HB2 := Lib.hid (HB1.out.bt (d2.below _))
    clear d2
    go_wp2
    go_ret
    exact ⟨rfl, HB2.out⟩
  | true =>
    rw [h] at hT
    obtain ⟨cs, hok, rfl, hz⟩ := text_split h
    have hnz := norm_size cs hok
    have hno := norm_okt cs hok
    have hp := fun W (hW : Below w.heap.size w W) => pNorm cs W (hE.below hW) hok (by omega)
    have hp1 := fun W (hW : Below w.heap.size w W) => pNorm (norm cs) W (hE.below hW) hno (by omega)
    have hp2 := fun W (hW : Below w.heap.size w W) => pSame cs (norm cs) W (hE.below hW) hok hno (by omega) (by omega)
    rw [norm_norm] at hp1 hp2
    have hem := bs_isEmpty (norm cs)
    have hq : (decide (norm cs ≠ []) && decide (norm cs = norm cs)) = !(norm cs).isEmpty := by
      cases norm cs <;> simp
    rw [hq, ← hem] at hp2
    obtain ⟨X, hX⟩ : ∃ X, X = bs (norm cs) := ⟨_, rfl⟩
    simp only [← hX] at hp hp1 hp2
    obtain ⟨S, hS⟩ : ∃ S, S = bs cs := ⟨_, rfl⟩
    rw [← hS] at hT ⊢
    simp only [← hS] at hp hp2
    have HT := Lib.hid hT
    have HP := Lib.hid hp
    have HP1 := Lib.hid hp1
    have HP2 := Lib.hid hp2
    clear hT h hs hE hp hp1 hp2 hX hS hok hz hnz hno hem hq
    go_enter Tryd.func9, Tryd.ntmps9
    go_wp2_with fail
    refine HAL.out.mono ?_
    rintro e w1 ⟨rfl, b1⟩
    have HB1 := Lib.hid b1
    clear b1
    go_wp2_with fail
    refine (HT.out w1).mono ?_
    rintro e w2 ⟨rfl, d2⟩
    have HB2 := Lib.hid (HB1.out.bt (d2.below _))
    clear d2
    go_wp2_with fail
    refine (HP.out w2 HB2.out).mono ?_
    rintro e w3 ⟨rfl, b3⟩
    have HB3 := Lib.hid (HB2.out.bt b3)
    clear b3
    go_wp2_with fail
    refine (HP1.out w3 HB3.out).mono ?_
    rintro e w4 ⟨rfl, b4⟩
    have HB4 := Lib.hid (HB3.out.bt b4)
    clear b4
    go_wp2_with fail
    refine (HP2.out w4 HB4.out).mono ?_
    rintro e w5 ⟨rfl, b5⟩
    have HB5 := Lib.hid (HB4.out.bt b5)
    clear b5
    cases he : X.toList.isEmpty
    all_goals
      go_wp2
      go_ret
      exact ⟨by simp, HB5.out⟩

set_option maxRecDepth 100000 in
set_option maxHeartbeats 2000000 in
theorem law_HeadingJoins (v : Value) (xs : List ByteArray) (w : World) (hE : Env w) (hv : Strs w v xs) (hl : xs.length ≤ maxLen) (_ : ∀ x ∈ xs, x.size ≤ maxLen) :
    Calls Tryd.prog 5 #[v] w fun e w' => e = .returned (.bool true) ∧ Below w.heap.size w w' := by
  obtain ⟨P, hP⟩ := part_dec
  have HAL := Lib.hid (alive_any w hE)
  have hT := fun W (hW : Below w.heap.size w W) => lShort v xs W (hv.below hW (Nat.le_refl _)) (by unfold maxLen at hl; omega)
  cases h : (decide (xs.length ≤ 60) && shortS xs) with
  | false =>
    rw [h] at hT
    have HT := Lib.hid hT
    clear hT h hl hE hv hP
    go_enter Tryd.func5, Tryd.ntmps5
    go_wp2_with fail
    refine HAL.out.mono ?_
    rintro e w1 ⟨rfl, b1⟩
    have HB1 := Lib.hid b1
    clear b1
    go_wp2_with fail
    refine (HT.out w1 HB1.out).mono ?_
    rintro e w2 ⟨rfl, rfl⟩
    have HB2 := HB1
    go_wp2
    go_ret
    exact ⟨rfl, HB2.out⟩
  | true =>
    rw [h] at hT
    simp only [Bool.and_eq_true, decide_eq_true_eq] at h
    have hxz : ∀ x ∈ xs, x.size ≤ 1000000 := fun x hx => by
      have := List.all_eq_true.1 h.2 x hx
      have := of_decide_eq_true this
      omega
    have hp := fun W (hW : Below w.heap.size w W) => pJoin hP xs v W (hE.below hW) (hv.below hW (Nat.le_refl _)) (by omega) hxz
    have hr := fun W (hW : Below w.heap.size w W) => rJoin hP xs v W (hv.below hW (Nat.le_refl _)) (by omega) hxz
    obtain ⟨J, hJ⟩ : ∃ J, J = joinR P xs := ⟨_, rfl⟩
    simp only [← hJ] at hp hr
    have HT := Lib.hid hT
    have HP := Lib.hid hp
    have HR := Lib.hid hr
    clear hT h hl hE hv hP hp hr hJ hxz
    go_enter Tryd.func5, Tryd.ntmps5
    go_wp2_with fail
    refine HAL.out.mono ?_
    rintro e w1 ⟨rfl, b1⟩
    have HB1 := Lib.hid b1
    clear b1
    go_wp2_with fail
    refine (HT.out w1 HB1.out).mono ?_
    rintro e w2 ⟨rfl, rfl⟩
    have HB2 := HB1
    go_wp2_with fail
    refine (HP.out w2 HB2.out).mono ?_
    rintro e w3 ⟨rfl, b3⟩
    have HB3 := Lib.hid (HB2.out.bt b3)
    clear b3
    go_wp2_with fail
    refine (HR.out w3 HB3.out).mono ?_
    rintro e w4 ⟨rfl, b4⟩
    have HB4 := Lib.hid (HB3.out.bt b4)
    clear b4
    go_wp2
    go_ret
    exact ⟨by simp, HB4.out⟩

end Go.Proofs.YtbolkkpgahoeaaaDoor
