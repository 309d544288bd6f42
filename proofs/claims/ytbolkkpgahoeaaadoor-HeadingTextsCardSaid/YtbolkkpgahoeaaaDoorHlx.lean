/- The walks of the statements HeadingNames, HeadingTexts (layer 12): each returns true, and what was there before stays. -/
import Derived.Test.YtbolkkpgahoeaaaDoorHlw
import Derived.Test.YtbolkkpgahoeaaaDoorHnr
namespace Go.Proofs.YtbolkkpgahoeaaaDoor
open Go Go.RowKit

set_option maxRecDepth 100000 in
set_option maxHeartbeats 2000000 in
theorem law_HeadingNames (s : ByteArray) (w : World) (hE : Env w) (_ : s.size ≤ 9223372036854775807) :
    Calls Tryd.prog 7 #[.string s] w fun e w' => e = .returned (.bool true) ∧ Below w.heap.size w w' := by
  obtain ⟨N, hN⟩ := name_dec
  have HAL := Lib.hid (alive_any w hE)
  by_cases hz : s.size ≤ 1000
  · have hzz : ((s.size : Nat) : Int) ≤ 1000 := by omega
    have hp := fun W (hW : Below w.heap.size w W) => pName hN s W (hE.below hW) (by omega)
    have hr := fun W => rName hN s W (by omega)
    obtain ⟨⟨x, y, z, er⟩, hq⟩ : ∃ q, q = nameR N s := ⟨_, rfl⟩
    simp only [← hq] at hp hr
    have HP := Lib.hid hp
    have HR := Lib.hid hr
    clear hp hr hq hE hN hz
    go_enter Tryd.func7, Tryd.ntmps7
    go_wp2_with fail
    refine HAL.out.mono ?_
    rintro e w1 ⟨rfl, b1⟩
    have HB1 := Lib.hid b1
    clear b1
    go_wp2_with fail
    refine (HP.out w1 HB1.out).mono ?_
    rintro e w2 ⟨rfl, b2⟩
    have HB2 := Lib.hid (HB1.out.bt b2)
    clear b2
    go_wp2_with fail
    have n3 := heap_alloc_new w2 (.cells #[.string x, .string y, .string z] 34)
    have b3 := (Below.refl w2.heap.size w2).alloc (Nat.le_refl _) (.cells #[.string x, .string y, .string z] 34)
    have s3 : w2.heap.size < (w2.alloc (.cells #[.string x, .string y, .string z] 34)).heap.size := by rw [World.size_alloc]; exact Nat.lt_succ_self _
    obtain ⟨w3, hw3⟩ : ∃ w3, w3 = w2.alloc (.cells #[.string x, .string y, .string z] 34) := ⟨_, rfl⟩
    rw [← hw3]
    rw [← hw3] at n3 b3 s3
    have HB3 := Lib.hid (HB2.out.bt b3)
    obtain ⟨g, hg⟩ : ∃ g, g = w2.heap.size := ⟨_, rfl⟩
    rw [← hg] at n3 s3 ⊢
    have HG3 := Lib.hid (And.intro n3 s3)
    clear n3 b3 s3 hw3 hg
    refine (HR.out w3).mono ?_
    rintro e w4 ⟨rfl, b4⟩
    have HB4 := Lib.hid (HB3.out.bt b4)
    obtain ⟨⟨c0, c1, c2⟩, cf0, cf1, cf2⟩ := block_cells ((b4.block _ HG3.out.2).trans HG3.out.1)
    have hlt : g < w4.heap.size := Nat.lt_of_lt_of_le HG3.out.2 b4.size
    clear b4
    go_wp2
    go_ret
    exact ⟨by simp, HB4.out.alloc HB4.out.size _⟩
  · have hzz : (1000 : Int) < ((s.size : Nat) : Int) := by omega
    clear hz hE hN
    go_enter Tryd.func7, Tryd.ntmps7
    go_wp2_with fail
    refine HAL.out.mono ?_
    rintro e w1 ⟨rfl, b1⟩
    have HB1 := Lib.hid b1
    clear b1
    go_wp2
    go_ret
    exact ⟨rfl, HB1.out⟩

set_option maxRecDepth 100000 in
set_option maxHeartbeats 2000000 in
theorem law_HeadingTexts (x y z : ByteArray) (w : World) (hE : Env w) (_ : x.size ≤ maxLen) (_ : y.size ≤ maxLen) (_ : z.size ≤ maxLen) :
    Calls Tryd.prog 8 #[.agg #[.string x, .string y, .string z]] w fun e w' => e = .returned (.bool true) ∧ Below w.heap.size w w' := by
  obtain ⟨N, hN⟩ := name_dec
  obtain ⟨W0, hW0⟩ : ∃ W0, W0 = w.alloc (.cells #[.string x, .string y, .string z] 34) := ⟨_, rfl⟩
  have hb0 : Below w.heap.size w W0 := by rw [hW0]; exact (Below.refl _ _).alloc (Nat.le_refl _) _
  have hs0 : w.heap.size < W0.heap.size := by rw [hW0, World.size_alloc]; exact Nat.lt_succ_self _
  have hg0 : W0.heap[w.heap.size]? = some (.cells #[.string x, .string y, .string z] 34) := by rw [hW0]; exact heap_alloc_new w _
  have hE0 := hE.below hb0
  have HW0 := Lib.hid hW0
  have HB0 := Lib.hid hb0
  have HG : Hid (∀ W, Below W0.heap.size W0 W → W.heap[w.heap.size]? = some (.cells #[.string x, .string y, .string z] 34)) := Lib.hid (fun W hW => (hW.block _ hs0).trans hg0)
  have HAL := Lib.hid (alive_any W0 hE0)
  by_cases hx : x.size ≤ 300
  · have hxz : ((x.size : Nat) : Int) ≤ 300 := by omega
    by_cases hy : y.size ≤ 300
    · have hyz : ((y.size : Nat) : Int) ≤ 300 := by omega
      by_cases hz : z.size ≤ 300
      · have hzz : ((z.size : Nat) : Int) ≤ 300 := by omega
        have hp := fun W (hW : Below W0.heap.size W0 W) => pText hN x y z W (hE0.below hW) (by omega) (by omega) (by omega)
        have hr := fun W => rText (N := N) (fun s W hs => rName hN s W hs) x y z W (by omega) (by omega) (by omega)
        obtain ⟨R, hR⟩ : ∃ R, R = textR N x y z := ⟨_, rfl⟩
        simp only [← hR] at hp hr
        have HP := Lib.hid hp
        have HR := Lib.hid hr
        clear hp hr hR hE hE0 hN hW0 hb0 hg0 hx hy hz
        go_enter Tryd.func8, Tryd.ntmps8
        go_wp2_with fail
        rw [← HW0.out]
        refine HAL.out.mono ?_
        rintro e w1 ⟨rfl, b1⟩
        have HB1 := Lib.hid b1
        obtain ⟨⟨c0, c1, c2⟩, cf0, cf1, cf2⟩ := block_cells (HG.out w1 b1)
        clear b1
        go_wp2_with fail
        refine (HP.out w1 HB1.out).mono ?_
        rintro e w2 ⟨rfl, b2⟩
        have hb2 := HB1.out.bt b2
        have HB2 := Lib.hid hb2
        clear c0 c1 c2 cf0 cf1 cf2
        obtain ⟨⟨c0, c1, c2⟩, cf0, cf1, cf2⟩ := block_cells (HG.out w2 hb2)
        clear b2 hb2
        go_wp2_with fail
        refine (HR.out w2).mono ?_
        rintro e w3 ⟨rfl, b3⟩
        have HB3 := Lib.hid (HB2.out.bt b3)
        clear b3 c0 c1 c2 cf0 cf1 cf2
        go_wp2
        go_ret
        exact ⟨by simp, HB0.out.bt HB3.out⟩
      · have hzz : (300 : Int) < ((z.size : Nat) : Int) := by omega
        clear hE hE0 hN hW0 hb0 hg0 hx hy hz
        go_enter Tryd.func8, Tryd.ntmps8
        go_wp2_with fail
        rw [← HW0.out]
        refine HAL.out.mono ?_
        rintro e w1 ⟨rfl, b1⟩
        have HB1 := Lib.hid b1
        obtain ⟨⟨c0, c1, c2⟩, cf0, cf1, cf2⟩ := block_cells (HG.out w1 b1)
        clear b1
        go_wp2
        go_ret
        exact ⟨rfl, HB0.out.bt HB1.out⟩
    · have hyz : (300 : Int) < ((y.size : Nat) : Int) := by omega
      clear hE hE0 hN hW0 hb0 hg0 hx hy
      go_enter Tryd.func8, Tryd.ntmps8
      go_wp2_with fail
      rw [← HW0.out]
      refine HAL.out.mono ?_
      rintro e w1 ⟨rfl, b1⟩
      have HB1 := Lib.hid b1
      obtain ⟨⟨c0, c1, c2⟩, cf0, cf1, cf2⟩ := block_cells (HG.out w1 b1)
      clear b1
      go_wp2
      go_ret
      exact ⟨rfl, HB0.out.bt HB1.out⟩
  · have hxz : (300 : Int) < ((x.size : Nat) : Int) := by omega
    clear hE hE0 hN hW0 hb0 hg0 hx
    go_enter Tryd.func8, Tryd.ntmps8
    go_wp2_with fail
    rw [← HW0.out]
    refine HAL.out.mono ?_
    rintro e w1 ⟨rfl, b1⟩
    have HB1 := Lib.hid b1
    obtain ⟨⟨c0, c1, c2⟩, cf0, cf1, cf2⟩ := block_cells (HG.out w1 b1)
    clear b1
    go_wp2
    go_ret
    exact ⟨rfl, HB0.out.bt HB1.out⟩
end Go.Proofs.YtbolkkpgahoeaaaDoor
