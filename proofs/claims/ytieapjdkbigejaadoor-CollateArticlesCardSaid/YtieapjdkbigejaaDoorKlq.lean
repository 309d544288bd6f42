/- The walk of the statement CollateArticles (layer 2): it returns true, and what was there before stays. -/
import Derived.Test.YtieapjdkbigejaaDoorKla
import Derived.Test.YtieapjdkbigejaaDoorKap
import Derived.Lib.FrozenHead2
namespace Go.Proofs.YtieapjdkbigejaaDoor
open Go Go.RowKit

def artCells : Array Value := #[.string ⟨#[101, 110, 103]⟩, .string ⟨#[84, 104, 101]⟩, .string ⟨#[101, 110, 103]⟩, .string ⟨#[97]⟩, .string ⟨#[101, 110, 103]⟩, .string ⟨#[65, 78]⟩, .string ⟨#[103, 101, 114]⟩, .string ⟨#[100, 101, 114]⟩, .string ⟨#[103, 101, 114]⟩, .string ⟨#[68, 105, 101]⟩, .string ⟨#[103, 101, 114]⟩, .string ⟨#[68, 65, 83]⟩, .string ⟨#[103, 101, 114]⟩, .string ⟨#[101, 105, 110]⟩, .string ⟨#[103, 101, 114]⟩, .string ⟨#[101, 105, 110, 101]⟩, .string ⟨#[115, 119, 101]⟩, .string ⟨#[69, 110]⟩, .string ⟨#[115, 119, 101]⟩, .string ⟨#[101, 116, 116]⟩, .string ⟨#[115, 119, 101]⟩, .string ⟨#[100, 101, 110]⟩, .string ⟨#[115, 119, 101]⟩, .string ⟨#[100, 101, 116]⟩, .string ⟨#[115, 119, 101]⟩, .string ⟨#[100, 101]⟩, .string ⟨#[115, 112, 97]⟩, .string ⟨#[69, 76]⟩, .string ⟨#[115, 112, 97]⟩, .string ⟨#[108, 97]⟩, .string ⟨#[115, 112, 97]⟩, .string ⟨#[108, 111, 115]⟩, .string ⟨#[115, 112, 97]⟩, .string ⟨#[108, 97, 115]⟩, .string ⟨#[115, 112, 97]⟩, .string ⟨#[117, 110]⟩, .string ⟨#[115, 112, 97]⟩, .string ⟨#[85, 110, 97]⟩]
/-- The cells of the statement's list. -/
theorem art_cells (w : World) (k : Int) (T : TypeId) :
    (w.alloc (.cells #[.string ⟨#[101, 110, 103]⟩, .string ⟨#[84, 104, 101]⟩, .string ⟨#[101, 110, 103]⟩, .string ⟨#[97]⟩, .string ⟨#[101, 110, 103]⟩, .string ⟨#[65, 78]⟩, .string ⟨#[103, 101, 114]⟩, .string ⟨#[100, 101, 114]⟩, .string ⟨#[103, 101, 114]⟩, .string ⟨#[68, 105, 101]⟩, .string ⟨#[103, 101, 114]⟩, .string ⟨#[68, 65, 83]⟩, .string ⟨#[103, 101, 114]⟩, .string ⟨#[101, 105, 110]⟩, .string ⟨#[103, 101, 114]⟩, .string ⟨#[101, 105, 110, 101]⟩, .string ⟨#[115, 119, 101]⟩, .string ⟨#[69, 110]⟩, .string ⟨#[115, 119, 101]⟩, .string ⟨#[101, 116, 116]⟩, .string ⟨#[115, 119, 101]⟩, .string ⟨#[100, 101, 110]⟩, .string ⟨#[115, 119, 101]⟩, .string ⟨#[100, 101, 116]⟩, .string ⟨#[115, 119, 101]⟩, .string ⟨#[100, 101]⟩, .string ⟨#[115, 112, 97]⟩, .string ⟨#[69, 76]⟩, .string ⟨#[115, 112, 97]⟩, .string ⟨#[108, 97]⟩, .string ⟨#[115, 112, 97]⟩, .string ⟨#[108, 111, 115]⟩, .string ⟨#[115, 112, 97]⟩, .string ⟨#[108, 97, 115]⟩, .string ⟨#[115, 112, 97]⟩, .string ⟨#[117, 110]⟩, .string ⟨#[115, 112, 97]⟩, .string ⟨#[85, 110, 97]⟩] T)).cell? ⟨w.heap.size, (k % 19).toNat * 2, none⟩ = some (.string (artW (k % 19).toNat).1) ∧
    (w.alloc (.cells #[.string ⟨#[101, 110, 103]⟩, .string ⟨#[84, 104, 101]⟩, .string ⟨#[101, 110, 103]⟩, .string ⟨#[97]⟩, .string ⟨#[101, 110, 103]⟩, .string ⟨#[65, 78]⟩, .string ⟨#[103, 101, 114]⟩, .string ⟨#[100, 101, 114]⟩, .string ⟨#[103, 101, 114]⟩, .string ⟨#[68, 105, 101]⟩, .string ⟨#[103, 101, 114]⟩, .string ⟨#[68, 65, 83]⟩, .string ⟨#[103, 101, 114]⟩, .string ⟨#[101, 105, 110]⟩, .string ⟨#[103, 101, 114]⟩, .string ⟨#[101, 105, 110, 101]⟩, .string ⟨#[115, 119, 101]⟩, .string ⟨#[69, 110]⟩, .string ⟨#[115, 119, 101]⟩, .string ⟨#[101, 116, 116]⟩, .string ⟨#[115, 119, 101]⟩, .string ⟨#[100, 101, 110]⟩, .string ⟨#[115, 119, 101]⟩, .string ⟨#[100, 101, 116]⟩, .string ⟨#[115, 119, 101]⟩, .string ⟨#[100, 101]⟩, .string ⟨#[115, 112, 97]⟩, .string ⟨#[69, 76]⟩, .string ⟨#[115, 112, 97]⟩, .string ⟨#[108, 97]⟩, .string ⟨#[115, 112, 97]⟩, .string ⟨#[108, 111, 115]⟩, .string ⟨#[115, 112, 97]⟩, .string ⟨#[108, 97, 115]⟩, .string ⟨#[115, 112, 97]⟩, .string ⟨#[117, 110]⟩, .string ⟨#[115, 112, 97]⟩, .string ⟨#[85, 110, 97]⟩] T)).cell? ⟨w.heap.size, (k % 19).toNat * 2 + 1, none⟩ = some (.string (bs (artW (k % 19).toNat).2)) := by
  obtain ⟨j, hj⟩ : ∃ j, j = (k % 19).toNat := ⟨_, rfl⟩
  have hlt : j < 19 := by omega
  rw [← hj, Lib.cell_of_heap (heap_alloc_new w _), Lib.cell_of_heap (heap_alloc_new w _)]
  have h : ∀ j : Fin 19, (#[.string ⟨#[101, 110, 103]⟩, .string ⟨#[84, 104, 101]⟩, .string ⟨#[101, 110, 103]⟩, .string ⟨#[97]⟩, .string ⟨#[101, 110, 103]⟩, .string ⟨#[65, 78]⟩, .string ⟨#[103, 101, 114]⟩, .string ⟨#[100, 101, 114]⟩, .string ⟨#[103, 101, 114]⟩, .string ⟨#[68, 105, 101]⟩, .string ⟨#[103, 101, 114]⟩, .string ⟨#[68, 65, 83]⟩, .string ⟨#[103, 101, 114]⟩, .string ⟨#[101, 105, 110]⟩, .string ⟨#[103, 101, 114]⟩, .string ⟨#[101, 105, 110, 101]⟩, .string ⟨#[115, 119, 101]⟩, .string ⟨#[69, 110]⟩, .string ⟨#[115, 119, 101]⟩, .string ⟨#[101, 116, 116]⟩, .string ⟨#[115, 119, 101]⟩, .string ⟨#[100, 101, 110]⟩, .string ⟨#[115, 119, 101]⟩, .string ⟨#[100, 101, 116]⟩, .string ⟨#[115, 119, 101]⟩, .string ⟨#[100, 101]⟩, .string ⟨#[115, 112, 97]⟩, .string ⟨#[69, 76]⟩, .string ⟨#[115, 112, 97]⟩, .string ⟨#[108, 97]⟩, .string ⟨#[115, 112, 97]⟩, .string ⟨#[108, 111, 115]⟩, .string ⟨#[115, 112, 97]⟩, .string ⟨#[108, 97, 115]⟩, .string ⟨#[115, 112, 97]⟩, .string ⟨#[117, 110]⟩, .string ⟨#[115, 112, 97]⟩, .string ⟨#[85, 110, 97]⟩] : Array Value)[j.1 * 2]? = some (.string (artW j).1) ∧ (#[.string ⟨#[101, 110, 103]⟩, .string ⟨#[84, 104, 101]⟩, .string ⟨#[101, 110, 103]⟩, .string ⟨#[97]⟩, .string ⟨#[101, 110, 103]⟩, .string ⟨#[65, 78]⟩, .string ⟨#[103, 101, 114]⟩, .string ⟨#[100, 101, 114]⟩, .string ⟨#[103, 101, 114]⟩, .string ⟨#[68, 105, 101]⟩, .string ⟨#[103, 101, 114]⟩, .string ⟨#[68, 65, 83]⟩, .string ⟨#[103, 101, 114]⟩, .string ⟨#[101, 105, 110]⟩, .string ⟨#[103, 101, 114]⟩, .string ⟨#[101, 105, 110, 101]⟩, .string ⟨#[115, 119, 101]⟩, .string ⟨#[69, 110]⟩, .string ⟨#[115, 119, 101]⟩, .string ⟨#[101, 116, 116]⟩, .string ⟨#[115, 119, 101]⟩, .string ⟨#[100, 101, 110]⟩, .string ⟨#[115, 119, 101]⟩, .string ⟨#[100, 101, 116]⟩, .string ⟨#[115, 119, 101]⟩, .string ⟨#[100, 101]⟩, .string ⟨#[115, 112, 97]⟩, .string ⟨#[69, 76]⟩, .string ⟨#[115, 112, 97]⟩, .string ⟨#[108, 97]⟩, .string ⟨#[115, 112, 97]⟩, .string ⟨#[108, 111, 115]⟩, .string ⟨#[115, 112, 97]⟩, .string ⟨#[108, 97, 115]⟩, .string ⟨#[115, 112, 97]⟩, .string ⟨#[117, 110]⟩, .string ⟨#[115, 112, 97]⟩, .string ⟨#[85, 110, 97]⟩] : Array Value)[j.1 * 2 + 1]? = some (.string (bs (artW j).2)) := by
    intro j
    match j with
    | ⟨0, _⟩ => exact ⟨rfl, rfl⟩
    | ⟨1, _⟩ => exact ⟨rfl, rfl⟩
    | ⟨2, _⟩ => exact ⟨rfl, rfl⟩
    | ⟨3, _⟩ => exact ⟨rfl, rfl⟩
    | ⟨4, _⟩ => exact ⟨rfl, rfl⟩
    | ⟨5, _⟩ => exact ⟨rfl, rfl⟩
    | ⟨6, _⟩ => exact ⟨rfl, rfl⟩
    | ⟨7, _⟩ => exact ⟨rfl, rfl⟩
    | ⟨8, _⟩ => exact ⟨rfl, rfl⟩
    | ⟨9, _⟩ => exact ⟨rfl, rfl⟩
    | ⟨10, _⟩ => exact ⟨rfl, rfl⟩
    | ⟨11, _⟩ => exact ⟨rfl, rfl⟩
    | ⟨12, _⟩ => exact ⟨rfl, rfl⟩
    | ⟨13, _⟩ => exact ⟨rfl, rfl⟩
    | ⟨14, _⟩ => exact ⟨rfl, rfl⟩
    | ⟨15, _⟩ => exact ⟨rfl, rfl⟩
    | ⟨16, _⟩ => exact ⟨rfl, rfl⟩
    | ⟨17, _⟩ => exact ⟨rfl, rfl⟩
    | ⟨18, _⟩ => exact ⟨rfl, rfl⟩
    | ⟨n + 19, hn⟩ => omega
  exact h ⟨j, hlt⟩
set_option maxRecDepth 100000 in
set_option maxHeartbeats 4000000 in
theorem art_walk (k : Int) (s : ByteArray) (w : World) (hE : Env w) (hk : 0 ≤ k ∧ k ≤ 255)
    (hs : 0 < s.size) (hs2 : s.size ≤ 200) (h0 : ((s[0].toNat : Int) == 32) = false) (_hne : ¬ s = ByteArray.empty) (hne2 : ((s.size : Int) == 0) = false)
    (L A : ByteArray) (hL : Hid (L = (artW (k % 19).toNat).1)) (hA : Hid (A = bs (artW (k % 19).toNat).2)) (hA4 : A.size ≤ 4)
    (h1 : Calls Tryd.prog 11 #[.slice (some ⟨w.heap.size, 0, none⟩) 1 1] (w.alloc (.cells #[.string s] 9)) fun e w' => e = .returned (.bool true) ∧ Below w.heap.size w w')
    (c1 : Hid (∀ W, Env W → Calls Tryd.prog 15 #[.string L, .string (A ++ (⟨#[32]⟩ : ByteArray) ++ s)] W fun e w' => e = .returned (.string s) ∧ Below W.heap.size W w'))
    (c2 : Hid (∀ W, Env W → Calls Tryd.prog 15 #[.string ⟨#[108, 97, 116]⟩, .string (A ++ (⟨#[32]⟩ : ByteArray) ++ s)] W fun e w' => e = .returned (.string (A ++ (⟨#[32]⟩ : ByteArray) ++ s)) ∧ Below W.heap.size W w')) :
    Calls Tryd.prog 8 #[.int .u8 k, .string s] w fun e w' => e = .returned (.bool true) ∧ Below w.heap.size w w' := by
  have H1 := Lib.hid h1
  clear h1
  go_enter Tryd.func8, Tryd.ntmps8
  go_wp2_with fail
  refine H1.out.mono ?_
  rintro e w1 ⟨rfl, b1⟩
  obtain ⟨q0, q1⟩ := art_cells w1 k 32
  rw [← hL.out] at q0
  rw [← hA.out] at q1
  go_wp2_with fail
  change Code.wp _ _ _ _ ((w1.alloc (.cells artCells 32)).alloc _)
  generalize hW2 : (w1.alloc (.cells artCells 32)).alloc (.cells #[.string L, .string A] 32) = W2
  have hB1 : Below w.heap.size w w1 := b1
  have hB2 : Below w1.heap.size w1 W2 := by
    rw [← hW2]
    exact ((Below.refl _ _).alloc (Nat.le_refl _) _).alloc (by rw [World.size_alloc]; exact Nat.le_succ _) _
  have hBW : Below w.heap.size w W2 := hB1.trans (hB2.mono hB1.size)
  have hE2 : Env W2 := hE.below hBW
  have hn2 : W2.heap.size = w1.heap.size + 1 + 1 := by rw [← hW2, World.size_alloc, World.size_alloc]
  have p0 : W2.cell? ⟨w1.heap.size + 1, 0, none⟩ = some (.string L) := by
    rw [← hW2, show w1.heap.size + 1 = (w1.alloc (.cells artCells 32)).heap.size from (World.size_alloc _ _).symm, Lib.cell_of_heap (heap_alloc_new _ _)]
    rfl
  have p1 : W2.cell? ⟨w1.heap.size + 1, 1, none⟩ = some (.string A) := by
    rw [← hW2, show w1.heap.size + 1 = (w1.alloc (.cells artCells 32)).heap.size from (World.size_alloc _ _).symm, Lib.cell_of_heap (heap_alloc_new _ _)]
    rfl
  clear hW2 q0 q1
  obtain ⟨C, hC⟩ : ∃ C : World → Prop, C = fun w' => Below W2.heap.size W2 w' := ⟨_, rfl⟩
  have hE0 : ∀ w', C w' → Env w' := fun w' h => hE2.below (by rw [hC] at h; exact h)
  have hcells : ∀ w', C w' → w'.cell? ⟨w1.heap.size + 1, 0, none⟩ = some (.string L) ∧ w'.cell? ⟨w1.heap.size + 1, 1, none⟩ = some (.string A) := by
    intro w' h
    rw [hC] at h
    exact ⟨(h.cell (by show w1.heap.size + 1 < W2.heap.size; omega)).trans p0, (h.cell (by show w1.heap.size + 1 < W2.heap.size; omega)).trans p1⟩
  have hstep : ∀ w' w'', C w' → Below w'.heap.size w' w'' → C w'' := by
    intro w' w'' h k
    rw [hC] at h ⊢
    exact h.trans (k.mono h.size)
  have hend : ∀ w', C w' → Below w.heap.size w w' := by
    intro w' h
    rw [hC] at h
    exact hBW.trans (h.mono hBW.size)
  have hC0 : C { W2 with drawn := W2.drawn + 1 } := by
    rw [hC]
    exact (Below.refl _ _).drew
  refine wp_region_quiet (C := C) (by kernel_rfl) (by kernel_rfl) hC0 ?_
  clear hC hC0 p0 p1 hB1 hB2 hBW hn2 hE hE2 b1 hL hA
  show wpQuiet _ _ _ _ [_, _, _, _, _, _, _, _, _, _, _, _, _, _, _, _, _, _, _, _, _, _, _, _, _, _, _, _] _
  repeat
    refine wpQuiet_step (fun K hK => ?_)
    go_simp
    first
      | (refine hK _ ?_; clear hK K)
      | (apply Exists.intro
         refine ⟨fun w' hw' => ?_, hK _ ?_⟩
         · first
           | with_reducible rfl
           | (obtain ⟨q0, q1⟩ := hcells w' hw'; go_simp; with_reducible rfl)
           | (rw [if_neg (by omega)]; go_simp; with_reducible rfl)
           | (rw [if_neg (by omega)]; with_reducible rfl)
           | (rw [if_neg (by omega)]; rfl)
           | ((first
               | with_reducible refine (c1.out w' (hE0 w' hw')).mono ?_
               | with_reducible refine (c2.out w' (hE0 w' hw')).mono ?_
               | with_reducible refine (alive_any w' (hE0 w' hw')).mono ?_)
              exact fun e w'' ⟨he, hb⟩ => ⟨he, hstep w' w'' hw' hb⟩)
         clear hK K)
  refine wpQuiet_nil ?_
  intro w2 hw2
  have hb2 := hend w2 hw2
  go_wp2
  go_ret
  exact ⟨rfl, hb2⟩

set_option maxRecDepth 100000 in
set_option maxHeartbeats 4000000 in
theorem law_CollateArticles (k : Int) (s : ByteArray) (w : World) (hE : Env w) (hkw : (Lit.int .u8 k).wf = true) (hs : s.size ≤ 9223372036854775807) :
    Calls Tryd.prog 8 #[.int .u8 k, .string s] w fun e w' => e = .returned (.bool true) ∧ Below w.heap.size w w' := by
  have hk := bounds_u8 hkw
  clear hkw
  by_cases hs0 : s.size = 0
  · obtain rfl : s = ByteArray.empty := ByteArray.size_eq_zero_iff.1 hs0
    go_enter Tryd.func8, Tryd.ntmps8
    go_wp2_with fail
    refine (alive_any _ hE).mono ?_
    rintro e w2 ⟨rfl, b2⟩
    go_wp2
    go_ret
    exact ⟨rfl, b2⟩
  have hp : 0 < s.size := by omega
  have hne : ¬ s = ByteArray.empty := by rintro rfl; exact hs0 rfl
  have hne2 : ((s.size : Int) == 0) = false := by rw [beq_eq_false_iff_ne]; omega
  by_cases h2 : 200 < s.size
  · go_enter Tryd.func8, Tryd.ntmps8
    go_wp2_with fail
    refine (alive_any _ hE).mono ?_
    rintro e w2 ⟨rfl, b2⟩
    go_wp2
    go_ret
    exact ⟨rfl, b2⟩
  have h2' : s.size ≤ 200 := by omega
  clear hs0
  cases h0 : ((s[0].toNat : Int) == 32) with
  | true =>
    go_enter Tryd.func8, Tryd.ntmps8
    go_wp2_with fail
    refine (alive_any _ hE).mono ?_
    rintro e w2 ⟨rfl, b2⟩
    go_wp2
    go_ret
    exact ⟨rfl, b2⟩
  | false =>
    have h1 := small1 s w hs
    cases hv : (decide (s.size ≤ 300) && isText s.data.toList) with
    | false =>
      rw [hv] at h1
      have H1 := Lib.hid h1
      clear h1 hv
      go_enter Tryd.func8, Tryd.ntmps8
      go_wp2_with fail
      refine H1.out.mono ?_
      rintro e w1 ⟨rfl, b1⟩
      go_wp2_with fail
      refine (alive_any _ (hE.below b1)).mono ?_
      rintro e w2 ⟨rfl, b2⟩
      go_wp2
      go_ret
      exact ⟨rfl, b1.bt b2⟩
    | true =>
      rw [hv] at h1
      obtain ⟨cs, hok, rfl, -⟩ := small_text hv
      clear hv
      obtain ⟨c, r, rfl, hc⟩ := front_of cs (by omega) (fun hlt => by
        have := h0
        rw [beq_eq_false_iff_ne] at this
        omega)
      have hj : (k % 19).toNat < 19 := by omega
      obtain ⟨i1, i2, i3, i4, i5⟩ := artW_all ⟨(k % 19).toNat, hj⟩
      have hsk := art_skip (k % 19).toNat hj r c hc
      simp only at i1 i2 i3 i4 i5
      have e1 : bs (artW (k % 19).toNat).2 ++ (⟨#[32]⟩ : ByteArray) ++ bs (c :: r) = bs ((artW (k % 19).toNat).2 ++ 32 :: c :: r) := by
        rw [show (⟨#[32]⟩ : ByteArray) = bs [32] from rfl, bs_append, bs_append, List.append_assoc]; rfl
      have o1 : okt ((artW (k % 19).toNat).2 ++ 32 :: c :: r) = true := by
        rw [okt_append, i2, show okt (32 :: c :: r) = (true && okt (c :: r)) from rfl, hok]; rfl
      have z1 : (bs ((artW (k % 19).toNat).2 ++ 32 :: c :: r)).size ≤ 1000000 := by
        rw [← e1, ByteArray.size_append, ByteArray.size_append]
        have : (⟨#[32]⟩ : ByteArray).size = 1 := rfl
        omega
      refine art_walk k (bs (c :: r)) w hE hk hp h2' h0 hne hne2 _ _ (Lib.hid rfl) (Lib.hid rfl) i4 h1 (Lib.hid fun W hW => ?_) (Lib.hid fun W hW => ?_)
      · have := pSkip (artW (k % 19).toNat).1 _ W hW (by omega) o1 z1
        rw [hsk] at this
        rw [e1]
        exact this
      · have := pSkip ⟨#[108, 97, 116]⟩ _ W hW (by decide) o1 z1
        rw [show lcode ⟨#[108, 97, 116]⟩ = 0 from by decide, skip_none] at this
        rw [e1]
        exact this
end Go.Proofs.YtieapjdkbigejaaDoor
