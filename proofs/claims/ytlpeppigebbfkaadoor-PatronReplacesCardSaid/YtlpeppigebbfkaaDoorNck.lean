/- The walk of the program's check (layer 28): what it returns of a patron by itself. -/
import Derived.Test.YtlpeppigebbfkaaDoorNpl
import Derived.Test.YtlpeppigebbfkaaDoorPvl
import Derived.Test.YtlpeppigebbfkaaDoorPcn
import Derived.Lib.FrozenHead2
namespace Go.Proofs.YtlpeppigebbfkaaDoor
open Go Go.RowKit

theorem form_size {F : ByteArray → Bool} (hF : ∀ n, F n = true ↔ formOk n) (n : ByteArray) (h : n.size = 0) : F n = false := by
  cases hf : F n with
  | false => rfl
  | true => exact absurd h ((hF n).1 hf).1
theorem form_text {F : ByteArray → Bool} (hF : ∀ n, F n = true ↔ formOk n) (n : ByteArray) (h : isText n.data.toList = false) : F n = false := by
  cases hf : F n with
  | false => rfl
  | true =>
    obtain ⟨cs, hok, rfl, -⟩ := ((hF n).1 hf).2
    rw [isText_bs cs hok] at h
    cases h
theorem form_clean {F : ByteArray → Bool} (hF : ∀ n, F n = true ↔ formOk n) (cs : List Nat) (hok : okt cs = true) (hne : (bs cs).size ≠ 0) : F (bs cs) = ((bs (clean cs)).toList == (bs cs).toList) := by
  rw [Bool.eq_iff_iff, hF, beq_iff_eq]
  constructor
  · rintro ⟨-, ds, hd, e, hc⟩
    obtain rfl := bs_inj _ _ hok hd e
    rw [hc]
  · intro h
    refine ⟨hne, cs, hok, rfl, ?_⟩
    rw [ByteArray.toList_eq, ByteArray.toList_eq, bs_data, bs_data] at h
    exact enc_inj _ _ (clean_okt cs hok) hok h

set_option maxRecDepth 100000 in
set_option maxHeartbeats 2000000 in
theorem pCheck {F : ByteArray → Bool} (hF : ∀ n, F n = true ↔ formOk n) (p : Pat) (w : World) (hE : Env w) (hn : p.name.size ≤ 1000000) :
    Calls Tryd.prog 31 #[.agg #[.int .i64 p.id, .int .i64 p.kind, .int .i64 p.branch, .int .i64 p.till, .bool p.stop, .string p.name]] w fun e w' => e = .returned (.int .i64 (chk F p)) ∧ Below w.heap.size w w' := by
  obtain ⟨id, kind, branch, till, stop, name⟩ := p
  simp only at hn ⊢
  obtain ⟨R, hR⟩ : ∃ R, R = chk F ⟨id, kind, branch, till, stop, name⟩ := ⟨_, rfl⟩
  rw [← hR]
  unfold chk at hR
  simp only at hR
  have hb1 : Below w.heap.size w (w.alloc (.cells #[.int .i64 id, .int .i64 kind, .int .i64 branch, .int .i64 till, .bool stop, .string name] 28)) := (Below.refl _ _).alloc (Nat.le_refl _) _
  by_cases h1 : kind < 1 ∨ 9 < kind ∨ branch < 1 ∨ 4 < branch
  · rw [if_pos h1] at hR
    have HR := Lib.hid hR
    clear hR
    have hc : kind < 1 ∨ (1 ≤ kind ∧ 9 < kind) ∨ (1 ≤ kind ∧ kind ≤ 9 ∧ branch < 1) ∨ (1 ≤ kind ∧ kind ≤ 9 ∧ 1 ≤ branch ∧ 4 < branch) := by omega
    rcases hc with h | ⟨h, h'⟩ | ⟨h, h', h''⟩ | ⟨h, h', h'', h3⟩
    all_goals
      clear h1
      go_enter Tryd.func31, Tryd.ntmps31
      go_wp2
      go_ret
      exact ⟨by rw [HR.out]; rfl, hb1⟩
  rw [if_neg h1] at hR
  obtain ⟨k1, k2, k3, k4⟩ : 1 ≤ kind ∧ kind ≤ 9 ∧ 1 ≤ branch ∧ branch ≤ 4 := by omega
  clear h1
  by_cases h2 : till < 0 ∨ 109572 < till
  · rw [if_pos h2] at hR
    have HR := Lib.hid hR
    clear hR
    have hc : till < 0 ∨ (0 ≤ till ∧ 109572 < till) := by omega
    rcases hc with h | ⟨h, h'⟩
    all_goals
      clear h2
      go_enter Tryd.func31, Tryd.ntmps31
      go_wp2
      go_ret
      exact ⟨by rw [HR.out]; rfl, hb1⟩
  rw [if_neg h2] at hR
  obtain ⟨k5, k6⟩ : 0 ≤ till ∧ till ≤ 109572 := by omega
  clear h2
  obtain ⟨C, hC⟩ : ∃ C : World → Prop, C = fun w' => Below (w.alloc (.cells #[.int .i64 id, .int .i64 kind, .int .i64 branch, .int .i64 till, .bool stop, .string name] 28)).heap.size (w.alloc (.cells #[.int .i64 id, .int .i64 kind, .int .i64 branch, .int .i64 till, .bool stop, .string name] 28)) w' := ⟨_, rfl⟩
  have hend : ∀ w', C w' → Below w.heap.size w w' := by
    intro w' h
    rw [hC] at h
    exact hb1.bt h
  have hcells : ∀ w', C w' → w'.cell? ⟨w.heap.size, 5, none⟩ = some (.string name) := by
    intro w' h
    rw [hC] at h
    rw [h.cell (by rw [World.size_alloc]; exact Nat.lt_succ_self _), Lib.cell_of_heap (heap_alloc_new w _)]
    rfl
  have hstep : ∀ w' w'', C w' → Below w'.heap.size w' w'' → C w'' := by
    intro w' w'' h k
    rw [hC] at h ⊢
    exact h.bt k
  have hC0 : C { w.alloc (.cells #[.int .i64 id, .int .i64 kind, .int .i64 branch, .int .i64 till, .bool stop, .string name] 28) with drawn := (w.alloc (.cells #[.int .i64 id, .int .i64 kind, .int .i64 branch, .int .i64 till, .bool stop, .string name] 28)).drawn + 1 } := by rw [hC]; exact (Below.refl _ _).drew
  have HC := Lib.hid hC
  clear hC hb1
  by_cases h0 : name.size = 0
  · rw [if_pos (form_size hF name h0)] at hR
    have hnm : name = ⟨#[]⟩ := ByteArray.size_eq_zero_iff.1 h0
    subst hnm
    have HR := Lib.hid hR
    have hclean : ∀ w', C w' → Calls Tryd.prog 51 #[.string ⟨#[]⟩] w' fun e w'' => e = .returned (.string ⟨#[]⟩) ∧ Below w'.heap.size w' w'' := fun w' _ => pClean [] w' rfl (by decide)
    have hvalid := hclean
    clear hR h0
    go_enter Tryd.func31, Tryd.ntmps31
    go_wp2_with fail
    refine wp_region_quiet (C := C) (by kernel_rfl) (by kernel_rfl) hC0 ?_
    show wpQuiet _ _ _ _ [_, _, _, _, _, _, _, _, _, _, _, _, _, _, _, _, _, _] _
    repeat
      with_reducible refine wpQuiet_step (fun K hK => ?_)
      go_simp
      first
        | (with_reducible refine hK _ ?_; clear hK K)
        | (apply Exists.intro
           with_reducible refine ⟨fun w' hw' => ?_, hK _ ?_⟩
           · first
             | with_reducible rfl
             | (obtain q0 := hcells w' hw'; go_simp; with_reducible rfl)
             | ((first
                 | with_reducible refine (hvalid w' hw').mono ?_
                 | with_reducible refine (hclean w' hw').mono ?_)
                exact fun e w'' ⟨he, hb⟩ => ⟨he, hstep w' w'' hw' hb⟩)
           clear hK K)
    refine wpQuiet_nil ?_
    intro w2 hw2
    have hb2 := hend w2 hw2
    clear hcells hvalid hclean hstep hC0 hend hw2
    go_wp2
    go_ret
    exact ⟨by rw [HR.out]; rfl, hb2⟩
  have hne : name.toList.isEmpty = false := by
    cases h : name.toList with
    | nil => rw [ByteArray.toList_eq] at h; exact absurd (by rw [← len_data, h]; rfl) h0
    | cons a r => rfl
  cases hv : isText name.data.toList with
  | false =>
    rw [if_pos (form_text hF name hv)] at hR
    have HR := Lib.hid hR
    have hvalid : ∀ w', C w' → Calls Tryd.prog 50 #[.string name] w' fun e w'' => e = .returned (.bool false) ∧ Below w'.heap.size w' w'' := fun w' h => pValid_false name w' (hE.below (hend w' h)) hv (by omega)
    have hclean := hvalid
    clear hR hv h0
    go_enter Tryd.func31, Tryd.ntmps31
    go_wp2_with fail
    refine wp_region_quiet (C := C) (by kernel_rfl) (by kernel_rfl) hC0 ?_
    show wpQuiet _ _ _ _ [_, _, _, _, _, _, _, _, _, _, _, _, _, _, _, _, _, _] _
    repeat
      with_reducible refine wpQuiet_step (fun K hK => ?_)
      go_simp
      first
        | (with_reducible refine hK _ ?_; clear hK K)
        | (apply Exists.intro
           with_reducible refine ⟨fun w' hw' => ?_, hK _ ?_⟩
           · first
             | with_reducible rfl
             | (obtain q0 := hcells w' hw'; go_simp; with_reducible rfl)
             | ((first
                 | with_reducible refine (hvalid w' hw').mono ?_
                 | with_reducible refine (hclean w' hw').mono ?_)
                exact fun e w'' ⟨he, hb⟩ => ⟨he, hstep w' w'' hw' hb⟩)
           clear hK K)
    refine wpQuiet_nil ?_
    intro w2 hw2
    have hb2 := hend w2 hw2
    clear hcells hvalid hclean hstep hC0 hend hw2
    go_wp2
    go_ret
    exact ⟨by rw [HR.out]; rfl, hb2⟩
  | true =>
    obtain ⟨cs, hok, rfl⟩ := text_bs name hv
    have hvalid : ∀ w', C w' → Calls Tryd.prog 50 #[.string (bs cs)] w' fun e w'' => e = .returned (.bool true) ∧ Below w'.heap.size w' w'' := fun w' h => pValid_true cs w' (hE.below (hend w' h)) hok (by omega)
    have hclean : ∀ w', C w' → Calls Tryd.prog 51 #[.string (bs cs)] w' fun e w'' => e = .returned (.string (bs (clean cs))) ∧ Below w'.heap.size w' w'' := fun w' _ => pClean cs w' hok (by omega)
    have hfc := form_clean hF cs hok h0
    generalize bs (clean cs) = CL at hclean hfc
    generalize bs cs = name at *
    cases heq : (CL.toList == name.toList) with
    | false =>
      rw [heq] at hfc
      rw [if_pos hfc] at hR
      have HR := Lib.hid hR
      clear hR hv h0 hfc
      go_enter Tryd.func31, Tryd.ntmps31
      go_wp2_with fail
      refine wp_region_quiet (C := C) (by kernel_rfl) (by kernel_rfl) hC0 ?_
      show wpQuiet _ _ _ _ [_, _, _, _, _, _, _, _, _, _, _, _, _, _, _, _, _, _] _
      repeat
        with_reducible refine wpQuiet_step (fun K hK => ?_)
        go_simp
        first
          | (with_reducible refine hK _ ?_; clear hK K)
          | (apply Exists.intro
             with_reducible refine ⟨fun w' hw' => ?_, hK _ ?_⟩
             · first
               | with_reducible rfl
               | (obtain q0 := hcells w' hw'; go_simp; with_reducible rfl)
               | ((first
                   | with_reducible refine (hvalid w' hw').mono ?_
                   | with_reducible refine (hclean w' hw').mono ?_)
                  exact fun e w'' ⟨he, hb⟩ => ⟨he, hstep w' w'' hw' hb⟩)
             clear hK K)
      refine wpQuiet_nil ?_
      intro w2 hw2
      have hb2 := hend w2 hw2
      clear hcells hvalid hclean hstep hC0 hend hw2
      go_wp2
      go_ret
      exact ⟨by rw [HR.out]; rfl, hb2⟩
    | true =>
      rw [heq] at hfc
      rw [if_neg (by rw [hfc]; simp)] at hR
      by_cases h200 : 200 < name.size
      · rw [if_pos h200] at hR
        have HR := Lib.hid hR
        clear hR hv h0 hfc
        go_enter Tryd.func31, Tryd.ntmps31
        go_wp2_with fail
        refine wp_region_quiet (C := C) (by kernel_rfl) (by kernel_rfl) hC0 ?_
        show wpQuiet _ _ _ _ [_, _, _, _, _, _, _, _, _, _, _, _, _, _, _, _, _, _] _
        repeat
          with_reducible refine wpQuiet_step (fun K hK => ?_)
          go_simp
          first
            | (with_reducible refine hK _ ?_; clear hK K)
            | (apply Exists.intro
               with_reducible refine ⟨fun w' hw' => ?_, hK _ ?_⟩
               · first
                 | with_reducible rfl
                 | (obtain q0 := hcells w' hw'; go_simp; with_reducible rfl)
                 | ((first
                     | with_reducible refine (hvalid w' hw').mono ?_
                     | with_reducible refine (hclean w' hw').mono ?_)
                    exact fun e w'' ⟨he, hb⟩ => ⟨he, hstep w' w'' hw' hb⟩)
               clear hK K)
        refine wpQuiet_nil ?_
        intro w2 hw2
        have hb2 := hend w2 hw2
        have c5 := hcells w2 hw2
        clear hcells hvalid hclean hstep hC0 hend hw2
        go_wp2
        go_ret
        exact ⟨by rw [HR.out]; rfl, hb2⟩
      · rw [if_neg h200] at hR
        have HR := Lib.hid hR
        clear hR hv h0 hfc
        go_enter Tryd.func31, Tryd.ntmps31
        go_wp2_with fail
        refine wp_region_quiet (C := C) (by kernel_rfl) (by kernel_rfl) hC0 ?_
        show wpQuiet _ _ _ _ [_, _, _, _, _, _, _, _, _, _, _, _, _, _, _, _, _, _] _
        repeat
          with_reducible refine wpQuiet_step (fun K hK => ?_)
          go_simp
          first
            | (with_reducible refine hK _ ?_; clear hK K)
            | (apply Exists.intro
               with_reducible refine ⟨fun w' hw' => ?_, hK _ ?_⟩
               · first
                 | with_reducible rfl
                 | (obtain q0 := hcells w' hw'; go_simp; with_reducible rfl)
                 | ((first
                     | with_reducible refine (hvalid w' hw').mono ?_
                     | with_reducible refine (hclean w' hw').mono ?_)
                    exact fun e w'' ⟨he, hb⟩ => ⟨he, hstep w' w'' hw' hb⟩)
               clear hK K)
        refine wpQuiet_nil ?_
        intro w2 hw2
        have hb2 := hend w2 hw2
        have c5 := hcells w2 hw2
        clear hcells hvalid hclean hstep hC0 hend hw2
        go_wp2
        go_ret
        exact ⟨by rw [HR.out]; rfl, hb2⟩
end Go.Proofs.YtlpeppigebbfkaaDoor
