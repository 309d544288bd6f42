/- The walk of the reference's Right (layer 28). -/
import Derived.Test.YtlpeppigebbfkaaDoorNrw
import Derived.Test.YtlpeppigebbfkaaDoorRcn
import Derived.Test.YtlpeppigebbfkaaDoorRvl
namespace Go.Proofs.YtlpeppigebbfkaaDoor
open Go Go.RowKit

/-- The ID of the patron ahead of place k (0 at the front). -/
def ahead (l : List Pat) (k : Nat) : Int := if k = 0 then 0 else (l[k - 1]?.map Pat.id).getD 0
theorem ahead_next (l : List Pat) (k : Nat) (p : Pat) (h : l[k]? = some p) : ahead l (k + 1) = p.id := by
  unfold ahead
  rw [if_neg (by omega), Nat.add_sub_cancel, h]
  rfl

theorem right_next (F : ByteArray → Bool) (last : Int) (l : List Pat) (k : Nat) (p : Pat) (h : l[k]? = some p) :
    rightFrom F last (l.drop k) = if p.id < 1 ∨ 9999 < p.id then 2 else if p.id ≤ last then 7 else if chk F p ≠ 0 then chk F p else rightFrom F (ahead l (k + 1)) (l.drop (k + 1)) := by
  rw [ahead_next l k p h]
  exact right_step F last l k p h

set_option maxRecDepth 100000 in
set_option maxHeartbeats 4000000 in
theorem rRight {F : ByteArray → Bool} (hF : ∀ n, F n = true ↔ formOk n) (v : Value) (l : List Pat) (w : World) (hv : Pats w v l) (hl : l.length ≤ 1000000) (hn : ∀ p ∈ l, p.name.size ≤ 1000000) :
    Calls Tryd.prog 13 #[v] w fun e w' => e = .returned (.int .i64 (right F l)) ∧ Below w.heap.size w w' := by
  obtain ⟨pa, pc, rfl, hpc, hcells⟩ := hv
  obtain ⟨R, hR⟩ : ∃ R, R = right F l := ⟨_, rfl⟩
  rw [← hR]
  unfold right at hR
  obtain ⟨n, hnn⟩ : ∃ n, n = l.length := ⟨_, rfl⟩
  rw [← hnn] at hl hpc hR ⊢
  have HN := Lib.hid hnn
  have HC := Lib.hid hcells
  have HS := Lib.hid hn
  have HF := Lib.hid hF
  clear hnn hcells hn hF
  by_cases h32 : 32 < n
  · rw [if_pos h32] at hR
    have HR := Lib.hid hR
    clear hR
    go_enter Tryd.func13, Tryd.ntmps13
    go_wp2
    go_ret
    exact ⟨by rw [HR.out]; rfl, Below.refl _ _⟩
  rw [if_neg h32] at hR
  have HR := Lib.hid hR
  clear hR
  go_enter Tryd.func13, Tryd.ntmps13
  go_wp2
  go_loopw [3] (fun vk wr => ∃ k : Nat, vk = .int .i64 k ∧ k ≤ n ∧ Hid (R = rightFrom F (ahead l k) (l.drop k)) ∧ Hid (Below w.heap.size w wr)) (fun vk _ => n - (intOf vk).toNat)
  case atStart => exact ⟨0, rfl, by omega, Lib.hid (by have := HR.out; simpa [ahead] using this), Lib.hid (Below.refl _ _)⟩
  case round =>
    obtain ⟨k, rfl, hk, HK, HB⟩ := hrel
    by_cases hlt : k < n
    · have hltz : (k : Int) < (n : Int) := by omega
      obtain ⟨p, hp⟩ : ∃ p, l[k]? = some p := ⟨_, List.getElem?_eq_getElem (by have := HN.out; omega)⟩
      rcases HC.out with h0 | ⟨b, o, rfl, hbl, hcl⟩
      · rw [h0] at hp; cases hp
      have hst := HK.out
      rw [right_next F _ l k p hp] at hst
      have hsz := HS.out p (List.mem_of_getElem? hp)
      have h6 := (six_of (hcl k p hp)).below HB.out hbl
      clear HK
      obtain ⟨id, kind, branch, till, stop, name⟩ := p
      obtain ⟨q0, q1, q2, q3, q4, q5⟩ := h6
      simp only at hst q0 q1 q2 q3 q4 q5 hsz
      obtain ⟨W1, hW1⟩ : ∃ W1, W1 = (wr.alloc (.cells #[.int .i64 id, .int .i64 kind, .int .i64 branch, .int .i64 till, .bool stop, .string name] 28)).drew := ⟨_, rfl⟩
      have HB0 : Hid (Below w.heap.size w (wr.alloc (.cells #[.int .i64 id, .int .i64 kind, .int .i64 branch, .int .i64 till, .bool stop, .string name] 28))) := Lib.hid (HB.out.alloc HB.out.size _)
      have HB1 : Hid (Below w.heap.size w W1) := Lib.hid (by rw [hW1]; exact HB0.out.drew)
      have HS1 : Hid (wr.heap.size < W1.heap.size) := Lib.hid (by rw [hW1]; show _ < (wr.alloc (.cells #[.int .i64 id, .int .i64 kind, .int .i64 branch, .int .i64 till, .bool stop, .string name] 28)).heap.size; rw [World.size_alloc]; exact Nat.lt_succ_self _)
      have cw : ∀ j u, (#[.int .i64 id, .int .i64 kind, .int .i64 branch, .int .i64 till, .bool stop, .string name] : Array Value)[j]? = some u → W1.cell? ⟨wr.heap.size, j, none⟩ = some u := by
        intro j u hj
        rw [hW1]
        show (wr.alloc (.cells #[.int .i64 id, .int .i64 kind, .int .i64 branch, .int .i64 till, .bool stop, .string name] 28)).cell? _ = _
        rw [Lib.cell_of_heap (heap_alloc_new wr _)]
        exact hj
      have p0 := cw 0 _ rfl
      have p1 := cw 1 _ rfl
      have p2 := cw 2 _ rfl
      have p3 := cw 3 _ rfl
      have p5 := cw 5 _ rfl
      clear cw
      have HW1 := Lib.hid hW1
      clear hW1
      by_cases h1 : id < 1 ∨ 9999 < id
      · rw [if_pos h1] at hst
        have HT := Lib.hid hst
        clear hst HR
        have hc : id < 1 ∨ (1 ≤ id ∧ 9999 < id) := by omega
        rcases hc with h | ⟨h, h'⟩
        all_goals
          clear h1
          go_wp2
          go_ret
          exact ⟨by rw [HT.out]; rfl, HB0.out⟩
      rw [if_neg h1] at hst
      obtain ⟨i1, i2⟩ : 1 ≤ id ∧ id ≤ 9999 := by omega
      clear h1
      have hvt : True := trivial
      have hct : True := trivial
      by_cases hk0 : 0 < k
      · obtain ⟨kp, rfl⟩ : ∃ kp, k = kp + 1 := ⟨k - 1, by omega⟩
        obtain ⟨y, hy⟩ : ∃ y, l[kp]? = some y := ⟨_, List.getElem?_eq_getElem (by have := HN.out; omega)⟩
        have hy6 := ((six_of (hcl kp y hy)).below HB0.out hbl).c0
        have hyl : ahead l (kp + 1) = y.id := ahead_next l kp y hy
        rw [hyl] at hst
        obtain ⟨last, hlast⟩ : ∃ last, last = y.id := ⟨_, rfl⟩
        rw [← hlast] at hst hy6
        clear hlast hyl hcl hp hy
        have hwp : IntKind.i64.wrap (kp : Int) = (kp : Int) := by rw [IntKind.wrap_i64]; omega
        have hk1 : (kp : Int) < (n : Int) := by omega
        have hk2 : (0 : Int) < (kp : Int) + 1 := by omega
        by_cases h2 : id ≤ last
        · rw [if_pos h2] at hst
          have HT := Lib.hid hst
          clear hst HR
          go_wp2_with fail
          go_region
          rw [← HW1.out]
          go_wp2
          go_ret
          exact ⟨by rw [HT.out]; rfl, HB1.out⟩
        rw [if_neg h2] at hst
        have h2' : last < id := by omega
        clear h2
        unfold chk at hst
        simp only at hst
        by_cases h1 : kind < 1 ∨ 9 < kind ∨ branch < 1 ∨ 4 < branch
        · rw [if_pos h1, if_pos (by decide)] at hst
          have HT := Lib.hid hst
          clear hst HR hvt hct
          have hc : kind < 1 ∨ (1 ≤ kind ∧ 9 < kind) ∨ (1 ≤ kind ∧ kind ≤ 9 ∧ branch < 1) ∨ (1 ≤ kind ∧ kind ≤ 9 ∧ 1 ≤ branch ∧ 4 < branch) := by omega
          rcases hc with h | ⟨h, h'⟩ | ⟨h, h', h''⟩ | ⟨h, h', h'', h3⟩
          all_goals
            clear h1
            go_wp2_with fail
            go_region
            rw [← HW1.out]
            go_wp2
            go_ret
            exact ⟨by rw [HT.out]; rfl, HB1.out⟩
        rw [if_neg h1] at hst
        obtain ⟨k1, k2, k3, k4⟩ : 1 ≤ kind ∧ kind ≤ 9 ∧ 1 ≤ branch ∧ branch ≤ 4 := by omega
        clear h1
        by_cases h2 : till < 0 ∨ 109572 < till
        · rw [if_pos h2, if_pos (by decide)] at hst
          have HT := Lib.hid hst
          clear hst HR hvt hct
          have hc : till < 0 ∨ (0 ≤ till ∧ 109572 < till) := by omega
          rcases hc with h | ⟨h, h'⟩
          all_goals
            clear h2
            go_wp2_with fail
            go_region
            rw [← HW1.out]
            go_wp2
            go_ret
            exact ⟨by rw [HT.out]; rfl, HB1.out⟩
        rw [if_neg h2] at hst
        obtain ⟨k5, k6⟩ : 0 ≤ till ∧ till ≤ 109572 := by omega
        clear h2
        obtain ⟨C, hC⟩ : ∃ C : World → Prop, C = fun w' => Below W1.heap.size W1 w' := ⟨_, rfl⟩
        have hend : ∀ w', C w' → Below w.heap.size w w' := by
          intro w' h
          rw [hC] at h
          exact HB1.out.bt h
        have hcells : ∀ w', C w' → w'.cell? ⟨wr.heap.size, 5, none⟩ = some (.string name) := by
          intro w' h
          rw [hC] at h
          exact (h.cell (p := ⟨wr.heap.size, 5, none⟩) HS1.out).trans p5
        have hid : ∀ w', C w' → w'.cell? ⟨wr.heap.size, 0, none⟩ = some (.int .i64 id) := by
          intro w' h
          rw [hC] at h
          exact (h.cell (p := ⟨wr.heap.size, 0, none⟩) HS1.out).trans p0
        have hstep : ∀ w' w'', C w' → Below w'.heap.size w' w'' → C w'' := by
          intro w' w'' h k
          rw [hC] at h ⊢
          exact h.bt k
        have hC0 : C { W1 with drawn := W1.drawn + 1 } := by rw [hC]; exact (Below.refl _ _).drew
        clear hC
        by_cases h0 : name.size = 0
        · rw [if_pos (form_size HF.out name h0), if_pos (by decide)] at hst
          have hnm : name = ⟨#[]⟩ := ByteArray.size_eq_zero_iff.1 h0
          subst hnm
          have HT := Lib.hid hst
          have hclean : ∀ w', C w' → Calls Tryd.prog 32 #[.string ⟨#[]⟩] w' fun e w'' => e = .returned (.string ⟨#[]⟩) ∧ Below w'.heap.size w' w'' := fun w' _ => (rClean [] w' rfl (by decide)).mono fun e w'' ⟨he, hd⟩ => ⟨he, hd.below _⟩
          have hvalid := hclean
          clear hst h0 HR hvt hct hid
          go_wp2_with fail
          go_region
          rw [← HW1.out]
          go_wp2_with fail
          refine wp_region_quiet (C := C) (by kernel_rfl) (by kernel_rfl) hC0 ?_
          show wpQuiet _ _ _ _ [_, _, _, _, _, _, _, _, _, _, _, _, _, _, _, _, _] _
          repeat
            with_reducible refine wpQuiet_step (fun K hK => ?_)
            go_simp
            first
              | (with_reducible refine hK _ ?_; clear hK K)
              | (apply Exists.intro
                 with_reducible refine ⟨fun w' hw' => ?_, hK _ ?_⟩
                 · first
                   | with_reducible rfl
                   | (obtain q5' := hcells w' hw'; go_simp; with_reducible rfl)
                   | ((first
                       | with_reducible refine (hvalid w' hw').mono ?_
                       | with_reducible refine (hclean w' hw').mono ?_)
                      exact fun e w'' ⟨he, hb⟩ => ⟨he, hstep w' w'' hw' hb⟩)
                 clear hK K)
          refine wpQuiet_nil ?_
          intro w2 hw2
          have hb2 := hend w2 hw2
          clear hcells hvalid hclean hstep hC0 hend hw2
          go_wp2
          go_ret
          exact ⟨by rw [HT.out]; rfl, hb2⟩
        have hne : name.toList.isEmpty = false := by
          cases h : name.toList with
          | nil => rw [ByteArray.toList_eq] at h; exact absurd (by rw [← len_data, h]; rfl) h0
          | cons a r => rfl
        cases hv : isText name.data.toList with
          | false =>
            rw [if_pos (form_text HF.out name hv), if_pos (by decide)] at hst
            have HT := Lib.hid hst
            have hvalid : ∀ w', C w' → Calls Tryd.prog 21 #[.string name] w' fun e w'' => e = .returned (.bool false) ∧ Below w'.heap.size w' w'' := fun w' _ => (rValid_false name w' hv (by omega)).mono fun e w'' ⟨he, hd⟩ => ⟨he, hd.below _⟩
            have hclean := hvalid
            clear hst hv h0 HR hvt hct hid
            go_wp2_with fail
            go_region
            rw [← HW1.out]
            go_wp2_with fail
            refine wp_region_quiet (C := C) (by kernel_rfl) (by kernel_rfl) hC0 ?_
            show wpQuiet _ _ _ _ [_, _, _, _, _, _, _, _, _, _, _, _, _, _, _, _, _] _
            repeat
              with_reducible refine wpQuiet_step (fun K hK => ?_)
              go_simp
              first
                | (with_reducible refine hK _ ?_; clear hK K)
                | (apply Exists.intro
                   with_reducible refine ⟨fun w' hw' => ?_, hK _ ?_⟩
                   · first
                     | with_reducible rfl
                     | (obtain q5' := hcells w' hw'; go_simp; with_reducible rfl)
                     | ((first
                         | with_reducible refine (hvalid w' hw').mono ?_
                         | with_reducible refine (hclean w' hw').mono ?_)
                        exact fun e w'' ⟨he, hb⟩ => ⟨he, hstep w' w'' hw' hb⟩)
                   clear hK K)
            refine wpQuiet_nil ?_
            intro w2 hw2
            have hb2 := hend w2 hw2
            clear hcells hvalid hclean hstep hC0 hend hw2
            go_wp2
            go_ret
            exact ⟨by rw [HT.out]; rfl, hb2⟩
          | true =>
            obtain ⟨cs, hok, rfl⟩ := text_bs name hv
            have hvalid : ∀ w', C w' → Calls Tryd.prog 21 #[.string (bs cs)] w' fun e w'' => e = .returned (.bool true) ∧ Below w'.heap.size w' w'' := fun w' _ => (rValid_true cs w' hok (by omega)).mono fun e w'' ⟨he, hd⟩ => ⟨he, hd.below _⟩
            have hclean : ∀ w', C w' → Calls Tryd.prog 32 #[.string (bs cs)] w' fun e w'' => e = .returned (.string (bs (clean cs))) ∧ Below w'.heap.size w' w'' := fun w' _ => (rClean cs w' hok (by omega)).mono fun e w'' ⟨he, hd⟩ => ⟨he, hd.below _⟩
            have hfc := form_clean HF.out cs hok h0
            generalize bs (clean cs) = CL at hclean hfc
            generalize bs cs = name at *
            cases heq : (CL.toList == name.toList) with
            | false =>
              rw [heq] at hfc
              rw [if_pos hfc, if_pos (by decide)] at hst
              have HT := Lib.hid hst
              clear hst hv h0 hfc HR hvt hct hid
              go_wp2_with fail
              go_region
              rw [← HW1.out]
              go_wp2_with fail
              refine wp_region_quiet (C := C) (by kernel_rfl) (by kernel_rfl) hC0 ?_
              show wpQuiet _ _ _ _ [_, _, _, _, _, _, _, _, _, _, _, _, _, _, _, _, _] _
              repeat
                with_reducible refine wpQuiet_step (fun K hK => ?_)
                go_simp
                first
                  | (with_reducible refine hK _ ?_; clear hK K)
                  | (apply Exists.intro
                     with_reducible refine ⟨fun w' hw' => ?_, hK _ ?_⟩
                     · first
                       | with_reducible rfl
                       | (obtain q5' := hcells w' hw'; go_simp; with_reducible rfl)
                       | ((first
                           | with_reducible refine (hvalid w' hw').mono ?_
                           | with_reducible refine (hclean w' hw').mono ?_)
                          exact fun e w'' ⟨he, hb⟩ => ⟨he, hstep w' w'' hw' hb⟩)
                     clear hK K)
              refine wpQuiet_nil ?_
              intro w2 hw2
              have hb2 := hend w2 hw2
              clear hcells hvalid hclean hstep hC0 hend hw2
              go_wp2
              go_ret
              exact ⟨by rw [HT.out]; rfl, hb2⟩
            | true =>
              rw [heq] at hfc
              rw [if_neg (show ¬ F name = false by rw [hfc]; simp)] at hst
              by_cases h200 : 200 < name.size
              · rw [if_pos h200, if_pos (by decide)] at hst
                have HT := Lib.hid hst
                clear hst hv h0 hfc HR hvt hct hid
                go_wp2_with fail
                go_region
                rw [← HW1.out]
                go_wp2_with fail
                refine wp_region_quiet (C := C) (by kernel_rfl) (by kernel_rfl) hC0 ?_
                show wpQuiet _ _ _ _ [_, _, _, _, _, _, _, _, _, _, _, _, _, _, _, _, _] _
                repeat
                  with_reducible refine wpQuiet_step (fun K hK => ?_)
                  go_simp
                  first
                    | (with_reducible refine hK _ ?_; clear hK K)
                    | (apply Exists.intro
                       with_reducible refine ⟨fun w' hw' => ?_, hK _ ?_⟩
                       · first
                         | with_reducible rfl
                         | (obtain q5' := hcells w' hw'; go_simp; with_reducible rfl)
                         | ((first
                             | with_reducible refine (hvalid w' hw').mono ?_
                             | with_reducible refine (hclean w' hw').mono ?_)
                            exact fun e w'' ⟨he, hb⟩ => ⟨he, hstep w' w'' hw' hb⟩)
                       clear hK K)
                refine wpQuiet_nil ?_
                intro w2 hw2
                have hb2 := hend w2 hw2
                have c5 := hcells w2 hw2
                clear hcells hvalid hclean hstep hC0 hend hw2
                go_wp2
                go_ret
                exact ⟨by rw [HT.out]; rfl, hb2⟩
              · rw [if_neg h200, if_neg (show ¬ ((0 : Int) ≠ 0) by simp)] at hst
                have HT := Lib.hid hst
                clear hst hv h0 hfc HR hvt hct hid
                go_wp2_with fail
                go_region
                rw [← HW1.out]
                go_wp2_with fail
                refine wp_region_quiet (C := C) (by kernel_rfl) (by kernel_rfl) hC0 ?_
                show wpQuiet _ _ _ _ [_, _, _, _, _, _, _, _, _, _, _, _, _, _, _, _, _] _
                repeat
                  with_reducible refine wpQuiet_step (fun K hK => ?_)
                  go_simp
                  first
                    | (with_reducible refine hK _ ?_; clear hK K)
                    | (apply Exists.intro
                       with_reducible refine ⟨fun w' hw' => ?_, hK _ ?_⟩
                       · first
                         | with_reducible rfl
                         | (obtain q5' := hcells w' hw'; go_simp; with_reducible rfl)
                         | ((first
                             | with_reducible refine (hvalid w' hw').mono ?_
                             | with_reducible refine (hclean w' hw').mono ?_)
                            exact fun e w'' ⟨he, hb⟩ => ⟨he, hstep w' w'' hw' hb⟩)
                       clear hK K)
                refine wpQuiet_nil ?_
                intro w2 hw2
                have hb2 := hend w2 hw2
                have c5 := hcells w2 hw2
                clear hcells hvalid hclean hstep hC0 hend hw2
                have HB2 := Lib.hid hb2
                go_wp2
                go_roundw
                case rel => exact ⟨kp + 1 + 1, by go_num, by omega, HT, HB2⟩
                case measure => simp [intOf]; omega
      · have hkz : k ≤ 0 := by omega
        have hk0z : ¬ (0 : Int) < (k : Int) := by omega
        have ha0 : ahead l k = 0 := by unfold ahead; rw [if_pos (by omega)]
        rw [ha0, if_neg (by omega)] at hst
        clear ha0 hcl hp
        unfold chk at hst
        simp only at hst
        by_cases h1 : kind < 1 ∨ 9 < kind ∨ branch < 1 ∨ 4 < branch
        · rw [if_pos h1, if_pos (by decide)] at hst
          have HT := Lib.hid hst
          clear hst HR hvt hct
          have hc : kind < 1 ∨ (1 ≤ kind ∧ 9 < kind) ∨ (1 ≤ kind ∧ kind ≤ 9 ∧ branch < 1) ∨ (1 ≤ kind ∧ kind ≤ 9 ∧ 1 ≤ branch ∧ 4 < branch) := by omega
          rcases hc with h | ⟨h, h'⟩ | ⟨h, h', h''⟩ | ⟨h, h', h'', h3⟩
          all_goals
            clear h1
            go_wp2_with fail
            go_region
            rw [← HW1.out]
            go_wp2
            go_ret
            exact ⟨by rw [HT.out]; rfl, HB1.out⟩
        rw [if_neg h1] at hst
        obtain ⟨k1, k2, k3, k4⟩ : 1 ≤ kind ∧ kind ≤ 9 ∧ 1 ≤ branch ∧ branch ≤ 4 := by omega
        clear h1
        by_cases h2 : till < 0 ∨ 109572 < till
        · rw [if_pos h2, if_pos (by decide)] at hst
          have HT := Lib.hid hst
          clear hst HR hvt hct
          have hc : till < 0 ∨ (0 ≤ till ∧ 109572 < till) := by omega
          rcases hc with h | ⟨h, h'⟩
          all_goals
            clear h2
            go_wp2_with fail
            go_region
            rw [← HW1.out]
            go_wp2
            go_ret
            exact ⟨by rw [HT.out]; rfl, HB1.out⟩
        rw [if_neg h2] at hst
        obtain ⟨k5, k6⟩ : 0 ≤ till ∧ till ≤ 109572 := by omega
        clear h2
        obtain ⟨C, hC⟩ : ∃ C : World → Prop, C = fun w' => Below W1.heap.size W1 w' := ⟨_, rfl⟩
        have hend : ∀ w', C w' → Below w.heap.size w w' := by
          intro w' h
          rw [hC] at h
          exact HB1.out.bt h
        have hcells : ∀ w', C w' → w'.cell? ⟨wr.heap.size, 5, none⟩ = some (.string name) := by
          intro w' h
          rw [hC] at h
          exact (h.cell (p := ⟨wr.heap.size, 5, none⟩) HS1.out).trans p5
        have hid : ∀ w', C w' → w'.cell? ⟨wr.heap.size, 0, none⟩ = some (.int .i64 id) := by
          intro w' h
          rw [hC] at h
          exact (h.cell (p := ⟨wr.heap.size, 0, none⟩) HS1.out).trans p0
        have hstep : ∀ w' w'', C w' → Below w'.heap.size w' w'' → C w'' := by
          intro w' w'' h k
          rw [hC] at h ⊢
          exact h.bt k
        have hC0 : C { W1 with drawn := W1.drawn + 1 } := by rw [hC]; exact (Below.refl _ _).drew
        clear hC
        by_cases h0 : name.size = 0
        · rw [if_pos (form_size HF.out name h0), if_pos (by decide)] at hst
          have hnm : name = ⟨#[]⟩ := ByteArray.size_eq_zero_iff.1 h0
          subst hnm
          have HT := Lib.hid hst
          have hclean : ∀ w', C w' → Calls Tryd.prog 32 #[.string ⟨#[]⟩] w' fun e w'' => e = .returned (.string ⟨#[]⟩) ∧ Below w'.heap.size w' w'' := fun w' _ => (rClean [] w' rfl (by decide)).mono fun e w'' ⟨he, hd⟩ => ⟨he, hd.below _⟩
          have hvalid := hclean
          clear hst h0 HR hvt hct hid
          go_wp2_with fail
          go_region
          rw [← HW1.out]
          go_wp2_with fail
          refine wp_region_quiet (C := C) (by kernel_rfl) (by kernel_rfl) hC0 ?_
          show wpQuiet _ _ _ _ [_, _, _, _, _, _, _, _, _, _, _, _, _, _, _, _, _] _
          repeat
            with_reducible refine wpQuiet_step (fun K hK => ?_)
            go_simp
            first
              | (with_reducible refine hK _ ?_; clear hK K)
              | (apply Exists.intro
                 with_reducible refine ⟨fun w' hw' => ?_, hK _ ?_⟩
                 · first
                   | with_reducible rfl
                   | (obtain q5' := hcells w' hw'; go_simp; with_reducible rfl)
                   | ((first
                       | with_reducible refine (hvalid w' hw').mono ?_
                       | with_reducible refine (hclean w' hw').mono ?_)
                      exact fun e w'' ⟨he, hb⟩ => ⟨he, hstep w' w'' hw' hb⟩)
                 clear hK K)
          refine wpQuiet_nil ?_
          intro w2 hw2
          have hb2 := hend w2 hw2
          clear hcells hvalid hclean hstep hC0 hend hw2
          go_wp2
          go_ret
          exact ⟨by rw [HT.out]; rfl, hb2⟩
        have hne : name.toList.isEmpty = false := by
          cases h : name.toList with
          | nil => rw [ByteArray.toList_eq] at h; exact absurd (by rw [← len_data, h]; rfl) h0
          | cons a r => rfl
        cases hv : isText name.data.toList with
          | false =>
            rw [if_pos (form_text HF.out name hv), if_pos (by decide)] at hst
            have HT := Lib.hid hst
            have hvalid : ∀ w', C w' → Calls Tryd.prog 21 #[.string name] w' fun e w'' => e = .returned (.bool false) ∧ Below w'.heap.size w' w'' := fun w' _ => (rValid_false name w' hv (by omega)).mono fun e w'' ⟨he, hd⟩ => ⟨he, hd.below _⟩
            have hclean := hvalid
            clear hst hv h0 HR hvt hct hid
            go_wp2_with fail
            go_region
            rw [← HW1.out]
            go_wp2_with fail
            refine wp_region_quiet (C := C) (by kernel_rfl) (by kernel_rfl) hC0 ?_
            show wpQuiet _ _ _ _ [_, _, _, _, _, _, _, _, _, _, _, _, _, _, _, _, _] _
            repeat
              with_reducible refine wpQuiet_step (fun K hK => ?_)
              go_simp
              first
                | (with_reducible refine hK _ ?_; clear hK K)
                | (apply Exists.intro
                   with_reducible refine ⟨fun w' hw' => ?_, hK _ ?_⟩
                   · first
                     | with_reducible rfl
                     | (obtain q5' := hcells w' hw'; go_simp; with_reducible rfl)
                     | ((first
                         | with_reducible refine (hvalid w' hw').mono ?_
                         | with_reducible refine (hclean w' hw').mono ?_)
                        exact fun e w'' ⟨he, hb⟩ => ⟨he, hstep w' w'' hw' hb⟩)
                   clear hK K)
            refine wpQuiet_nil ?_
            intro w2 hw2
            have hb2 := hend w2 hw2
            clear hcells hvalid hclean hstep hC0 hend hw2
            go_wp2
            go_ret
            exact ⟨by rw [HT.out]; rfl, hb2⟩
          | true =>
            obtain ⟨cs, hok, rfl⟩ := text_bs name hv
            have hvalid : ∀ w', C w' → Calls Tryd.prog 21 #[.string (bs cs)] w' fun e w'' => e = .returned (.bool true) ∧ Below w'.heap.size w' w'' := fun w' _ => (rValid_true cs w' hok (by omega)).mono fun e w'' ⟨he, hd⟩ => ⟨he, hd.below _⟩
            have hclean : ∀ w', C w' → Calls Tryd.prog 32 #[.string (bs cs)] w' fun e w'' => e = .returned (.string (bs (clean cs))) ∧ Below w'.heap.size w' w'' := fun w' _ => (rClean cs w' hok (by omega)).mono fun e w'' ⟨he, hd⟩ => ⟨he, hd.below _⟩
            have hfc := form_clean HF.out cs hok h0
            generalize bs (clean cs) = CL at hclean hfc
            generalize bs cs = name at *
            cases heq : (CL.toList == name.toList) with
            | false =>
              rw [heq] at hfc
              rw [if_pos hfc, if_pos (by decide)] at hst
              have HT := Lib.hid hst
              clear hst hv h0 hfc HR hvt hct hid
              go_wp2_with fail
              go_region
              rw [← HW1.out]
              go_wp2_with fail
              refine wp_region_quiet (C := C) (by kernel_rfl) (by kernel_rfl) hC0 ?_
              show wpQuiet _ _ _ _ [_, _, _, _, _, _, _, _, _, _, _, _, _, _, _, _, _] _
              repeat
                with_reducible refine wpQuiet_step (fun K hK => ?_)
                go_simp
                first
                  | (with_reducible refine hK _ ?_; clear hK K)
                  | (apply Exists.intro
                     with_reducible refine ⟨fun w' hw' => ?_, hK _ ?_⟩
                     · first
                       | with_reducible rfl
                       | (obtain q5' := hcells w' hw'; go_simp; with_reducible rfl)
                       | ((first
                           | with_reducible refine (hvalid w' hw').mono ?_
                           | with_reducible refine (hclean w' hw').mono ?_)
                          exact fun e w'' ⟨he, hb⟩ => ⟨he, hstep w' w'' hw' hb⟩)
                     clear hK K)
              refine wpQuiet_nil ?_
              intro w2 hw2
              have hb2 := hend w2 hw2
              clear hcells hvalid hclean hstep hC0 hend hw2
              go_wp2
              go_ret
              exact ⟨by rw [HT.out]; rfl, hb2⟩
            | true =>
              rw [heq] at hfc
              rw [if_neg (show ¬ F name = false by rw [hfc]; simp)] at hst
              by_cases h200 : 200 < name.size
              · rw [if_pos h200, if_pos (by decide)] at hst
                have HT := Lib.hid hst
                clear hst hv h0 hfc HR hvt hct hid
                go_wp2_with fail
                go_region
                rw [← HW1.out]
                go_wp2_with fail
                refine wp_region_quiet (C := C) (by kernel_rfl) (by kernel_rfl) hC0 ?_
                show wpQuiet _ _ _ _ [_, _, _, _, _, _, _, _, _, _, _, _, _, _, _, _, _] _
                repeat
                  with_reducible refine wpQuiet_step (fun K hK => ?_)
                  go_simp
                  first
                    | (with_reducible refine hK _ ?_; clear hK K)
                    | (apply Exists.intro
                       with_reducible refine ⟨fun w' hw' => ?_, hK _ ?_⟩
                       · first
                         | with_reducible rfl
                         | (obtain q5' := hcells w' hw'; go_simp; with_reducible rfl)
                         | ((first
                             | with_reducible refine (hvalid w' hw').mono ?_
                             | with_reducible refine (hclean w' hw').mono ?_)
                            exact fun e w'' ⟨he, hb⟩ => ⟨he, hstep w' w'' hw' hb⟩)
                       clear hK K)
                refine wpQuiet_nil ?_
                intro w2 hw2
                have hb2 := hend w2 hw2
                have c5 := hcells w2 hw2
                clear hcells hvalid hclean hstep hC0 hend hw2
                go_wp2
                go_ret
                exact ⟨by rw [HT.out]; rfl, hb2⟩
              · rw [if_neg h200, if_neg (show ¬ ((0 : Int) ≠ 0) by simp)] at hst
                have HT := Lib.hid hst
                clear hst hv h0 hfc HR hvt hct hid
                go_wp2_with fail
                go_region
                rw [← HW1.out]
                go_wp2_with fail
                refine wp_region_quiet (C := C) (by kernel_rfl) (by kernel_rfl) hC0 ?_
                show wpQuiet _ _ _ _ [_, _, _, _, _, _, _, _, _, _, _, _, _, _, _, _, _] _
                repeat
                  with_reducible refine wpQuiet_step (fun K hK => ?_)
                  go_simp
                  first
                    | (with_reducible refine hK _ ?_; clear hK K)
                    | (apply Exists.intro
                       with_reducible refine ⟨fun w' hw' => ?_, hK _ ?_⟩
                       · first
                         | with_reducible rfl
                         | (obtain q5' := hcells w' hw'; go_simp; with_reducible rfl)
                         | ((first
                             | with_reducible refine (hvalid w' hw').mono ?_
                             | with_reducible refine (hclean w' hw').mono ?_)
                            exact fun e w'' ⟨he, hb⟩ => ⟨he, hstep w' w'' hw' hb⟩)
                       clear hK K)
                refine wpQuiet_nil ?_
                intro w2 hw2
                have hb2 := hend w2 hw2
                have c5 := hcells w2 hw2
                clear hcells hvalid hclean hstep hC0 hend hw2
                have HB2 := Lib.hid hb2
                go_wp2
                go_roundw
                case rel => exact ⟨k + 1, by go_num, by omega, HT, HB2⟩
                case measure => simp [intOf]; omega
    · have hltz : ¬ (k : Int) < (n : Int) := by omega
      have HT : Hid (R = 0) := Lib.hid (by rw [HK.out, List.drop_eq_nil_of_le (by have := HN.out; omega)]; rfl)
      clear HK HR
      go_wp2
      go_ret
      exact ⟨by rw [HT.out]; rfl, HB.out⟩
end Go.Proofs.YtlpeppigebbfkaaDoor
