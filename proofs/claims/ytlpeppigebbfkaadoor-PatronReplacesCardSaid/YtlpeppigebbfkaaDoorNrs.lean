/- The walk of the reference's Replace (layer 28). -/
import Derived.Test.YtlpeppigebbfkaaDoorNrq
namespace Go.Proofs.YtlpeppigebbfkaaDoor
open Go Go.RowKit

set_option maxRecDepth 100000 in
set_option maxHeartbeats 2000000 in
theorem rReplace {F : ByteArray → Bool} (hF : ∀ n, F n = true ↔ formOk n) (v : Value) (l : List Pat) (p : Pat) (w : World) (hv : Pats w v l) (hl : l.length ≤ 1000) (hn : ∀ q ∈ l, q.name.size ≤ 1000000) (hpn : p.name.size ≤ 1000000) :
    Calls Tryd.prog 29 #[v, .agg #[.int .i64 p.id, .int .i64 p.kind, .int .i64 p.branch, .int .i64 p.till, .bool p.stop, .string p.name]] w (RetPats w (replL F l p).1 (replL F l p).2) := by
  obtain ⟨i0, hi, hz0, hz1, hz2⟩ := info_parts infoPat
  have HI := Lib.hid hi; have HZ0 := Lib.hid hz0; have HZ1 := Lib.hid hz1; have HZ2 := Lib.hid hz2
  clear hi hz0 hz1 hz2
  obtain ⟨W0, hW0⟩ : ∃ W0, W0 = w.alloc (.cells #[.int .i64 p.id, .int .i64 p.kind, .int .i64 p.branch, .int .i64 p.till, .bool p.stop, .string p.name] 28) := ⟨_, rfl⟩
  have hb0 : Below w.heap.size w W0 := by rw [hW0]; exact (Below.refl _ _).alloc (Nat.le_refl _) _
  have hs0 : w.heap.size < W0.heap.size := by rw [hW0, World.size_alloc]; exact Nat.lt_succ_self _
  have h60 : Six W0 w.heap.size 0 p := by
    rw [hW0]
    refine ⟨?_, ?_, ?_, ?_, ?_, ?_⟩ <;> (rw [Lib.cell_of_heap (heap_alloc_new w _)]; rfl)
  have hv0 := hv.below hb0 (Nat.le_refl _)
  have hpl := rAt v l p.id W0 hv0 (by omega)
  obtain ⟨pa, pc, rfl, hpc, hcells⟩ := hv
  have HW0 := Lib.hid hW0
  have HB0 := Lib.hid hb0
  have H60 := Lib.hid h60
  have HN := Lib.hid hn
  rcases at64_range l p.id with ⟨h1, -⟩ | ⟨i, q, h1, hq, -, -⟩
  · rw [h1] at hpl
    have HPL := Lib.hid hpl
    have hr : replL F l p = ([], 9) := by unfold replL; rw [at64_none h1]
    rw [hr]
    clear hpl h1 hr hW0 hb0 h60 hv0 hcells hn
    obtain ⟨id, kind, branch, till, stop, name⟩ := p
    go_enter Tryd.func29, Tryd.ntmps29
    go_wp2_with fail
    rw [← HW0.out]
    refine HPL.out.mono ?_
    rintro e w1 ⟨rfl, hw1⟩
    have HB1 : Hid (Below w.heap.size w w1) := Lib.hid (by rw [hw1]; exact HB0.out)
    clear hw1
    go_wp2
    go_ret2
    exact ⟨_, rfl, pats_nil _, HB1.out⟩
  · rw [h1] at hpl
    obtain ⟨hfi, hil⟩ := at64_some h1
    have hr : replL F l p = if right F (l.set i p) = 0 then (l.set i p, 0) else ([], right F (l.set i p)) := by unfold replL; rw [hfi]
    obtain ⟨b, o, rfl, hbl, hcl⟩ : ∃ b o, pa = some ⟨b, o, none⟩ ∧ b < w.heap.size ∧ ∀ j p, l[j]? = some p → ∀ i u, p.enc[i]? = some u → w.cell? ⟨b, o + j * 6 + i, none⟩ = some u := by
      rcases hcells with h0 | h
      · rw [h0] at hil; simp at hil
      · exact h
    have hchk := fun W v' (hv' : Pats W v' (l.set i p)) => rRight hF v' (l.set i p) W hv' (by rw [List.length_set]; omega) (fun q hq => by
      rcases List.mem_or_eq_of_mem_set hq with h | rfl
      · exact HN.out q h
      · exact hpn)
    obtain ⟨R, hR⟩ : ∃ R, R = right F (l.set i p) := ⟨_, rfl⟩
    rw [← hR] at hr hchk
    have HPL := Lib.hid hpl
    have HCK := Lib.hid hchk
    have HR := Lib.hid hr
    have HV0 := Lib.hid hv0
    obtain ⟨n, hnn⟩ : ∃ n, n = l.length := ⟨_, rfl⟩
    have HNN := Lib.hid hnn
    rw [← hnn] at hil hpc HPL HV0 hl ⊢
    have hiz : (i : Int) < (n : Int) := by omega
    clear hpl hchk hr hR hcl hcells hfi h1 hq hW0 hb0 h60 hv0 hn hnn
    go_enter Tryd.func29, Tryd.ntmps29
    go_wp2_with fail
    rw [← HW0.out]
    refine HPL.out.mono ?_
    rintro e w1 ⟨rfl, hw1⟩
    have HV1 : Hid (Pats w1 (.slice (some ⟨b, o, none⟩) n pc) l) := Lib.hid (by rw [hw1]; exact HV0.out)
    have H61 : Hid (Six w1 w.heap.size 0 p ∧ w.heap.size < w1.heap.size ∧ Below w.heap.size w w1) := Lib.hid (by rw [hw1]; exact ⟨H60.out, hs0, HB0.out⟩)
    clear hw1
    go_wp2_with (at_builtin; refine wpList_append_own _ rfl _ _ 22 rfl w1.heap.size 28 i0 (.agg #[.int .i64 0, .int .i64 0, .int .i64 0, .int .i64 0, .bool false, .string ⟨#[]⟩]) 6 56 Tryd.underlying22 HI.out HZ0.out HZ1.out HZ2.out rfl (by decide) _ _ _ rfl (World.ownsRow_made w1 #[] 0 (Nat.le_refl _) (Nat.zero_le _) (by simp)) ⟨b, o, none⟩ n pc (pcells l) rfl ?qc1 ?qc2 ?qc3 ?qc4 ?qc5 ?qc6 ?_)
    case qc1 => rw [HNN.out]; exact pcells_len l
    case qc2 =>
      intro j u hj
      exact Lib.cell?_alloc_some _ (HV1.out.cells rfl j u hj)
    case qc3 => exact pcells_one l
    case qc4 => unfold maxLen; omega
    case qc5 => omega
    case qc6 => simp
    intro v2 w2 hown hgrow hnil
    have hb12 : Below w1.heap.size w1 w2 := ((Below.refl _ w1).alloc (Nat.le_refl _) _).grown hgrow (by simp) (by intro k hk; simp [Value.ownBlock] at hk; omega)
    have hown2 : w2.ownsRow w1.heap.size 28 6 v2 n (pcells l) := by simpa using hown
    obtain ⟨g, cap, rfl⟩ : ∃ g cap, v2 = .slice (some ⟨g, 0, none⟩) n cap := by
      rcases hown2.2 with ⟨h0, -⟩ | ⟨g, cap, cur, hv, -⟩
      · exact absurd h0 hnil
      · exact ⟨g, cap, hv⟩
    have hput := own_put hown2 (i := i) (by rw [← HNN.out]; exact hil) p
    have hgb : w.heap.size ≤ g := by
      have := hown2.lt g rfl
      have := H61.out.2.1
      omega
    have hB2 : Below w.heap.size w (put6 w2 g (i * 6) p) := below_put6 (H61.out.2.2.bt hb12) hgb
    have HPUT := Lib.hid hput
    have HB2 := Lib.hid hB2
    obtain ⟨q0, q1, q2, q3, q4, q5⟩ := H61.out.1.below hb12 H61.out.2.1
    simp only [Nat.zero_add] at q0 q1 q2 q3 q4 q5
    have s0 := hput.2 0 (by omega)
    have s1 := hput.2 1 (by omega)
    have s2 := hput.2 2 (by omega)
    have s3 := hput.2 3 (by omega)
    have s4 := hput.2 4 (by omega)
    have s5 := hput.2 5 (by omega)
    simp only [Nat.add_zero] at s0
    obtain ⟨s0a, s0b⟩ := s0
    obtain ⟨s1a, s1b⟩ := s1
    obtain ⟨s2a, s2b⟩ := s2
    obtain ⟨s3a, s3b⟩ := s3
    obtain ⟨s4a, s4b⟩ := s4
    obtain ⟨s5a, s5b⟩ := s5
    obtain ⟨u0, hu0⟩ := Option.isSome_iff_exists.1 s0a
    obtain ⟨u1, hu1⟩ := Option.isSome_iff_exists.1 s1a
    obtain ⟨u2, hu2⟩ := Option.isSome_iff_exists.1 s2a
    obtain ⟨u3, hu3⟩ := Option.isSome_iff_exists.1 s3a
    obtain ⟨u4, hu4⟩ := Option.isSome_iff_exists.1 s4a
    obtain ⟨u5, hu5⟩ := Option.isSome_iff_exists.1 s5a
    clear hput hB2 hown hown2 hgrow hnil hb12 s0a s1a s2a s3a s4a s5a
    go_wp2_with fail
    change Calls _ _ _ (put6 w2 g (i * 6) p) _
    refine (HCK.out (put6 w2 g (i * 6) p) _ HPUT.out.1).mono ?_
    rintro e w3 ⟨rfl, b3⟩
    have HP3 : Hid (Below w.heap.size w w3 ∧ Pats w3 (.slice (some ⟨g, 0, none⟩) n cap) (l.set i p)) := Lib.hid ⟨HB2.out.bt b3, HPUT.out.1.below b3 (Nat.le_refl _)⟩
    clear b3
    by_cases h0 : R = 0
    · have HR0 : Hid (replL F l p = (l.set i p, 0)) := Lib.hid (by rw [HR.out, if_pos h0])
      have hR0 : (R != 0) = false := by simp [h0]
      clear h0
      go_wp2
      go_ret2
      exact ⟨_, by rw [HR0.out]; rfl, by rw [HR0.out]; exact HP3.out.2, HP3.out.1⟩
    · have HR0 : Hid (replL F l p = ([], R)) := Lib.hid (by rw [HR.out, if_neg h0])
      have hR0 : (R != 0) = true := by simpa using h0
      go_wp2
      go_ret2
      exact ⟨_, by rw [HR0.out]; rfl, by rw [HR0.out]; exact pats_nil _, HP3.out.1⟩
end Go.Proofs.YtlpeppigebbfkaaDoor
