/- The walk of the program's Replace (layer 28). -/
import Derived.Test.YtlpeppigebbfkaaDoorNrp
namespace Go.Proofs.YtlpeppigebbfkaaDoor
open Go Go.RowKit

/-- A call hands back these patrons and this error; older memory is as it was. -/
def RetPats (w : World) (xs : List Pat) (err : Int) (e : Ending) (w' : World) : Prop := ∃ v, e = .returned (.tuple #[v, .int .i64 err]) ∧ Pats w' v xs ∧ Below w.heap.size w w'
theorem pats_nil (w : World) : Pats w (.slice none 0 0) [] := ⟨none, 0, rfl, Nat.le_refl _, .inl rfl⟩
/-- What Replace does: the list, and the error. -/
def replL (F : ByteArray → Bool) (l : List Pat) (p : Pat) : List Pat × Int :=
  match l.findIdx? (fun q => q.id == p.id) with
  | none => ([], 9)
  | some i => if right F (l.set i p) = 0 then (l.set i p, 0) else ([], right F (l.set i p))
theorem at64_some {l : List Pat} {x : Int} {i : Nat} (h : at64 l x = (i : Int)) : l.findIdx? (fun p => p.id == x) = some i ∧ i < l.length := by
  unfold at64 at h
  cases hf : l.findIdx? (fun p => p.id == x) with
  | none => rw [hf] at h; simp at h
  | some k =>
    rw [hf] at h
    obtain rfl : k = i := by have := h; simp at this; omega
    exact ⟨rfl, (List.findIdx?_eq_some_iff_getElem.1 hf).1⟩
theorem at64_none {l : List Pat} {x : Int} (h : at64 l x = -1) : l.findIdx? (fun p => p.id == x) = none := by
  unfold at64 at h
  cases hf : l.findIdx? (fun p => p.id == x) with
  | none => rfl
  | some k => rw [hf] at h; simp at h

set_option maxRecDepth 100000 in
set_option maxHeartbeats 2000000 in
theorem pReplace {F : ByteArray → Bool} (hF : ∀ n, F n = true ↔ formOk n) (v : Value) (l : List Pat) (p : Pat) (w : World) (hE : Env w) (hv : Pats w v l) (hl : l.length ≤ 1000) (hn : ∀ q ∈ l, q.name.size ≤ 1000000) (hpn : p.name.size ≤ 1000000) :
    Calls Tryd.prog 28 #[v, .agg #[.int .i64 p.id, .int .i64 p.kind, .int .i64 p.branch, .int .i64 p.till, .bool p.stop, .string p.name]] w (RetPats w (replL F l p).1 (replL F l p).2) := by
  obtain ⟨W0, hW0⟩ : ∃ W0, W0 = w.alloc (.cells #[.int .i64 p.id, .int .i64 p.kind, .int .i64 p.branch, .int .i64 p.till, .bool p.stop, .string p.name] 28) := ⟨_, rfl⟩
  have hb0 : Below w.heap.size w W0 := by rw [hW0]; exact (Below.refl _ _).alloc (Nat.le_refl _) _
  have hs0 : w.heap.size < W0.heap.size := by rw [hW0, World.size_alloc]; exact Nat.lt_succ_self _
  have h60 : Six W0 w.heap.size 0 p := by
    rw [hW0]
    refine ⟨?_, ?_, ?_, ?_, ?_, ?_⟩ <;> (rw [Lib.cell_of_heap (heap_alloc_new w _)]; rfl)
  have hv0 := hv.below hb0 (Nat.le_refl _)
  have hpl := pPlace v l p.id W0 hv0 (by omega)
  obtain ⟨pa, pc, rfl, hpc, hcells⟩ := hv
  have HW0 := Lib.hid hW0
  have HB0 := Lib.hid hb0
  have HE := Lib.hid hE
  have H60 := Lib.hid h60
  have HN := Lib.hid hn
  rcases at64_range l p.id with ⟨h1, -⟩ | ⟨i, q, h1, hq, -, -⟩
  · rw [h1] at hpl
    have HPL := Lib.hid hpl
    have hr : replL F l p = ([], 9) := by unfold replL; rw [at64_none h1]
    rw [hr]
    clear hpl h1 hr hW0 hb0 h60 hv0 hcells hE hn
    obtain ⟨id, kind, branch, till, stop, name⟩ := p
    go_enter Tryd.func28, Tryd.ntmps28
    go_wp2_with fail
    rw [← HW0.out]
    refine HPL.out.mono ?_
    rintro e w1 ⟨rfl, b1⟩
    go_wp2
    go_ret2
    exact ⟨_, rfl, pats_nil _, HB0.out.bt b1⟩
  · rw [h1] at hpl
    obtain ⟨hfi, hil⟩ := at64_some h1
    have hr : replL F l p = if right F (l.set i p) = 0 then (l.set i p, 0) else ([], right F (l.set i p)) := by unfold replL; rw [hfi]
    obtain ⟨b, o, rfl, hbl, hcl⟩ : ∃ b o, pa = some ⟨b, o, none⟩ ∧ b < w.heap.size ∧ ∀ j p, l[j]? = some p → ∀ i u, p.enc[i]? = some u → w.cell? ⟨b, o + j * 6 + i, none⟩ = some u := by
      rcases hcells with h0 | h
      · rw [h0] at hil; simp at hil
      · exact h
    have hclone := fun W (hW : Below W0.heap.size W0 W) => pClone ⟨b, o, none⟩ pc l W hl (hv0.below hW (Nat.le_refl _))
    have hchk := fun W (hW : Env W) v' (hv' : Pats W v' (l.set i p)) => pChecked hF v' (l.set i p) W hW hv' (by rw [List.length_set]; omega) (fun q hq => by
      rcases List.mem_or_eq_of_mem_set hq with h | rfl
      · exact HN.out q h
      · exact hpn)
    obtain ⟨R, hR⟩ : ∃ R, R = right F (l.set i p) := ⟨_, rfl⟩
    rw [← hR] at hr hchk
    have HPL := Lib.hid hpl
    have HCL := Lib.hid hclone
    have HCK := Lib.hid hchk
    have HR := Lib.hid hr
    have HV0 := Lib.hid hv0
    obtain ⟨n, hnn⟩ : ∃ n, n = l.length := ⟨_, rfl⟩
    have HNN := Lib.hid hnn
    rw [← hnn] at hil hpc HCL HPL ⊢
    have hiz : (i : Int) < (n : Int) := by omega
    clear hpl hclone hchk hr hR hcl hcells hfi h1 hq hW0 hb0 h60 hv0 hE hn hnn
    go_enter Tryd.func28, Tryd.ntmps28
    go_wp2_with fail
    rw [← HW0.out]
    refine HPL.out.mono ?_
    rintro e w1 ⟨rfl, b1⟩
    have HB1 := Lib.hid b1
    clear b1
    go_wp2_with fail
    refine (HCL.out w1 HB1.out).mono ?_
    rintro e w2 ⟨v2, rfl, hown, hnil, b2⟩
    have hb2 : Below W0.heap.size W0 w2 := HB1.out.bt b2
    obtain ⟨g, cap, rfl⟩ : ∃ g cap, v2 = .slice (some ⟨g, 0, none⟩) n cap := by
      rcases hown.2 with ⟨h0, -⟩ | ⟨g, cap, cur, hv, -⟩
      · exact absurd h0 hnil
      · exact ⟨g, cap, hv⟩
    have hput := own_put hown (i := i) (by rw [← HNN.out]; exact hil) p
    have hgb : w.heap.size ≤ g := by
      have := hown.lt g rfl
      have := HB0.out.size
      have := HB1.out.size
      omega
    have hB2 : Below w.heap.size w (put6 w2 g (i * 6) p) := below_put6 (HB0.out.bt hb2) hgb
    have HPUT := Lib.hid hput
    have HB2 := Lib.hid hB2
    obtain ⟨q0, q1, q2, q3, q4, q5⟩ := H60.out.below hb2 hs0
    simp only [Nat.zero_add] at q0 q1 q2 q3 q4 q5
    have s0 := hput.2 0 (by omega)
    have s1 := hput.2 1 (by omega)
    have s2 := hput.2 2 (by omega)
    have s3 := hput.2 3 (by omega)
    have s4 := hput.2 4 (by omega)
    have s5 := hput.2 5 (by omega)
    simp only [Nat.add_zero] at s0
    obtain ⟨s0a, s0b⟩ := s0
    obtain ⟨s1a, s1b⟩ := s1
    obtain ⟨s2a, s2b⟩ := s2
    obtain ⟨s3a, s3b⟩ := s3
    obtain ⟨s4a, s4b⟩ := s4
    obtain ⟨s5a, s5b⟩ := s5
    obtain ⟨u0, hu0⟩ := Option.isSome_iff_exists.1 s0a
    obtain ⟨u1, hu1⟩ := Option.isSome_iff_exists.1 s1a
    obtain ⟨u2, hu2⟩ := Option.isSome_iff_exists.1 s2a
    obtain ⟨u3, hu3⟩ := Option.isSome_iff_exists.1 s3a
    obtain ⟨u4, hu4⟩ := Option.isSome_iff_exists.1 s4a
    obtain ⟨u5, hu5⟩ := Option.isSome_iff_exists.1 s5a
    clear hput hB2 hown hnil b2 hb2 s0a s1a s2a s3a s4a s5a
    go_wp2_with fail
    change Calls _ _ _ (put6 w2 g (i * 6) p) _
    refine (HCK.out (put6 w2 g (i * 6) p) (HE.out.below HB2.out) _ HPUT.out.1).mono ?_
    rintro e w3 ⟨rfl, b3⟩
    obtain ⟨ov, hov⟩ : ∃ ov, ov = outV R (.slice (some ⟨g, 0, none⟩) n cap) := ⟨_, rfl⟩
    rw [← hov]
    have HP3 : Hid (Pats w3 ov (replL F l p).1 ∧ (replL F l p).2 = R ∧ Below w.heap.size w w3) := Lib.hid (by
      refine ⟨?_, ?_, HB2.out.bt b3⟩
      · rw [HR.out, hov]
        unfold outV
        by_cases h0 : R = 0
        · rw [if_pos h0, if_pos h0]
          exact HPUT.out.1.below b3 (Nat.le_refl _)
        · rw [if_neg h0, if_neg h0]
          exact pats_nil _
      · rw [HR.out]
        by_cases h0 : R = 0
        · rw [if_pos h0, h0]
        · rw [if_neg h0])
    clear hov b3
    go_wp2
    go_ret2
    exact ⟨ov, by rw [HP3.out.2.1]; rfl, HP3.out.1, HP3.out.2.2⟩
end Go.Proofs.YtlpeppigebbfkaaDoor
