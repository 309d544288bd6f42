/- The walks of merge.Right at a good parting, of part, Split and Whole (layer 16). -/
import Derived.Test.YtcdlgmncalmihaaDoorGdl
namespace Go.Proofs.YtcdlgmncalmihaaDoor
open Go Go.RowKit

/-- A parting without errors. -/
structure PartOk (p : Part) : Prop where
  lo : 1 ≤ p.into
  hi : p.into ≤ 9999
  rec_ : recErr p.frm.r = 0
  id0 : p.frm.r.id ≠ 0
  ne : p.frm.r.id ≠ p.into
  rng : ∀ i ∈ p.taken, 0 ≤ i ∧ i < (p.frm.r.fields.length : Int)
  asc : ∀ (k : Nat) (i j : Int), p.taken[k]? = some i → p.taken[k + 1]? = some j → i < j

set_option maxRecDepth 100000 in
set_option maxHeartbeats 4000000 in
theorem pPRight (p : Part) (tv : Value) (w : World) (hE : Env w) (hf : RcdAt w p.frm) (ht : IntsAt w tv p.taken) (hs : p.frm.r.small) (hok : PartOk p) (hl : p.taken.length ≤ 100000) (hfl : p.frm.r.fields.length ≤ 100000) :
    Calls Tryd.prog 24 #[partV p tv] w fun e w' => e = .returned (.int .i64 0) ∧ Below w.heap.size w w' := by
  have HRR : Hid (∀ W, Below w.heap.size w W → Calls Tryd.prog 26 #[recV5 p.frm] W fun e w' => e = .returned (.int .i64 0) ∧ Below W.heap.size W w') := Lib.hid (fun W h => by
    have := pRecRight p.frm.r p.frm.sa p.frm.r.fields.length p.frm.sc W (hE.below h) (Flds.below hf h (Nat.le_refl _)) hs
    rw [hok.rec_] at this
    exact this)
  obtain ⟨ta, tc, rfl, -⟩ := Rows.shape ht
  obtain ⟨-, hc1, hx1⟩ := int_cells ht
  obtain ⟨o1, o2, -, o4, o5, o6, o7⟩ := hok
  unfold partV
  unfold recV5 at HRR
  obtain ⟨into, ⟨⟨id, ver, kind, lang, fl⟩, fa, fc⟩, tl⟩ := p
  simp only at HRR hc1 hx1 hl hfl o1 o2 o4 o5 o6 o7 ⊢
  obtain ⟨fn, hfn⟩ : ∃ n, n = fl.length := ⟨_, rfl⟩
  obtain ⟨tn, htn⟩ : ∃ n, n = tl.length := ⟨_, rfl⟩
  rw [← hfn] at HRR o6 hfl ⊢
  rw [← htn] at hc1 hx1 hl ⊢
  have HTN := Lib.hid htn
  have HX1 := Lib.hid hx1
  have HO6 := Lib.hid o6
  have HO7 := Lib.hid o7
  have z4 : (id == 0) = false := by simpa using o4
  have z5 : (id == into) = false := by simpa using o5
  have HB0 : Hid (Below w.heap.size w (w.alloc (.cells #[.int .i64 into, .int .i64 id, .int .i64 ver, .int .i64 kind, .string lang, .slice fa fn fc, .slice ta tn tc] 36))) := Lib.hid ((Below.refl _ _).alloc (Nat.le_refl _) _)
  have HCE : Hid (∀ W, Below (w.alloc (.cells #[.int .i64 into, .int .i64 id, .int .i64 ver, .int .i64 kind, .string lang, .slice fa fn fc, .slice ta tn tc] 36)).heap.size (w.alloc (.cells #[.int .i64 into, .int .i64 id, .int .i64 ver, .int .i64 kind, .string lang, .slice fa fn fc, .slice ta tn tc] 36)) W → W.heap[w.heap.size]? = some (.cells #[.int .i64 into, .int .i64 id, .int .i64 ver, .int .i64 kind, .string lang, .slice fa fn fc, .slice ta tn tc] 36 (0, 0))) := Lib.hid (fun W h => (h.block _ (by simp)).trans (alloc_at rfl))
  clear hE hf ht hs hfn htn hx1 o4 o5 o6 o7
  have x0 := HCE.out _ (Below.refl _ _)
  have q0 := Lib.cell_of_heap x0 0
  have q1 := Lib.cell_of_heap x0 1
  have q2 := Lib.cell_of_heap x0 2
  have q3 := Lib.cell_of_heap x0 3
  have q4 := Lib.cell_of_heap x0 4
  have q5 := Lib.cell_of_heap x0 5
  have q6 := Lib.cell_of_heap x0 6
  clear x0
  go_enter Tryd.func24, Tryd.ntmps24
  go_wp2_with fail
  refine (HRR.out _ HB0.out).mono ?_
  rintro e w1 ⟨rfl, b1⟩
  have HC1 := Lib.hid b1
  have x0 := HCE.out _ b1
  clear b1 q0 q1 q2 q3 q4 q5 q6
  have q0 := Lib.cell_of_heap x0 0
  have q1 := Lib.cell_of_heap x0 1
  have q2 := Lib.cell_of_heap x0 2
  have q3 := Lib.cell_of_heap x0 3
  have q4 := Lib.cell_of_heap x0 4
  have q5 := Lib.cell_of_heap x0 5
  have q6 := Lib.cell_of_heap x0 6
  clear x0
  go_wp2
  go_loopw [34] (fun vk wr => ∃ k : Nat, vk = .int .i64 k ∧ k ≤ tn ∧ Hid (Below (w.alloc (.cells #[.int .i64 into, .int .i64 id, .int .i64 ver, .int .i64 kind, .string lang, .slice fa fn fc, .slice ta tn tc] 36)).heap.size (w.alloc (.cells #[.int .i64 into, .int .i64 id, .int .i64 ver, .int .i64 kind, .string lang, .slice fa fn fc, .slice ta tn tc] 36)) wr)) (fun vk _ => tn - (intOf vk).toNat)
  case atStart => exact ⟨0, rfl, by omega, HC1⟩
  case round =>
    obtain ⟨k, rfl, hk, HB⟩ := hrel
    have x0 := HCE.out _ HB.out
    clear q0 q1 q2 q3 q4 q5 q6
    have q5 := Lib.cell_of_heap x0 5
    have q6 := Lib.cell_of_heap x0 6
    have HBW := Lib.hid (HB0.out.bt HB.out)
    clear x0
    by_cases hlt : k < tn
    · have hltz : (k : Int) < (tn : Int) := by omega
      obtain ⟨i, hi⟩ : ∃ i, tl[k]? = some i := ⟨_, List.getElem?_eq_getElem (by have := HTN.out; omega)⟩
      rcases HX1.out with h0 | ⟨b, o, rfl, hbl, hcl⟩
      · omega
      have p0 := (HBW.out.cell (p := ⟨b, o + k, none⟩) hbl).trans (hcl k i hi)
      obtain ⟨i0, i1⟩ := HO6.out i (List.mem_of_getElem? hi)
      clear hcl hi
      go_wp2
      go_roundw
      case rel => exact ⟨k + 1, by go_num, by omega, HB⟩
      case measure => simp [intOf]; omega
    · have hltz : ¬ (k : Int) < (tn : Int) := by omega
      clear hlt hk
      go_wp2
      go_loopw [6] (fun vk wr => ∃ k : Nat, vk = .int .i64 (k + 1) ∧ k ≤ tn ∧ Hid (Below (w.alloc (.cells #[.int .i64 into, .int .i64 id, .int .i64 ver, .int .i64 kind, .string lang, .slice fa fn fc, .slice ta tn tc] 36)).heap.size (w.alloc (.cells #[.int .i64 into, .int .i64 id, .int .i64 ver, .int .i64 kind, .string lang, .slice fa fn fc, .slice ta tn tc] 36)) wr)) (fun vk _ => tn + 1 - (intOf vk).toNat)
      case atStart => exact ⟨0, by simp, by omega, HB⟩
      case round =>
        obtain ⟨k2, rfl, hk, HB2⟩ := hrel
        have x0 := HCE.out _ HB2.out
        clear q5 q6
        have q5 := Lib.cell_of_heap x0 5
        have q6 := Lib.cell_of_heap x0 6
        have HBW2 := Lib.hid (HB0.out.bt HB2.out)
        clear x0
        by_cases hlt : k2 + 1 < tn
        · have hltz2 : (k2 : Int) + 1 < (tn : Int) := by omega
          obtain ⟨i, hi⟩ : ∃ i, tl[k2]? = some i := ⟨_, List.getElem?_eq_getElem (by have := HTN.out; omega)⟩
          obtain ⟨j, hj⟩ : ∃ i, tl[k2 + 1]? = some i := ⟨_, List.getElem?_eq_getElem (by have := HTN.out; omega)⟩
          rcases HX1.out with h0 | ⟨b, o, rfl, hbl, hcl⟩
          · omega
          have p0 := (HBW2.out.cell (p := ⟨b, o + k2, none⟩) hbl).trans (hcl k2 i hi)
          have p1 := (HBW2.out.cell (p := ⟨b, o + (k2 + 1), none⟩) hbl).trans (hcl (k2 + 1) j hj)
          have hij := HO7.out k2 i j hi hj
          have hwp : IntKind.i64.wrap ((k2 : Int) + 1 - 1) = k2 := by rw [IntKind.wrap_i64]; omega
          have HBD := Lib.hid HB2.out.drew
          clear hcl hi hj
          go_wp2_with fail
          go_region
          all_goals go_wp2
          all_goals go_roundw
          all_goals first
            | exact ⟨k2 + 1, by go_num, by omega, HBD⟩
            | (simp [intOf]; omega)
        · have hltz2 : ¬ (k2 : Int) + 1 < (tn : Int) := by omega
          go_wp2
          go_ret
          exact ⟨rfl, HBW2.out⟩
end Go.Proofs.YtcdlgmncalmihaaDoor
