/- The walks of Get, the program's and the reference's (layer 28). -/
import Derived.Test.YtlpeppigebbfkaaDoorNpc
namespace Go.Proofs.YtlpeppigebbfkaaDoor
open Go Go.RowKit

def Pat.agg (p : Pat) : Value := .agg #[.int .i64 p.id, .int .i64 p.kind, .int .i64 p.branch, .int .i64 p.till, .bool p.stop, .string p.name]
def noPat : Pat := ⟨0, 0, 0, 0, false, ⟨#[]⟩⟩
/-- The first patron with an ID, or none. -/
def getPat (l : List Pat) (x : Int) : Pat × Bool := match l.find? (fun p => p.id == x) with | some p => (p, true) | none => (noPat, false)

/-- Six stores. -/
def put6 (w : World) (b o : Nat) (p : Pat) : World :=
  (((((w.setCell ⟨b, o, none⟩ (.int .i64 p.id)).setCell ⟨b, o + 1, none⟩ (.int .i64 p.kind)).setCell ⟨b, o + 2, none⟩ (.int .i64 p.branch)).setCell ⟨b, o + 3, none⟩ (.int .i64 p.till)).setCell ⟨b, o + 4, none⟩ (.bool p.stop)).setCell ⟨b, o + 5, none⟩ (.string p.name)
theorem cell_away {w : World} {b b' i j : Nat} {v : Value} (h : b ≠ b' ∨ i ≠ j) : (w.setCell ⟨b, i, none⟩ v).cell? ⟨b', j, none⟩ = w.cell? ⟨b', j, none⟩ :=
  World.cell?_setCell_other _ _ _ _ (by intro e; cases e; rcases h with h | h <;> exact h rfl)
theorem cell_here {w : World} {b i : Nat} {v : Value} (h : (w.cell? ⟨b, i, none⟩).isSome = true) : (w.setCell ⟨b, i, none⟩ v).cell? ⟨b, i, none⟩ = some v := by
  cases hc : w.cell? ⟨b, i, none⟩ with
  | none => rw [hc] at h; cases h
  | some u => exact World.cell?_setCell_same _ _ _ hc
theorem put6_away {w : World} {b o b' j : Nat} {p : Pat} (h : b ≠ b' ∨ j < o ∨ o + 6 ≤ j) : (put6 w b o p).cell? ⟨b', j, none⟩ = w.cell? ⟨b', j, none⟩ := by
  unfold put6
  rw [cell_away (by omega), cell_away (by omega), cell_away (by omega), cell_away (by omega), cell_away (by omega), cell_away (by omega)]
theorem six_put {w : World} {b o : Nat} {p : Pat} (h : ∀ j, j < 6 → (w.cell? ⟨b, o + j, none⟩).isSome = true) : Six (put6 w b o p) b o p := by
  unfold put6
  refine ⟨?_, ?_, ?_, ?_, ?_, ?_⟩
  · rw [cell_away (by omega), cell_away (by omega), cell_away (by omega), cell_away (by omega), cell_away (by omega)]
    exact cell_here (h 0 (by omega))
  · rw [cell_away (by omega), cell_away (by omega), cell_away (by omega), cell_away (by omega)]
    exact cell_here (by rw [cell_away (by omega)]; exact h 1 (by omega))
  · rw [cell_away (by omega), cell_away (by omega), cell_away (by omega)]
    exact cell_here (by rw [cell_away (by omega), cell_away (by omega)]; exact h 2 (by omega))
  · rw [cell_away (by omega), cell_away (by omega)]
    exact cell_here (by rw [cell_away (by omega), cell_away (by omega), cell_away (by omega)]; exact h 3 (by omega))
  · rw [cell_away (by omega)]
    exact cell_here (by rw [cell_away (by omega), cell_away (by omega), cell_away (by omega), cell_away (by omega)]; exact h 4 (by omega))
  · exact cell_here (by rw [cell_away (by omega), cell_away (by omega), cell_away (by omega), cell_away (by omega), cell_away (by omega)]; exact h 5 (by omega))
theorem below_put6 {B : Nat} {a w : World} {b o : Nat} {p : Pat} (h : Below B a w) (hb : B ≤ b) : Below B a (put6 w b o p) := by
  unfold put6
  exact (((((h.setCell (p := ⟨b, _, none⟩) hb _).setCell (p := ⟨b, _, none⟩) hb _).setCell (p := ⟨b, _, none⟩) hb _).setCell (p := ⟨b, _, none⟩) hb _).setCell (p := ⟨b, _, none⟩) hb _).setCell (p := ⟨b, _, none⟩) hb _
theorem results_pat {fn : Func} {t u : Tmp} (h : fn.results = #[.cell t 28, .tmp u]) (tmps : Array Value) (w : World) (blk : Nat) (p : Pat) (ht : tmps.getD t undef = .pointer (some ⟨blk, 0, none⟩)) (h6 : Six w blk 0 p) :
    (results fn tmps).run Tryd.prog w = .ok (.tuple #[p.agg, tmps.getD u undef]) w := by
  obtain ⟨id, kind, branch, till, stop, name⟩ := p
  obtain ⟨q0, q1, q2, q3, q4, q5⟩ := h6
  simp only [Nat.zero_add] at q0 q1 q2 q3 q4 q5
  unfold results
  rw [h]
  unfold Pat.agg
  simp only [List.mapM_toArray, List.mapM_cons, List.mapM_nil]
  rw [ht]
  go_simp
set_option maxRecDepth 100000 in
set_option maxHeartbeats 1000000 in
theorem rGet (v : Value) (l : List Pat) (x : Int) (w : World) (hv : Pats w v l) (hl : l.length ≤ 1000000) :
    Calls Tryd.prog 25 #[v, .int .i64 x] w fun e w' => e = .returned (.tuple #[(getPat l x).1.agg, .bool (getPat l x).2]) ∧ Below w.heap.size w w' := by
  have hb : Below w.heap.size w (w.alloc (.cells #[.int .i64 0, .int .i64 0, .int .i64 0, .int .i64 0, .bool false, .string ⟨#[]⟩] 28)) := (Below.refl _ _).alloc (Nat.le_refl _) _
  have ha := rAt v l x _ (hv.below hb (Nat.le_refl _)) hl
  obtain ⟨pa, pc, rfl, hpc, hcells⟩ := hv
  rcases at64_range l x with ⟨h1, h2⟩ | ⟨i, p, h1, hp, h2, h3⟩
  · rw [h1] at ha
    have HA := Lib.hid ha
    have HB := Lib.hid hb
    clear ha hb hcells
    go_enter Tryd.func25, Tryd.ntmps25
    go_wp2_with fail
    refine HA.out.mono ?_
    rintro e w1 ⟨rfl, rfl⟩
    go_wp2
    have hg : getPat l x = (noPat, false) := by
      unfold getPat
      rw [List.find?_eq_none.2 (fun p hp => by simpa using h2 p hp)]
    rw [hg]
    refine bodyPost_ret (results_pat rfl _ _ w.heap.size noPat rfl ⟨?_, ?_, ?_, ?_, ?_, ?_⟩) rfl ⟨rfl, HB.out⟩
    all_goals
      rw [Lib.cell_of_heap (heap_alloc_new w _)]
      rfl
  · rw [h1] at ha
    have hil : i < l.length := (List.getElem?_eq_some_iff.1 hp).1
    rcases hcells with h0 | ⟨b, o, rfl, hbl, hcl⟩
    · rw [h0] at hp; cases hp
    have h6 := (six_of (hcl i p hp)).below hb hbl
    have hg : getPat l x = (p, true) := by
      unfold getPat
      have : l.find? (fun p => p.id == x) = some p := by
        rw [List.find?_eq_some_iff_getElem]
        obtain ⟨hi, hpi⟩ := List.getElem?_eq_some_iff.1 hp
        refine ⟨by simpa using h2, i, hi, hpi, fun j hj => ?_⟩
        have := h3 j l[j] hj (List.getElem?_eq_getElem (by omega))
        simpa using this
      rw [this]
    rw [hg]
    have HA := Lib.hid ha
    have HB := Lib.hid hb
    have hz1 : (i : Int) < (l.length : Int) := by omega
    clear ha hb hcl hp h1 h2 h3 hg
    obtain ⟨id, kind, branch, till, stop, name⟩ := p
    obtain ⟨q0, q1, q2, q3, q4, q5⟩ := h6
    simp only at q0 q1 q2 q3 q4 q5
    go_enter Tryd.func25, Tryd.ntmps25
    go_wp2_with fail
    refine HA.out.mono ?_
    rintro e w1 ⟨rfl, rfl⟩
    go_wp2
    (try simp only [Exit.inBlock, Exit.then])
    refine bodyPost_ret (results_pat rfl _ _ w.heap.size ⟨id, kind, branch, till, stop, name⟩ rfl ⟨?_, ?_, ?_, ?_, ?_, ?_⟩) rfl ⟨rfl, (Below.refl _ _).alloc (Nat.le_refl _) _⟩
    all_goals
      rw [Lib.cell_of_heap (heap_alloc_new w _)]
      rfl

set_option maxRecDepth 100000 in
set_option maxHeartbeats 1000000 in
theorem pGet (v : Value) (l : List Pat) (x : Int) (w : World) (hv : Pats w v l) (hl : l.length ≤ 1000000) :
    Calls Tryd.prog 24 #[v, .int .i64 x] w fun e w' => e = .returned (.tuple #[(getPat l x).1.agg, .bool (getPat l x).2]) ∧ Below w.heap.size w w' := by
  have hb : Below w.heap.size w (w.alloc (.cells #[.int .i64 0, .int .i64 0, .int .i64 0, .int .i64 0, .bool false, .string ⟨#[]⟩] 28)) := (Below.refl _ _).alloc (Nat.le_refl _) _
  have ha := pPlace v l x _ (hv.below hb (Nat.le_refl _)) hl
  obtain ⟨pa, pc, rfl, hpc, hcells⟩ := hv
  obtain ⟨W0, hW0⟩ : ∃ W0, W0 = w.alloc (.cells #[.int .i64 0, .int .i64 0, .int .i64 0, .int .i64 0, .bool false, .string ⟨#[]⟩] 28) := ⟨_, rfl⟩
  have hs0 : w.heap.size < W0.heap.size := by rw [hW0, World.size_alloc]; exact Nat.lt_succ_self _
  have hh : ∀ w1, Below W0.heap.size W0 w1 → w1.heap[w.heap.size]? = some (.cells #[.int .i64 0, .int .i64 0, .int .i64 0, .int .i64 0, .bool false, .string ⟨#[]⟩] 28 (0, 0)) := fun w1 h => by
    rw [h.block _ hs0, hW0]
    exact heap_alloc_new w _
  have HH := Lib.hid hh
  clear hh
  rcases at64_range l x with ⟨h1, h2⟩ | ⟨i, p, h1, hp, h2, h3⟩
  · rw [h1, ← hW0] at ha
    have hg : getPat l x = (noPat, false) := by
      unfold getPat
      rw [List.find?_eq_none.2 (fun p hp => by simpa using h2 p hp)]
    rw [hg]
    clear h2 hg
    have HA := Lib.hid ha
    have HB : Hid (Below w.heap.size w W0) := Lib.hid (by rw [hW0]; exact hb)
    have HW := Lib.hid hW0
    clear ha hb hcells hW0
    go_enter Tryd.func24, Tryd.ntmps24
    go_wp2_with fail
    rw [← HW.out]
    refine HA.out.mono ?_
    rintro e w1 ⟨rfl, b1⟩
    have hb1 := HH.out w1 b1
    have hf : ∀ j, w1.frozen? ⟨w.heap.size, j, none⟩ = false := fun j => by simp [World.frozen?, hb1]
    have f0 := hf 0
    have f1 := hf 1
    have f2 := hf 2
    have f3 := hf 3
    have f4 := hf 4
    have f5 := hf 5
    have c0 := Lib.cell_of_heap hb1 0
    have c1 := Lib.cell_of_heap hb1 1
    have c2 := Lib.cell_of_heap hb1 2
    have c3 := Lib.cell_of_heap hb1 3
    have c4 := Lib.cell_of_heap hb1 4
    have c5 := Lib.cell_of_heap hb1 5
    have HB1 : Hid (Below w.heap.size w w1) := Lib.hid (HB.out.trans (b1.mono HB.out.size))
    have HH1 := Lib.hid hb1
    clear hf b1 hb1
    go_wp2
    have hall : ∀ j, j < 6 → (w1.cell? ⟨w.heap.size, 0 + j, none⟩).isSome = true := by
      intro j hj
      rw [Nat.zero_add, Lib.cell_of_heap HH1.out]
      have : j = 0 ∨ j = 1 ∨ j = 2 ∨ j = 3 ∨ j = 4 ∨ j = 5 := by omega
      rcases this with rfl | rfl | rfl | rfl | rfl | rfl <;> rfl
    (try simp only [Exit.inBlock, Exit.then])
    have S6 := six_put (p := noPat) hall
    have B6 : Below w.heap.size w (put6 w1 w.heap.size 0 noPat) := below_put6 HB1.out (Nat.le_refl _)
    change bodyPost _ _ _ _ _ (put6 w1 w.heap.size 0 noPat)
    generalize put6 w1 w.heap.size 0 noPat = w2 at S6 B6 ⊢
    exact bodyPost_ret (results_pat rfl _ w2 w.heap.size noPat rfl S6) rfl ⟨rfl, B6⟩
  · rw [h1, ← hW0] at ha
    have hil : i < l.length := (List.getElem?_eq_some_iff.1 hp).1
    rcases hcells with h0 | ⟨b, o, rfl, hbl, hcl⟩
    · rw [h0] at hp; cases hp
    have h6 := (six_of (hcl i p hp)).below hb hbl
    rw [← hW0] at h6
    have hg : getPat l x = (p, true) := by
      unfold getPat
      have : l.find? (fun p => p.id == x) = some p := by
        rw [List.find?_eq_some_iff_getElem]
        obtain ⟨hi, hpi⟩ := List.getElem?_eq_some_iff.1 hp
        refine ⟨by simpa using h2, i, hi, hpi, fun j hj => ?_⟩
        have := h3 j l[j] hj (List.getElem?_eq_getElem (by omega))
        simpa using this
      rw [this]
    rw [hg]
    have HA := Lib.hid ha
    have HB : Hid (Below w.heap.size w W0) := Lib.hid (by rw [hW0]; exact hb)
    have HW := Lib.hid hW0
    have H6 := Lib.hid h6
    have hz1 : (i : Int) < (l.length : Int) := by omega
    clear ha hb hcl hp h1 h2 h3 hg hW0 h6
    obtain ⟨id, kind, branch, till, stop, name⟩ := p
    go_enter Tryd.func24, Tryd.ntmps24
    go_wp2_with fail
    rw [← HW.out]
    refine HA.out.mono ?_
    rintro e w1 ⟨rfl, b1⟩
    obtain ⟨q0, q1, q2, q3, q4, q5⟩ := H6.out.below b1 (by omega)
    simp only at q0 q1 q2 q3 q4 q5
    have hb1 := HH.out w1 b1
    have hf : ∀ j, w1.frozen? ⟨w.heap.size, j, none⟩ = false := fun j => by simp [World.frozen?, hb1]
    have f0 := hf 0
    have f1 := hf 1
    have f2 := hf 2
    have f3 := hf 3
    have f4 := hf 4
    have f5 := hf 5
    have c0 := Lib.cell_of_heap hb1 0
    have c1 := Lib.cell_of_heap hb1 1
    have c2 := Lib.cell_of_heap hb1 2
    have c3 := Lib.cell_of_heap hb1 3
    have c4 := Lib.cell_of_heap hb1 4
    have c5 := Lib.cell_of_heap hb1 5
    have HB1 : Hid (Below w.heap.size w w1) := Lib.hid (HB.out.trans (b1.mono HB.out.size))
    have HH1 := Lib.hid hb1
    clear hf b1 hb1
    go_wp2
    have hall : ∀ j, j < 6 → (w1.cell? ⟨w.heap.size, 0 + j, none⟩).isSome = true := by
      intro j hj
      rw [Nat.zero_add, Lib.cell_of_heap HH1.out]
      have : j = 0 ∨ j = 1 ∨ j = 2 ∨ j = 3 ∨ j = 4 ∨ j = 5 := by omega
      rcases this with rfl | rfl | rfl | rfl | rfl | rfl <;> rfl
    (try simp only [Exit.inBlock, Exit.then])
    have S6 := six_put (p := ⟨id, kind, branch, till, stop, name⟩) hall
    have B6 : Below w.heap.size w (put6 w1 w.heap.size 0 ⟨id, kind, branch, till, stop, name⟩) := below_put6 HB1.out (Nat.le_refl _)
    change bodyPost _ _ _ _ _ (put6 w1 w.heap.size 0 ⟨id, kind, branch, till, stop, name⟩)
    generalize put6 w1 w.heap.size 0 ⟨id, kind, branch, till, stop, name⟩ = w2 at S6 B6 ⊢
    exact bodyPost_ret (results_pat rfl _ w2 w.heap.size ⟨id, kind, branch, till, stop, name⟩ rfl S6) rfl ⟨rfl, B6⟩
end Go.Proofs.YtlpeppigebbfkaaDoor
