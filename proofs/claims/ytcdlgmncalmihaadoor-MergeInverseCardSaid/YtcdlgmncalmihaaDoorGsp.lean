/- The walks of Split and Whole, where each taken field is found (layer 16). -/
import Derived.Test.YtcdlgmncalmihaaDoorGpt
namespace Go.Proofs.YtcdlgmncalmihaaDoor
open Go Go.RowKit

theorem Parts.mem {ts fs out : List Fld} (h : Parts ts fs out) : ∀ f ∈ out, f ∈ fs := by
  induction h with
  | nil => exact fun f hf => hf
  | cons _ _ _ ih =>
    intro f hf
    rcases List.mem_append.1 (ih f hf) with h | h
    · exact List.mem_append_left _ h
    · exact List.mem_append_right _ (List.mem_cons_of_mem _ h)
/-- What part's walk asks of a record and a parting. -/
structure PartIn (w : World) (x : Rcd) (p : Part) (tv : Value) (tf out : List Fld) : Prop where
  hx : RcdAt w x
  hf : RcdAt w p.frm
  ht : IntsAt w tv p.taken
  hs : p.frm.r.small
  hsx : ∀ f ∈ x.r.fields, f.subs.length ≤ 1000000
  hok : PartOk p
  hid : x.r.id = p.into
  htl : tf.length = p.taken.length
  htf : ∀ (k : Nat) (i : Int) (f : Fld), p.taken[k]? = some i → tf[k]? = some f → p.frm.r.fields[i.toNat]? = some f
  hparts : Parts tf.reverse x.r.fields out
  hl : p.taken.length ≤ 1000
  hfl : p.frm.r.fields.length ≤ 1000
  hxl : x.r.fields.length ≤ 1000
theorem PartIn.below {w W : World} {x : Rcd} {p : Part} {tv : Value} {tf out : List Fld} (h : PartIn w x p tv tf out) (b : Below w.heap.size w W) : PartIn W x p tv tf out :=
  ⟨h.hx.below b (Nat.le_refl _), h.hf.below b (Nat.le_refl _), Rows.below h.ht b (Nat.le_refl _), h.hs, h.hsx, h.hok, h.hid, h.htl, h.htf, h.hparts, h.hl, h.hfl, h.hxl⟩
def outR (x : Rcd) (out : List Fld) : Rec := ⟨x.r.id, x.r.ver, x.r.kind, x.r.lang, out⟩
theorem pPart' {x : Rcd} {p : Part} {tv : Value} {tf out : List Fld} {w : World} (hE : Env w) (h : PartIn w x p tv tf out) :
    Calls Tryd.prog 38 #[recV5 x, partV p tv] w fun e w' => ∃ a c, e = .returned (.tuple #[recV5 ⟨outR x out, a, c⟩, .bool true, .int .i64 0]) ∧ w'.ownsRow w.heap.size 46 4 (.slice a out.length c) out.length (flatE fldE out) ∧ (∀ f ∈ out, FldAt w f ∧ f.subs.length ≤ 1000000) ∧ Below w.heap.size w w' :=
  pPart x p tv tf out w hE h.hx h.hf h.ht h.hs h.hsx h.hok h.hid h.htl h.htf h.hparts h.hl h.hfl h.hxl

set_option maxRecDepth 100000 in
set_option maxHeartbeats 4000000 in
theorem pWhole {x : Rcd} {p : Part} {tv : Value} {tf out : List Fld} {w : World} (hE : Env w) (h : PartIn w x p tv tf out) :
    Calls Tryd.prog 21 #[recV5 x, partV p tv] w fun e w' => e = .returned (.bool true) ∧ Below w.heap.size w w' := by
  have HPT : Hid (∀ W, Below w.heap.size w W → Calls Tryd.prog 38 #[recV5 x, partV p tv] W fun e w' => ∃ a c, e = .returned (.tuple #[recV5 ⟨outR x out, a, c⟩, .bool true, .int .i64 0]) ∧ w'.ownsRow W.heap.size 46 4 (.slice a out.length c) out.length (flatE fldE out) ∧ (∀ f ∈ out, FldAt W f ∧ f.subs.length ≤ 1000000) ∧ Below W.heap.size W w') := Lib.hid (fun W b => pPart' (hE.below b) (h.below b))
  obtain ⟨ta, tc, rfl, -⟩ := Rows.shape h.ht
  clear h
  unfold partV recV5 outR at *
  obtain ⟨into, ⟨⟨id, ver, kind, lang, fl⟩, fa, fc⟩, tl⟩ := p
  obtain ⟨⟨rid, rver, rkind, rlang, rf⟩, ra, rc⟩ := x
  simp only at HPT ⊢
  obtain ⟨fn, hfn⟩ : ∃ n, n = fl.length := ⟨_, rfl⟩
  obtain ⟨tn, htn⟩ : ∃ n, n = tl.length := ⟨_, rfl⟩
  obtain ⟨rn, hrn⟩ : ∃ n, n = rf.length := ⟨_, rfl⟩
  obtain ⟨on, hon⟩ : ∃ n, n = out.length := ⟨_, rfl⟩
  rw [← hfn, ← htn, ← hrn, ← hon] at HPT
  rw [← hfn, ← htn, ← hrn]
  clear hfn htn hrn hon
  have HB0 : Hid (Below w.heap.size w ((w.alloc (.cells #[.int .i64 rid, .int .i64 rver, .int .i64 rkind, .string rlang, .slice ra rn rc] 31)).alloc (.cells #[.int .i64 into, .int .i64 id, .int .i64 ver, .int .i64 kind, .string lang, .slice fa fn fc, .slice ta tn tc] 36))) := Lib.hid (((Below.refl _ _).alloc (Nat.le_refl _) _).alloc (by simp) _)
  go_enter Tryd.func21, Tryd.ntmps21
  go_wp2_with fail
  refine (HPT.out _ HB0.out).mono ?_
  rintro e w1 ⟨a, c, rfl, -, -, b1⟩
  have HB1 := Lib.hid (HB0.out.bt b1)
  clear b1
  go_wp2
  go_ret
  exact ⟨rfl, HB1.out.alloc (by have := HB1.out.size; omega) _⟩

theorem results_rr {fn : Func} {t u v : Tmp} (h : fn.results = #[.cell t 31, .cell u 31, .tmp v]) (tmps : Array Value) (w : World) (g g' : Nat) (a b c : Int) (d : ByteArray) (e : Value) (a' b' c' : Int) (d' : ByteArray) (e' : Value) {T T' : TypeId} (ht : tmps.getD t undef = .pointer (some ⟨g, 0, none⟩)) (hu : tmps.getD u undef = .pointer (some ⟨g', 0, none⟩))
    (hg : w.heap[g]? = some (.cells #[.int .i64 a, .int .i64 b, .int .i64 c, .string d, e] T (0, 0))) (hg' : w.heap[g']? = some (.cells #[.int .i64 a', .int .i64 b', .int .i64 c', .string d', e'] T' (0, 0))) :
    (results fn tmps).run Tryd.prog w = .ok (.tuple #[.agg #[.int .i64 a, .int .i64 b, .int .i64 c, .string d, e], .agg #[.int .i64 a', .int .i64 b', .int .i64 c', .string d', e'], tmps.getD v undef]) w := by
  have q0 := Lib.cell_of_heap hg 0
  have q1 := Lib.cell_of_heap hg 1
  have q2 := Lib.cell_of_heap hg 2
  have q3 := Lib.cell_of_heap hg 3
  have q4 := Lib.cell_of_heap hg 4
  have r0 := Lib.cell_of_heap hg' 0
  have r1 := Lib.cell_of_heap hg' 1
  have r2 := Lib.cell_of_heap hg' 2
  have r3 := Lib.cell_of_heap hg' 3
  have r4 := Lib.cell_of_heap hg' 4
  clear hg hg'
  unfold results
  rw [h]
  simp only [List.mapM_toArray, List.mapM_cons, List.mapM_nil]
  rw [ht, hu]
  go_simp

set_option maxRecDepth 100000 in
set_option maxHeartbeats 4000000 in
theorem pSplit {x : Rcd} {p : Part} {tv : Value} {tf out : List Fld} {w : World} (hE : Env w) (h : PartIn w x p tv tf out) :
    Calls Tryd.prog 20 #[recV5 x, partV p tv] w fun e w' => ∃ a c, e = .returned (.tuple #[recV5 ⟨outR x out, a, c⟩, recV5 p.frm, .int .i64 0]) ∧ RcdAt w' ⟨outR x out, a, c⟩ ∧ Below w.heap.size w w' := by
  have HPT : Hid (∀ W, Below w.heap.size w W → Calls Tryd.prog 38 #[recV5 x, partV p tv] W fun e w' => ∃ a c, e = .returned (.tuple #[recV5 ⟨outR x out, a, c⟩, .bool true, .int .i64 0]) ∧ w'.ownsRow W.heap.size 46 4 (.slice a out.length c) out.length (flatE fldE out) ∧ (∀ f ∈ out, FldAt W f ∧ f.subs.length ≤ 1000000) ∧ Below W.heap.size W w') := Lib.hid (fun W b => pPart' (hE.below b) (h.below b))
  have HAT : Hid (∀ f ∈ out, FldAt w f) := Lib.hid (fun f hf => h.hx.2 f (h.hparts.mem f hf))
  obtain ⟨ta, tc, rfl, -⟩ := Rows.shape h.ht
  clear h
  unfold partV recV5 outR at *
  obtain ⟨into, ⟨⟨id, ver, kind, lang, fl⟩, fa, fc⟩, tl⟩ := p
  obtain ⟨⟨rid, rver, rkind, rlang, rf⟩, ra, rc⟩ := x
  simp only at HPT ⊢
  obtain ⟨fn, hfn⟩ : ∃ n, n = fl.length := ⟨_, rfl⟩
  obtain ⟨tn, htn⟩ : ∃ n, n = tl.length := ⟨_, rfl⟩
  obtain ⟨rn, hrn⟩ : ∃ n, n = rf.length := ⟨_, rfl⟩
  obtain ⟨on, hon⟩ : ∃ n, n = out.length := ⟨_, rfl⟩
  rw [← hfn, ← htn, ← hrn, ← hon] at HPT
  rw [← hfn, ← htn, ← hrn, ← hon]
  have HON := Lib.hid hon
  clear hfn htn hrn hon
  obtain ⟨W0, hW0⟩ : ∃ W0, W0 = ((((w.alloc (.cells #[.int .i64 rid, .int .i64 rver, .int .i64 rkind, .string rlang, .slice ra rn rc] 31)).alloc (.cells #[.int .i64 into, .int .i64 id, .int .i64 ver, .int .i64 kind, .string lang, .slice fa fn fc, .slice ta tn tc] 36)).alloc (.cells #[.int .i64 0, .int .i64 0, .int .i64 0, .string ⟨#[]⟩, .slice none 0 0] 31)).alloc (.cells #[.int .i64 0, .int .i64 0, .int .i64 0, .string ⟨#[]⟩, .slice none 0 0] 31)) := ⟨_, rfl⟩
  have HSZ : Hid (W0.heap.size = w.heap.size + 4) := Lib.hid (by rw [hW0]; simp)
  have HB0 : Hid (Below w.heap.size w W0) := Lib.hid (by rw [hW0]; exact (((((Below.refl _ _).alloc (Nat.le_refl _) _).alloc (by simp) _).alloc (by simp; omega) _).alloc (by simp; omega) _))
  have HCE : Hid (∀ W, Below W0.heap.size W0 W → W.heap[w.heap.size + 1]? = some (.cells #[.int .i64 into, .int .i64 id, .int .i64 ver, .int .i64 kind, .string lang, .slice fa fn fc, .slice ta tn tc] 36 (0, 0)) ∧ W.heap[w.heap.size + 1 + 1]? = some (.cells #[.int .i64 0, .int .i64 0, .int .i64 0, .string ⟨#[]⟩, .slice none 0 0] 31 (0, 0)) ∧ W.heap[w.heap.size + 1 + 1 + 1]? = some (.cells #[.int .i64 0, .int .i64 0, .int .i64 0, .string ⟨#[]⟩, .slice none 0 0] 31 (0, 0))) := Lib.hid (fun W h => by
    refine ⟨(h.block _ (by rw [HSZ.out]; omega)).trans ?_, (h.block _ (by rw [HSZ.out]; omega)).trans ?_, (h.block _ (by rw [HSZ.out]; omega)).trans ?_⟩
    · rw [hW0]
      exact (alloc_old (by simp only [World.size_alloc]; omega)).trans ((alloc_old (by simp only [World.size_alloc]; omega)).trans (alloc_at (by simp only [World.size_alloc])))
    · rw [hW0]
      exact (alloc_old (by simp)).trans (alloc_at (by simp))
    · rw [hW0]
      exact alloc_at (by simp))
  have HW0 := Lib.hid hW0
  clear hW0
  go_enter Tryd.func20, Tryd.ntmps20
  go_wp2_with fail
  rw [← HW0.out]
  refine (HPT.out _ HB0.out).mono ?_
  rintro e w1 ⟨a, c, rfl, hr, -, b1⟩
  have HB1 := Lib.hid (HB0.out.bt b1)
  obtain ⟨k1, k2, k3⟩ := HCE.out w1 b1
  have hs1 : w.heap.size + 4 ≤ w1.heap.size := by have := b1.size; have := HSZ.out; omega
  have HG : Hid ((w1.alloc (.cells #[.int .i64 rid, .int .i64 rver, .int .i64 rkind, .string rlang, .slice a on c] 31)).heap[w1.heap.size]? = some (.cells #[.int .i64 rid, .int .i64 rver, .int .i64 rkind, .string rlang, .slice a on c] 31 (0, 0))) := Lib.hid (heap_alloc_new w1 _)
  have HK1 : Hid ((w1.alloc (.cells #[.int .i64 rid, .int .i64 rver, .int .i64 rkind, .string rlang, .slice a on c] 31)).heap[w.heap.size + 1]? = _) := Lib.hid ((alloc_old (by omega)).trans k1)
  have HK2 : Hid ((w1.alloc (.cells #[.int .i64 rid, .int .i64 rver, .int .i64 rkind, .string rlang, .slice a on c] 31)).heap[w.heap.size + 1 + 1]? = _) := Lib.hid ((alloc_old (by omega)).trans k2)
  have HK3 : Hid ((w1.alloc (.cells #[.int .i64 rid, .int .i64 rver, .int .i64 rkind, .string rlang, .slice a on c] 31)).heap[w.heap.size + 1 + 1 + 1]? = _) := Lib.hid ((alloc_old (by omega)).trans k3)
  have HBA : Hid (Below w.heap.size w (w1.alloc (.cells #[.int .i64 rid, .int .i64 rver, .int .i64 rkind, .string rlang, .slice a on c] 31))) := Lib.hid (HB1.out.alloc (by omega) _)
  have HRA : Hid ((w1.alloc (.cells #[.int .i64 rid, .int .i64 rver, .int .i64 rkind, .string rlang, .slice a on c] 31)).ownsRow W0.heap.size 46 4 (.slice a on c) on (flatE fldE out)) := Lib.hid (own_below' hr ((Below.refl _ _).alloc (Nat.le_refl _) _))
  clear k1 k2 k3 hr b1 HCE HPT
  go_wp2_with fail
  refine tailS (fun W => W.ownsRow W0.heap.size 46 4 (.slice a on c) on (flatE fldE out) ∧ Below w.heap.size w W) (w.heap.size + 1 + 1 + 1) (w.heap.size + 1 + 1) w1.heap.size (w.heap.size + 1) rid rver rkind rlang a on c into id ver kind lang fa fn fc ta tn tc rfl rfl rfl rfl rfl HG.out HK1.out ⟨_, HK2.out, rfl⟩ ⟨_, HK3.out, rfl⟩ (by omega) (by omega) (by omega) (by omega) (by omega) ⟨own_below' HRA.out (Below.refl _ _).drew, HBA.out.drew⟩ (fun W vs cs hc h => ⟨own_putL h.1 (own_lt h.1 (by have := HSZ.out; omega)) 0 vs, putL_below vs W _ 0 h.2 (by omega)⟩) (fun W vs cs hc h => ⟨own_putL h.1 (own_lt h.1 (by have := HSZ.out; omega)) 0 vs, putL_below vs W _ 0 h.2 (by omega)⟩) (by kernel_rfl) (by kernel_rfl) (by kernel_rfl) (by kernel_rfl) ?_
  intro tm W hp4 hp5 hp6 hbx hbp hinv
  go_wp2
  (try simp only [Exit.inBlock, Exit.then])
  refine bodyPost_ret (results_rr rfl tm W _ _ rid rver rkind rlang (.slice a on c) id ver kind lang (.slice fa fn fc) hp4 hp5 hbx hbp) rfl ?_
  rw [hp6]
  refine ⟨a, c, rfl, ?_, hinv.2⟩
  unfold RcdAt
  simp only
  rw [← HON.out]
  exact ⟨Rows.of_own fldE_len hinv.1 HON.out, fun f hf => (HAT.out f hf).below hinv.2 (Nat.le_refl _)⟩
end Go.Proofs.YtcdlgmncalmihaaDoor
