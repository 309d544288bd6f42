/- The walk of part, where each taken field is found (layer 16). -/
import Derived.Test.YtcdlgmncalmihaaDoorGpc
namespace Go.Proofs.YtcdlgmncalmihaaDoor
open Go Go.RowKit

/-- Fields taken out one after the other, each the last that is equal to it: what is left. -/
inductive Parts : List Fld → List Fld → List Fld → Prop
  | nil (fs : List Fld) : Parts [] fs fs
  | cons {t x : Fld} {ts pre post out : List Fld} : sameF x t = true → (∀ y ∈ post, sameF y t = false) → Parts ts (pre ++ post) out → Parts (t :: ts) (pre ++ x :: post) out
theorem own_putL {w : World} {base n k : Nat} {T : TypeId} {v : Value} {xs : List Value} (h : w.ownsRow base T k v n xs) {g : Nat} (hne : some g ≠ v.ownBlock) (i : Nat) (us : List Value) : (putL w g i us).ownsRow base T k v n xs := by
  refine ⟨h.1, ?_⟩
  rcases h.2 with h0 | ⟨g', cap, cur, rfl, hb, hh, rest⟩
  · exact .inl h0
  · refine .inr ⟨g', cap, cur, rfl, hb, ?_, rest⟩
    rw [putL_other us w g i (by intro e; exact hne (by simp [Value.ownBlock, e]))]
    exact hh
theorem own_lt {w : World} {base n k : Nat} {T : TypeId} {v : Value} {xs : List Value} (h : w.ownsRow base T k v n xs) {g : Nat} (hg : g < base) : some g ≠ v.ownBlock := by
  intro e
  have := (h.lt g e.symm).1
  omega
theorem results_ctt {fn : Func} {t u v : Tmp} (h : fn.results = #[.cell t 31, .tmp u, .tmp v]) (tmps : Array Value) (w : World) (g : Nat) (a b c : Int) (d : ByteArray) (e : Value) {T : TypeId} (ht : tmps.getD t undef = .pointer (some ⟨g, 0, none⟩))
    (hg : w.heap[g]? = some (.cells #[.int .i64 a, .int .i64 b, .int .i64 c, .string d, e] T (0, 0))) :
    (results fn tmps).run Tryd.prog w = .ok (.tuple #[.agg #[.int .i64 a, .int .i64 b, .int .i64 c, .string d, e], tmps.getD u undef, tmps.getD v undef]) w := by
  have q0 := Lib.cell_of_heap hg 0
  have q1 := Lib.cell_of_heap hg 1
  have q2 := Lib.cell_of_heap hg 2
  have q3 := Lib.cell_of_heap hg 3
  have q4 := Lib.cell_of_heap hg 4
  clear hg
  unfold results
  rw [h]
  simp only [List.mapM_toArray, List.mapM_cons, List.mapM_nil]
  rw [ht]
  go_simp
theorem own_below' {w w' : World} {base n k : Nat} {T : TypeId} {v : Value} {xs : List Value} (h : w.ownsRow base T k v n xs) (b : Below w.heap.size w w') : w'.ownsRow base T k v n xs := by
  refine ⟨h.1, ?_⟩
  rcases h.2 with h0 | ⟨g, cap, cur, hv, hg, hh, rest⟩
  · exact .inl h0
  · exact .inr ⟨g, cap, cur, hv, hg, (b.block g (Array.getElem?_eq_some_iff.1 hh).1).trans hh, rest⟩
theorem own_weak {w : World} {base base' n k : Nat} {T : TypeId} {v : Value} {xs : List Value} (h : w.ownsRow base T k v n xs) (hb : base' ≤ base) : w.ownsRow base' T k v n xs := by
  refine ⟨h.1, ?_⟩
  rcases h.2 with h0 | ⟨g, cap, cur, hv, hg, rest⟩
  · exact .inl h0
  · exact .inr ⟨g, cap, cur, hv, Nat.le_trans hb hg, rest⟩
theorem take_rev {α : Type} {l : List α} {m : Nat} {t : α} (h : l[m]? = some t) : (l.take (m + 1)).reverse = t :: (l.take m).reverse := by
  rw [List.take_add_one, h]
  simp

set_option maxRecDepth 100000 in
set_option maxHeartbeats 8000000 in
theorem pPart (x : Rcd) (p : Part) (tv : Value) (tf out : List Fld) (w : World) (hE : Env w) (hx : RcdAt w x) (hf : RcdAt w p.frm) (ht : IntsAt w tv p.taken) (hs : p.frm.r.small) (hsx : ∀ f ∈ x.r.fields, f.subs.length ≤ 1000000) (hok : PartOk p) (hid : x.r.id = p.into)
    (htl : tf.length = p.taken.length) (htf : ∀ (k : Nat) (i : Int) (f : Fld), p.taken[k]? = some i → tf[k]? = some f → p.frm.r.fields[i.toNat]? = some f) (hparts : Parts tf.reverse x.r.fields out) (hl : p.taken.length ≤ 1000) (hfl : p.frm.r.fields.length ≤ 1000) (hxl : x.r.fields.length ≤ 1000) :
    Calls Tryd.prog 38 #[recV5 x, partV p tv] w fun e w' => ∃ a c, e = .returned (.tuple #[recV5 ⟨⟨x.r.id, x.r.ver, x.r.kind, x.r.lang, out⟩, a, c⟩, .bool true, .int .i64 0]) ∧ w'.ownsRow w.heap.size 46 4 (.slice a out.length c) out.length (flatE fldE out) ∧ (∀ f ∈ out, FldAt w f ∧ f.subs.length ≤ 1000000) ∧ Below w.heap.size w w' := by
  have HRR : Hid (∀ W, Below w.heap.size w W → Calls Tryd.prog 24 #[partV p tv] W fun e w' => e = .returned (.int .i64 0) ∧ Below W.heap.size W w') := Lib.hid (fun W h => pPRight p tv W (hE.below h) (Flds.below hf h (Nat.le_refl _)) (Rows.below ht h (Nat.le_refl _)) hs hok (by omega) (by omega))
  have HCLN : Hid (∀ W, Below w.heap.size w W → Calls Tryd.prog 27 #[.slice x.sa x.r.fields.length x.sc] W fun e w' => ∃ v, e = .returned v ∧ OwnF w' W.heap.size v x.r.fields ∧ Below W.heap.size W w') := Lib.hid (fun W h => pClone _ x.r.fields W (Flds.below hx h (Nat.le_refl _)) (by omega))
  have HSM : Hid (∀ W, Below w.heap.size w W → ∀ y t : Fld, FldAt w y → y.subs.length ≤ 1000000 → t ∈ p.frm.r.fields → Calls Tryd.prog 19 #[fldV y, fldV t] W fun e w' => e = .returned (.bool (sameF y t)) ∧ Below W.heap.size W w') := Lib.hid (fun W h y t hy hl ht => pSame07 y t W (hy.below h (Nat.le_refl _)) ((hf.2 t ht).below h (Nat.le_refl _)) hl)
  have HFC := Lib.hid (rcd_cells hf)
  have HAX : Hid (∀ f ∈ x.r.fields, FldAt w f ∧ f.subs.length ≤ 1000000) := Lib.hid (fun f h => ⟨hx.2 f h, hsx f h⟩)
  obtain ⟨ta, tc, rfl, -⟩ := Rows.shape ht
  obtain ⟨-, hc1, hx1⟩ := int_cells ht
  have HRNG := Lib.hid hok.rng
  unfold partV recV5 at *
  obtain ⟨into, ⟨⟨id, ver, kind, lang, fl⟩, fa, fc⟩, tl⟩ := p
  obtain ⟨⟨rid, rver, rkind, rlang, rf⟩, ra, rc⟩ := x
  simp only at HRR HCLN HSM HFC HAX HRNG hc1 hx1 hl hfl hxl htl htf hparts hid ⊢
  have h9 := hid.symm
  subst h9
  obtain ⟨fn, hfn⟩ : ∃ n, n = fl.length := ⟨_, rfl⟩
  obtain ⟨tn, htn⟩ : ∃ n, n = tl.length := ⟨_, rfl⟩
  obtain ⟨rn, hrn⟩ : ∃ n, n = rf.length := ⟨_, rfl⟩
  rw [← hfn] at HRR HRNG hfl ⊢
  rw [← htn] at hc1 hx1 hl htl HRR ⊢
  rw [← hrn] at HCLN hxl ⊢
  have HTN := Lib.hid htn
  have HFN := Lib.hid hfn
  have HX1 := Lib.hid hx1
  have HTF := Lib.hid htf
  have HTL := Lib.hid htl
  have HPA : Hid (Parts (tf.take tn).reverse rf out) := Lib.hid (by rw [List.take_of_length_le (by omega)]; exact hparts)
  have HRN := Lib.hid hrn
  have HB0 : Hid (Below w.heap.size w (((w.alloc (.cells #[.int .i64 into, .int .i64 rver, .int .i64 rkind, .string rlang, .slice ra rn rc] 31)).alloc (.cells #[.int .i64 into, .int .i64 id, .int .i64 ver, .int .i64 kind, .string lang, .slice fa fn fc, .slice ta tn tc] 36)).alloc (.cells #[.int .i64 0, .int .i64 0, .int .i64 0, .string ⟨#[]⟩, .slice none 0 0] 31))) := Lib.hid ((((Below.refl _ _).alloc (Nat.le_refl _) _).alloc (by simp) _).alloc (by simp; omega) _)
  obtain ⟨B, hB⟩ : ∃ B, B = w.heap.size + 3 := ⟨_, rfl⟩
  have HBB : Hid (B = (((w.alloc (.cells #[.int .i64 into, .int .i64 rver, .int .i64 rkind, .string rlang, .slice ra rn rc] 31)).alloc (.cells #[.int .i64 into, .int .i64 id, .int .i64 ver, .int .i64 kind, .string lang, .slice fa fn fc, .slice ta tn tc] 36)).alloc (.cells #[.int .i64 0, .int .i64 0, .int .i64 0, .string ⟨#[]⟩, .slice none 0 0] 31)).heap.size ∧ w.heap.size + 3 = B) := Lib.hid ⟨by rw [hB]; simp, hB.symm⟩
  have HCE : Hid (∀ W, Below B (((w.alloc (.cells #[.int .i64 into, .int .i64 rver, .int .i64 rkind, .string rlang, .slice ra rn rc] 31)).alloc (.cells #[.int .i64 into, .int .i64 id, .int .i64 ver, .int .i64 kind, .string lang, .slice fa fn fc, .slice ta tn tc] 36)).alloc (.cells #[.int .i64 0, .int .i64 0, .int .i64 0, .string ⟨#[]⟩, .slice none 0 0] 31)) W → W.heap[w.heap.size]? = some (.cells #[.int .i64 into, .int .i64 rver, .int .i64 rkind, .string rlang, .slice ra rn rc] 31 (0, 0)) ∧ W.heap[w.heap.size + 1]? = some (.cells #[.int .i64 into, .int .i64 id, .int .i64 ver, .int .i64 kind, .string lang, .slice fa fn fc, .slice ta tn tc] 36 (0, 0)) ∧ W.heap[w.heap.size + 1 + 1]? = some (.cells #[.int .i64 0, .int .i64 0, .int .i64 0, .string ⟨#[]⟩, .slice none 0 0] 31 (0, 0))) := Lib.hid (fun W h => by
    subst hB
    exact ⟨(h.block _ (by omega)).trans ((alloc_old (by (try simp only [World.size_alloc]) <;> omega)).trans ((alloc_old (by (try simp only [World.size_alloc]) <;> omega)).trans (alloc_at rfl))), (h.block _ (by omega)).trans ((alloc_old (by (try simp only [World.size_alloc]) <;> omega)).trans (alloc_at (by (try simp only [World.size_alloc]) <;> omega))), (h.block _ (by omega)).trans (alloc_at (by (try simp only [World.size_alloc]) <;> omega))⟩)
  have hii : (into == into) = true := by simp
  have hin : (into != into) = false := by simp
  clear hE hf hx ht hs hsx hok hfn htn hrn hx1 hB htf htl hparts
  obtain ⟨x0, y0, -⟩ := HCE.out _ (Below.refl _ _)
  have q0 := Lib.cell_of_heap x0 0
  have q1 := Lib.cell_of_heap x0 1
  have q2 := Lib.cell_of_heap x0 2
  have q3 := Lib.cell_of_heap x0 3
  have q4 := Lib.cell_of_heap x0 4
  have r0 := Lib.cell_of_heap y0 0
  have r1 := Lib.cell_of_heap y0 1
  have r2 := Lib.cell_of_heap y0 2
  have r3 := Lib.cell_of_heap y0 3
  have r4 := Lib.cell_of_heap y0 4
  have r5 := Lib.cell_of_heap y0 5
  have r6 := Lib.cell_of_heap y0 6
  clear x0 y0
  go_enter Tryd.func38, Tryd.ntmps38
  go_wp2_with fail
  refine (HRR.out _ HB0.out).mono ?_
  rintro e w1 ⟨rfl, b1⟩
  have HM1 : Hid (Below B (((w.alloc (.cells #[.int .i64 into, .int .i64 rver, .int .i64 rkind, .string rlang, .slice ra rn rc] 31)).alloc (.cells #[.int .i64 into, .int .i64 id, .int .i64 ver, .int .i64 kind, .string lang, .slice fa fn fc, .slice ta tn tc] 36)).alloc (.cells #[.int .i64 0, .int .i64 0, .int .i64 0, .string ⟨#[]⟩, .slice none 0 0] 31)) w1) := Lib.hid (by rw [HBB.out.1]; exact b1)
  have HB1 := Lib.hid (HB0.out.bt b1)
  obtain ⟨x0, y0, -⟩ := HCE.out _ HM1.out
  clear b1 q0 q1 q2 q3 q4 r0 r1 r2 r3 r4 r5 r6
  have q0 := Lib.cell_of_heap x0 0
  have q1 := Lib.cell_of_heap x0 1
  have q2 := Lib.cell_of_heap x0 2
  have q3 := Lib.cell_of_heap x0 3
  have q4 := Lib.cell_of_heap x0 4
  have r0 := Lib.cell_of_heap y0 0
  have r1 := Lib.cell_of_heap y0 1
  have r2 := Lib.cell_of_heap y0 2
  have r3 := Lib.cell_of_heap y0 3
  have r4 := Lib.cell_of_heap y0 4
  have r5 := Lib.cell_of_heap y0 5
  have r6 := Lib.cell_of_heap y0 6
  clear x0 y0
  go_wp2_with fail
  refine (HCLN.out _ HB1.out).mono ?_
  rintro e w3 ⟨v3, rfl, ho3, b3⟩
  obtain ⟨a3, n3, c3, rfl⟩ : ∃ a n c, v3 = .slice a n c := by
    obtain ⟨a, c, h, -⟩ := (OwnE.rows fldE_len ho3).shape
    exact ⟨a, _, c, h⟩
  have hw1B : B ≤ w1.heap.size := by rw [HBB.out.1]; exact HM1.out.size
  have HM3 : Hid (Below B (((w.alloc (.cells #[.int .i64 into, .int .i64 rver, .int .i64 rkind, .string rlang, .slice ra rn rc] 31)).alloc (.cells #[.int .i64 into, .int .i64 id, .int .i64 ver, .int .i64 kind, .string lang, .slice fa fn fc, .slice ta tn tc] 36)).alloc (.cells #[.int .i64 0, .int .i64 0, .int .i64 0, .string ⟨#[]⟩, .slice none 0 0] 31)) w3) := Lib.hid (HM1.out.trans (b3.mono hw1B))
  have HN3 : Hid (n3 = rf.length) := Lib.hid (by
    obtain ⟨a', c', h, -⟩ := (OwnE.rows fldE_len ho3).shape
    cases h; rfl)
  have HO3 : Hid (w3.ownsRow B 46 4 (.slice a3 n3 c3) n3 (flatE fldE rf)) := Lib.hid (by
    have := (ho3.weaken hw1B).own fldE_len
    rwa [← HN3.out] at this)
  have hn3 : n3 ≤ 1000 := by have := HN3.out; have := HRN.out; omega
  have hwt : IntKind.i64.wrap ((tn : Int) - 1) = (tn : Int) - 1 := by rw [IntKind.wrap_i64]; omega
  obtain ⟨x0, y0, -⟩ := HCE.out _ HM3.out
  clear b3 ho3 hw1B q0 q1 q2 q3 q4 r0 r1 r2 r3 r4 r5 r6
  have r6 := Lib.cell_of_heap y0 6
  clear x0 y0
  go_wp2
  go_loopw [8, 9, 10] (fun vf va vk wr => ∃ (m : Nat) (z : Int) (cur : List Fld) (ca : Option Addr) (cn cc : Nat), vf = .slice ca cn cc ∧ va = .bool true ∧ vk = .int .i64 z ∧ z = (m : Int) - 1 ∧ m ≤ tn ∧ cn ≤ 1000 ∧ Hid (cn = cur.length) ∧ Hid (Parts (tf.take m).reverse cur out) ∧ Hid (wr.ownsRow B 46 4 (.slice ca cn cc) cn (flatE fldE cur)) ∧ Hid (∀ f ∈ cur, FldAt w f ∧ f.subs.length ≤ 1000000) ∧ Hid (Below B (((w.alloc (.cells #[.int .i64 into, .int .i64 rver, .int .i64 rkind, .string rlang, .slice ra rn rc] 31)).alloc (.cells #[.int .i64 into, .int .i64 id, .int .i64 ver, .int .i64 kind, .string lang, .slice fa fn fc, .slice ta tn tc] 36)).alloc (.cells #[.int .i64 0, .int .i64 0, .int .i64 0, .string ⟨#[]⟩, .slice none 0 0] 31)) wr)) (fun _ _ vk _ => (intOf vk + 1).toNat)
  case atStart => exact ⟨tn, _, rf, a3, n3, c3, rfl, rfl, rfl, by omega, by omega, hn3, HN3, HPA, HO3, HAX, HM3⟩
  case round =>
    obtain ⟨m, z, cur, ca, cn, cc, rfl, rfl, rfl, hz, hm, hcn, HCN, HPP, HOW, HCA, HM⟩ := hrel
    obtain ⟨wo, rfl⟩ : ∃ W, W = wr := ⟨_, rfl⟩
    have HBW : Hid (Below w.heap.size w wo) := Lib.hid (HB0.out.bt (by rw [← HBB.out.1]; exact HM.out))
    obtain ⟨x0, y0, z0⟩ := HCE.out _ HM.out
    clear r6
    have HX0 := Lib.hid x0
    have HY0 := Lib.hid y0
    have HZ0 := Lib.hid z0
    clear x0 y0 z0
    by_cases hm0 : m = 0
    · subst hm0
      have hzneg : ¬ (0 ≤ z) := by omega
      have HOUT : Hid (cur = out) := Lib.hid (by
        have := HPP.out
        rw [List.take_zero, List.reverse_nil] at this
        cases this; rfl)
      have hgn := own_lt HOW.out (g := w.heap.size) (by have := HBB.out.2; omega)
      have hgn2 := own_lt HOW.out (g := w.heap.size + 1 + 1) (by have := HBB.out.2; omega)
      have e0 : (wo.setCell ⟨w.heap.size, 4, none⟩ (.slice ca cn cc)).heap[w.heap.size]? = some (.cells #[.int .i64 into, .int .i64 rver, .int .i64 rkind, .string rlang, .slice ca cn cc] 31 (0, 0)) := heap_setCell_same wo w.heap.size 4 _ _ (.slice ca cn cc) HX0.out
      have e1 := (set_block wo ⟨w.heap.size, 4, none⟩ (.slice ca cn cc) (w.heap.size + 1 + 1) (by show w.heap.size ≠ _; omega)).trans HZ0.out
      have HE1 := Lib.hid e1
      have ho : (wo.setCell ⟨w.heap.size, 4, none⟩ (.slice ca cn cc)).ownsRow B 46 4 (.slice ca cn cc) cn (flatE fldE cur) := own_putL HOW.out hgn 4 [.slice ca cn cc]
      have HOF := Lib.hid (own_putL ho hgn2 0 [.int .i64 into, .int .i64 rver, .int .i64 rkind, .string rlang, .slice ca cn cc])
      have HBS : Hid (Below w.heap.size w (wo.setCell ⟨w.heap.size, 4, none⟩ (.slice ca cn cc))) := Lib.hid (HBW.out.setCell (p := ⟨w.heap.size, 4, none⟩) (Nat.le_refl _) _)
      have q4 := Lib.cell_of_heap HX0.out 4
      have qf := Lib.frozen_of_heap HX0.out 4
      have a0 := Lib.cell_of_heap e0 0
      have a1 := Lib.cell_of_heap e0 1
      have a2 := Lib.cell_of_heap e0 2
      have a3 := Lib.cell_of_heap e0 3
      have a4 := Lib.cell_of_heap e0 4
      have c0 := Lib.cell_of_heap e1 0
      have f0 := Lib.frozen_of_heap e1 0
      have c1 := Lib.cell_of_heap e1 1
      have f1 := Lib.frozen_of_heap e1 1
      have c2 := Lib.cell_of_heap e1 2
      have f2 := Lib.frozen_of_heap e1 2
      have c3 := Lib.cell_of_heap e1 3
      have f3 := Lib.frozen_of_heap e1 3
      have c4 := Lib.cell_of_heap e1 4
      have f4 := Lib.frozen_of_heap e1 4
      clear e0 e1 ho HOW hgn hgn2
      go_wp2
      (try simp only [Exit.inBlock, Exit.then])
      change bodyPost _ _ _ _ _ (put5 (wo.setCell ⟨w.heap.size, 4, none⟩ (.slice ca cn cc)) (w.heap.size + 1 + 1) (.int .i64 into) (.int .i64 rver) (.int .i64 rkind) (.string rlang) (.slice ca cn cc))
      rw [put5_eq]
      have hb5 := putL_all [.int .i64 into, .int .i64 rver, .int .i64 rkind, .string rlang, .slice ca cn cc] _ (w.heap.size + 1 + 1) _ _ HE1.out rfl
      have hbb := putL_below [.int .i64 into, .int .i64 rver, .int .i64 rkind, .string rlang, .slice ca cn cc] _ (w.heap.size + 1 + 1) 0 HBS.out (by omega)
      refine bodyPost_ret (results_ctt rfl _ _ (w.heap.size + 1 + 1) into rver rkind rlang (.slice ca cn cc) rfl hb5) rfl ⟨ca, cc, ?_, ?_, ?_, hbb⟩
      · rw [← HOUT.out, ← HCN.out]; rfl
      · rw [← HOUT.out, ← HCN.out]
        exact own_weak HOF.out (by have := HBB.out.2; omega)
      · rw [← HOUT.out]
        exact HCA.out
    · obtain ⟨m, rfl⟩ : ∃ k, m = k + 1 := ⟨m - 1, by omega⟩
      obtain rfl : z = (m : Int) := by omega
      obtain ⟨t, htm⟩ : ∃ t, tf[m]? = some t := ⟨_, List.getElem?_eq_getElem (by have := HTL.out; omega)⟩
      obtain ⟨i, him⟩ : ∃ t, tl[m]? = some t := ⟨_, List.getElem?_eq_getElem (by have := HTN.out; omega)⟩
      have hti := HTF.out m i t him htm
      obtain ⟨hi0, hi1⟩ := HRNG.out i (List.mem_of_getElem? him)
      obtain ⟨j, rfl⟩ : ∃ j : Nat, i = (j : Int) := ⟨i.toNat, by omega⟩
      rw [Int.toNat_natCast] at hti
      have hpp := HPP.out
      rw [take_rev htm] at hpp
      obtain ⟨x, ts, pre, post, hcur, hxt, hpost, hrest⟩ : ∃ (x : Fld) (ts pre post : List Fld), cur = pre ++ x :: post ∧ sameF x t = true ∧ (∀ y ∈ post, sameF y t = false) ∧ Parts (tf.take m).reverse (pre ++ post) out := by
        cases hpp with
        | @cons _ x _ pre post _ h1 h2 h3 => exact ⟨x, [], pre, post, rfl, h1, h2, h3⟩
      obtain ⟨g, rfl⟩ : ∃ g, ca = some ⟨g, 0, none⟩ := by
        rcases HOW.out.2 with ⟨h, h0⟩ | ⟨g, _, _, h, -⟩
        · rw [HCN.out, hcur, List.length_append, List.length_cons] at h0; omega
        · cases h; exact ⟨g, rfl⟩
      have hgB : B ≤ g := (HOW.out.lt g rfl).1
      have hgW : g < wo.heap.size := (HOW.out.lt g rfl).2
      have HROWS := Lib.hid (Rows.of_own fldE_len HOW.out HCN.out)
      have HCUR := Lib.hid hcur
      have HXT := Lib.hid hxt
      have HPO := Lib.hid hpost
      have HRE := Lib.hid hrest
      have HLEN : Hid (cn = pre.length + 1 + post.length) := Lib.hid (by rw [HCN.out, hcur, List.length_append, List.length_cons]; omega)
      rcases HX1.out with h0 | ⟨b, o, rfl, hbl, hcl⟩
      · omega
      rcases HFC.out with h0 | ⟨b2, o2, rfl, hbl2, hcl2⟩
      · rw [h0] at hti; cases hti
      have HTC : Hid (∀ W, Below w.heap.size w W → W.cell? ⟨b, o + m, none⟩ = some (.int .i64 (j : Int))) := Lib.hid (fun W h => (h.cell (p := ⟨b, o + m, none⟩) hbl).trans (hcl m _ him))
      have HFO : Hid (∀ W, Below w.heap.size w W → Four W b2 (o2 + j * 4) t) := Lib.hid (fun W h => (hcl2 j t hti).below h hbl2)
      have HTM := Lib.hid (List.mem_of_getElem? hti)
      have hjn : (j : Int) < (fn : Int) := hi1
      have hmt : (m : Int) < (tn : Int) := by omega
      have hwc : IntKind.i64.wrap ((cn : Int) - 1) = (cn : Int) - 1 := by rw [IntKind.wrap_i64]; omega
      have hwm : IntKind.i64.wrap ((m : Int) - 1) = (m : Int) - 1 := by rw [IntKind.wrap_i64]; omega
      have hm1 : (0 : Int) ≤ (m : Int) := by omega
      clear hpp hcur hxt hpost hrest hcl hcl2 htm him hti HPP hi1 hi0 hz hm0
      go_wp2
      go_loopw [11] (fun va wr => ∃ (q d : Nat), va = .int .i64 (q : Int) ∧ Hid (q = pre.length + d) ∧ q < cn ∧ Hid (Below wo.heap.size wo wr)) (fun va _ => (intOf va + 1).toNat)
      case atStart => exact ⟨cn - 1, post.length, by congr 1; have := HLEN.out; omega, Lib.hid (by have := HLEN.out; omega), by have := HLEN.out; omega, Lib.hid (Below.refl _ _)⟩
      case round =>
        obtain ⟨q, d, rfl, HQ, hq, HBR⟩ := hrel
        have hqz : (q : Int) < (cn : Int) := by omega
        have hq0 : (0 : Int) ≤ (q : Int) := by omega
        have HBW2 := Lib.hid (HBW.out.bt HBR.out)
        obtain ⟨y, hy⟩ : ∃ y, cur[q]? = some y := ⟨_, List.getElem?_eq_getElem (by have := HCN.out; omega)⟩
        have h4 : Four wr g (q * 4) y := by
          obtain ⟨a', c', he, -, hx⟩ := HROWS.out
          cases he
          rcases hx with h0 | ⟨b', o', he, hb', hcl⟩
          · rw [h0] at hy; cases hy
          · cases he
            have := four_of (hcl q y hy)
            rw [Nat.zero_add] at this
            exact this.below HBR.out hb'
        have hgR : g < wr.heap.size := Nat.lt_of_lt_of_le hgW HBR.out.size
        have hp : ∀ W, Below wr.heap.size wr W → W.cell? ⟨w.heap.size + 1, 5, none⟩ = some (.slice (some ⟨b2, o2, none⟩) fn fc) ∧ W.cell? ⟨w.heap.size + 1, 6, none⟩ = some (.slice (some ⟨b, o, none⟩) tn tc) ∧ W.cell? ⟨b, o + m, none⟩ = some (.int .i64 (j : Int)) := fun W h => by
          have hb := HBR.out.bt h
          exact ⟨(hb.cell (p := ⟨w.heap.size + 1, 5, none⟩) (Array.getElem?_eq_some_iff.1 HY0.out).1).trans (Lib.cell_of_heap HY0.out 5), (hb.cell (p := ⟨w.heap.size + 1, 6, none⟩) (Array.getElem?_eq_some_iff.1 HY0.out).1).trans (Lib.cell_of_heap HY0.out 6), HTC.out W (HBW.out.bt hb)⟩
        obtain ⟨hya, hys⟩ := HCA.out y (List.mem_of_getElem? hy)
        have hcall := fun W (h : Below wr.heap.size wr W) => HSM.out W (HBW2.out.bt h) y t hya hys HTM.out
        have hsame : sameF y t = decide (d = 0) := by
          by_cases hd : d = 0
          · have : y = x := by
              have h1 := hy
              rw [HCUR.out, HQ.out, hd, Nat.add_zero, List.getElem?_append_right (Nat.le_refl _), Nat.sub_self] at h1
              simpa using h1.symm
            rw [this, HXT.out, hd]; rfl
          · rw [decide_eq_false hd]
            refine HPO.out y ?_
            have h1 := hy
            rw [HCUR.out, HQ.out, List.getElem?_append_right (by omega), show pre.length + d - pre.length = (d - 1) + 1 by omega, List.getElem?_cons_succ] at h1
            exact List.mem_of_getElem? h1
        simp only [hsame] at hcall
        simp only [fldV] at hcall
        obtain ⟨T, hT⟩ : ∃ T, T = lb y.tag := ⟨_, rfl⟩
        obtain ⟨I, hI⟩ : ∃ I, I = lb y.ind := ⟨_, rfl⟩
        obtain ⟨sn, hsn⟩ : ∃ sn, sn = y.subs.length := ⟨_, rfl⟩
        obtain ⟨T', hT'⟩ : ∃ T, T = lb t.tag := ⟨_, rfl⟩
        obtain ⟨I', hI'⟩ : ∃ I, I = lb t.ind := ⟨_, rfl⟩
        obtain ⟨sn', hsn'⟩ : ∃ sn, sn = t.subs.length := ⟨_, rfl⟩
        have hyc : ∀ W, Below wr.heap.size wr W → W.cell? ⟨g, q * 4, none⟩ = some (.string T) ∧ W.cell? ⟨g, q * 4 + 1, none⟩ = some (.string I) ∧ W.cell? ⟨g, q * 4 + 2, none⟩ = some (.slice y.sa sn y.sc) ∧ W.cell? ⟨g, q * 4 + 3, none⟩ = some (.int .i64 y.auth) := fun W h => by
          obtain ⟨h0, h1, h2, h3⟩ := h4.below h hgR
          rw [hT, hI, hsn]
          exact ⟨h0, h1, h2, h3⟩
        have hzc : ∀ W, Below wr.heap.size wr W → W.cell? ⟨b2, o2 + j * 4, none⟩ = some (.string T') ∧ W.cell? ⟨b2, o2 + j * 4 + 1, none⟩ = some (.string I') ∧ W.cell? ⟨b2, o2 + j * 4 + 2, none⟩ = some (.slice t.sa sn' t.sc) ∧ W.cell? ⟨b2, o2 + j * 4 + 3, none⟩ = some (.int .i64 t.auth) := fun W h => by
          obtain ⟨h0, h1, h2, h3⟩ := HFO.out W (HBW2.out.bt h)
          rw [hT', hI', hsn']
          exact ⟨h0, h1, h2, h3⟩
        simp only [← hT, ← hI, ← hsn, ← hT', ← hI', ← hsn'] at hcall
        have HCALL := Lib.hid hcall
        have HYC := Lib.hid hyc
        have HZC := Lib.hid hzc
        have HPC := Lib.hid hp
        clear hcall hy hya hys hsame hT hI hsn hT' hI' hsn' hyc hzc hp h4
        by_cases hd : d = 0
        · subst hd
          have HQ0 : Hid (q = pre.length) := Lib.hid (by have := HQ.out; omega)
          replace HCALL := Lib.hid (by have := HCALL.out; simp only at this; exact this)
          have HDEL : Hid (∀ W, Below wo.heap.size wo W → Calls Tryd.prog 44 #[.slice (some ⟨g, 0, none⟩) cn cc, .int .i64 (q : Int), .int .i64 ((q : Int) + 1)] W fun e w' => e = .returned (.slice (some ⟨g, 0, none⟩) (cn - 1) cc) ∧ w'.ownsRow B 46 4 (.slice (some ⟨g, 0, none⟩) (cn - 1) cc) (cn - 1) (flatE fldE (pre ++ post)) ∧ ∀ B' a, Below B' a W → B' ≤ g → Below B' a w') := Lib.hid (fun W h => by
            have := pDelete (w := W) (own_below' HOW.out h) hcn q (q + 1) hq rfl
            have he : cur.eraseIdx q = pre ++ post := by rw [HCUR.out, HQ0.out, List.eraseIdx_append_of_length_le (Nat.le_refl _), Nat.sub_self]; rfl
            rw [he] at this
            exact this)
          clear HQ
          go_wp2_with fail
          refine part_cond g (w.heap.size + 1) b b2 o o2 q m j cn cc fn fc tn tc T I y.sa sn y.sc y.auth T' I' t.sa sn' t.sc t.auth true hqz hmt hjn HYC.out HZC.out HPC.out HCALL.out (by kernel_rfl) (by kernel_rfl) (by kernel_rfl) (by kernel_rfl) (by kernel_rfl) (by kernel_rfl) (by kernel_rfl) (by kernel_rfl) (by kernel_rfl) (by kernel_rfl) (by kernel_rfl) (by kernel_rfl) (by kernel_rfl) (by kernel_rfl) (by kernel_rfl) (by kernel_rfl) (by kernel_rfl) (by kernel_rfl) (by kernel_rfl) (by kernel_rfl) (by kernel_rfl) (by kernel_rfl) (by kernel_rfl) (by kernel_rfl) (by kernel_rfl) (by kernel_rfl) (by kernel_rfl) (by kernel_rfl) (by kernel_rfl) (by kernel_rfl) (by kernel_rfl) (by kernel_rfl) (by kernel_rfl) (by kernel_rfl) (by kernel_rfl) (by kernel_rfl) ?_
          intro xs w5 h57 b5
          have h58 : xs 57 = .bool false := h57
          simp only [h58]
          clear h57
          have HB5 := Lib.hid (HBR.out.bt b5)
          clear b5
          go_wp2_with fail
          refine (HDEL.out _ HB5.out).mono ?_
          rintro e w6 ⟨rfl, ho6, hb6⟩
          have HM6 : Hid (Below B _ w6) := Lib.hid (hb6 B _ (HM.out.trans (HB5.out.mono (by omega))) hgB)
          have HO6 := Lib.hid ho6
          have HN6 : Hid (cn - 1 = (pre ++ post).length) := Lib.hid (by rw [List.length_append]; have := HLEN.out; omega)
          have HCA6 : Hid (∀ f ∈ pre ++ post, FldAt w f ∧ f.subs.length ≤ 1000000) := Lib.hid (fun f hf => HCA.out f (by rw [HCUR.out]; rcases List.mem_append.1 hf with h | h; exact List.mem_append_left _ h; exact List.mem_append_right _ (List.mem_cons_of_mem _ h)))
          clear ho6 hb6
          go_wp2
          go_roundw
          case rel => exact ⟨m, _, pre ++ post, some ⟨g, 0, none⟩, cn - 1, cc, rfl, rfl, rfl, rfl, by omega, by omega, HN6, HRE, HO6, HCA6, HM6⟩
          case measure => simp [intOf]
        · replace HCALL := Lib.hid (by have := HCALL.out; simp only [decide_eq_false hd] at this; exact this)
          have hwq : IntKind.i64.wrap ((q : Int) - 1) = ((q - 1 : Nat) : Int) := by rw [IntKind.wrap_i64]; have := HQ.out; omega
          go_wp2_with fail
          refine part_cond g (w.heap.size + 1) b b2 o o2 q m j cn cc fn fc tn tc T I y.sa sn y.sc y.auth T' I' t.sa sn' t.sc t.auth false hqz hmt hjn HYC.out HZC.out HPC.out HCALL.out (by kernel_rfl) (by kernel_rfl) (by kernel_rfl) (by kernel_rfl) (by kernel_rfl) (by kernel_rfl) (by kernel_rfl) (by kernel_rfl) (by kernel_rfl) (by kernel_rfl) (by kernel_rfl) (by kernel_rfl) (by kernel_rfl) (by kernel_rfl) (by kernel_rfl) (by kernel_rfl) (by kernel_rfl) (by kernel_rfl) (by kernel_rfl) (by kernel_rfl) (by kernel_rfl) (by kernel_rfl) (by kernel_rfl) (by kernel_rfl) (by kernel_rfl) (by kernel_rfl) (by kernel_rfl) (by kernel_rfl) (by kernel_rfl) (by kernel_rfl) (by kernel_rfl) (by kernel_rfl) (by kernel_rfl) (by kernel_rfl) (by kernel_rfl) (by kernel_rfl) ?_
          intro xs w5 h57 b5
          have h58 : xs 57 = .bool true := h57
          simp only [h58]
          clear h57
          have HB5 := Lib.hid (HBR.out.bt b5)
          clear b5
          go_wp2
          go_roundw
          case rel => exact ⟨q - 1, d - 1, rfl, Lib.hid (by have := HQ.out; omega), by omega, HB5⟩
          case measure => simp [intOf]; have := HQ.out; omega
end Go.Proofs.YtcdlgmncalmihaaDoor
