/- Equal lists of fields, records and partings: the walks of the reference's SameFields and Same, of its Same of partings, and of the program's EqualFunc and Same (layer 16). -/
import Derived.Test.YtcdlgmncalmihaaDoorGrm
import Derived.Deep.RegionLaw
namespace Go.Proofs.YtcdlgmncalmihaaDoor
open Go Go.RowKit

set_option maxRecDepth 100000 in
set_option maxHeartbeats 2000000 in
theorem rSameFlds (va vb : Value) (la lb' : List Fld) (w : World) (ha : Flds w va la) (hb : Flds w vb lb') (he : la.map coreF = lb'.map coreF) (hl : la.length ≤ 1000000) (hs : ∀ f ∈ la, f.subs.length ≤ 1000000) (hs' : ∀ f ∈ lb', f.subs.length ≤ 1000000) :
    Calls Tryd.prog 36 #[va, vb] w fun e w' => e = .returned (.bool true) ∧ Below w.heap.size w w' := by
  have hlen : la.length = lb'.length := by have := congrArg List.length he; simpa using this
  have hsame : ∀ (W : World), Below w.heap.size w W → ∀ (k : Nat) (f g : Fld), la[k]? = some f → lb'[k]? = some g → Calls Tryd.prog 17 #[.agg #[.string (lb f.tag), .string (lb f.ind), .slice f.sa f.subs.length f.sc, .int .i64 f.auth], .agg #[.string (lb g.tag), .string (lb g.ind), .slice g.sa g.subs.length g.sc, .int .i64 g.auth]] W fun e w' => e = .returned (.bool true) ∧ Below W.heap.size W w' := fun W hW k f g hf hg => by
    have hc : coreF f = coreF g := by
      have h1 : (la.map coreF)[k]? = some (coreF f) := by rw [List.getElem?_map, hf]; rfl
      rw [he, List.getElem?_map, hg] at h1
      exact (Option.some.inj h1).symm
    have := rSame07 f g W ((ha.2 f (List.mem_of_getElem? hf)).below hW (Nat.le_refl _)) ((hb.2 g (List.mem_of_getElem? hg)).below hW (Nat.le_refl _)) (hs f (List.mem_of_getElem? hf)) (hs' g (List.mem_of_getElem? hg))
    rw [sameF_core, decide_eq_true hc] at this
    exact this
  obtain ⟨⟨pa, ca, rfl, hca, hcellsa⟩, -⟩ := ha
  obtain ⟨⟨pb, cb, rfl, hcb, hcellsb⟩, -⟩ := hb
  rw [← hlen] at hcb ⊢
  obtain ⟨n, hnn⟩ : ∃ n, n = la.length := ⟨_, rfl⟩
  rw [← hnn] at hl hca hcb hlen ⊢
  have HN := Lib.hid hnn
  have HN' := Lib.hid hlen
  have HA := Lib.hid hcellsa
  have HB := Lib.hid hcellsb
  have HSM := Lib.hid hsame
  clear hnn hcellsa hcellsb hsame hlen he hs hs'
  go_enter Tryd.func36, Tryd.ntmps36
  go_wp2
  go_loopw [5] (fun i wr => ∃ k : Nat, i = .int .i64 k ∧ k ≤ n ∧ Hid (Below w.heap.size w wr)) (fun i _ => n - (intOf i).toNat)
  case atStart => exact ⟨0, rfl, by omega, Lib.hid (Below.refl _ _)⟩
  case round =>
    obtain ⟨k, rfl, hk, HBW⟩ := hrel
    by_cases hlt : k < n
    · have hltz : (k : Int) < (n : Int) := by omega
      obtain ⟨f, hf⟩ : ∃ x, la[k]? = some x := ⟨_, List.getElem?_eq_getElem (by have := HN.out; omega)⟩
      obtain ⟨g, hg⟩ : ∃ x, lb'[k]? = some x := ⟨_, List.getElem?_eq_getElem (by have := HN'.out; omega)⟩
      rcases HA.out with h0 | ⟨b, o, rfl, hb1, hcells1⟩
      · rw [h0] at hf; cases hf
      rcases HB.out with h0 | ⟨b', o', rfl, hb2, hcells2⟩
      · rw [h0] at hg; cases hg
      obtain ⟨q0, q1, q2, q3⟩ := (four_of (hcells1 k f hf)).below HBW.out hb1
      obtain ⟨r0, r1, r2, r3⟩ := (four_of (hcells2 k g hg)).below HBW.out hb2
      have hcall := HSM.out wr.drew HBW.out.drew k f g hf hg
      obtain ⟨T, hT⟩ : ∃ T, T = lb f.tag := ⟨_, rfl⟩
      obtain ⟨I, hI⟩ : ∃ I, I = lb f.ind := ⟨_, rfl⟩
      obtain ⟨sn, hsn⟩ : ∃ sn, sn = f.subs.length := ⟨_, rfl⟩
      obtain ⟨T', hT'⟩ : ∃ T, T = lb g.tag := ⟨_, rfl⟩
      obtain ⟨I', hI'⟩ : ∃ I, I = lb g.ind := ⟨_, rfl⟩
      obtain ⟨sn', hsn'⟩ : ∃ sn, sn = g.subs.length := ⟨_, rfl⟩
      rw [← hT] at q0
      rw [← hI] at q1
      rw [← hsn] at q2
      rw [← hT'] at r0
      rw [← hI'] at r1
      rw [← hsn'] at r2
      rw [← hT, ← hI, ← hsn, ← hT', ← hI', ← hsn'] at hcall
      have HC := Lib.hid hcall
      have HBD := Lib.hid HBW.out.drew
      clear hcells1 hcells2 hf hg hcall hT hI hsn hT' hI' hsn'
      go_wp2_with fail
      go_region_law (go_simp; go_at_call 17; refine HC.out.mono ?_; rintro e w3 ⟨rfl, b3⟩)
      all_goals have HB3 := Lib.hid (HBD.out.bt b3)
      all_goals go_wp2
      all_goals go_roundw
      all_goals first
        | exact ⟨k + 1, by go_num, by omega, HB3⟩
        | (simp [intOf]; omega)
    · have hltz : ¬ (k : Int) < (n : Int) := by omega
      go_wp2
      go_ret
      exact ⟨rfl, HBW.out⟩

set_option maxRecDepth 100000 in
set_option maxHeartbeats 2000000 in
theorem rSameRec (r s : Rec) (a a' : Option Addr) (n c n' c' : Nat) (w : World) (ha : Flds w (.slice a n c) r.fields) (hb : Flds w (.slice a' n' c') s.fields) (h0 : r.id = s.id) (h1 : r.ver = s.ver) (h2 : r.kind = s.kind) (h3 : r.lang = s.lang) (he : r.fields.map coreF = s.fields.map coreF) (hs : r.small) (hs' : s.small) :
    Calls Tryd.prog 15 #[.agg #[.int .i64 r.id, .int .i64 r.ver, .int .i64 r.kind, .string r.lang, .slice a n c], .agg #[.int .i64 s.id, .int .i64 s.ver, .int .i64 s.kind, .string s.lang, .slice a' n' c']] w fun e w' => e = .returned (.bool true) ∧ Below w.heap.size w w' := by
  rw [← h0, ← h1, ← h2, ← h3]
  obtain ⟨W, hW⟩ : ∃ W, W = (recX w r.id r.ver r.kind r.lang a n c).alloc (.cells #[.int .i64 r.id, .int .i64 r.ver, .int .i64 r.kind, .string r.lang, .slice a' n' c'] 31) := ⟨_, rfl⟩
  have hbw : Below w.heap.size w W := by rw [hW]; exact ((Below.refl _ _).alloc (Nat.le_refl _) _).alloc (by simp) _
  have hcall := rSameFlds (.slice a n c) (.slice a' n' c') r.fields s.fields W (ha.below hbw (Nat.le_refl _)) (hb.below hbw (Nat.le_refl _)) he hs.1 (fun f hf => (hs.2 f hf).subs) (fun f hf => (hs'.2 f hf).subs)
  obtain ⟨id, ver, kind, lang, l⟩ := r
  simp only at hW hcall ⊢
  rw [hW] at hcall hbw
  have q : ∀ i u, (#[.int .i64 id, .int .i64 ver, .int .i64 kind, .string lang, .slice a n c] : Array Value)[i]? = some u → ((recX w id ver kind lang a n c).alloc (.cells #[.int .i64 id, .int .i64 ver, .int .i64 kind, .string lang, .slice a' n' c'] 31)).cell? ⟨w.heap.size, i, none⟩ = some u := fun i u hu => block_cells (Below.alloc (Below.refl _ _) (Nat.le_refl _) _) i u hu
  have q0 := q 0 _ rfl
  have q1 := q 1 _ rfl
  have q2 := q 2 _ rfl
  have q3 := q 3 _ rfl
  have q4 := q 4 _ rfl
  have hll : (lang.toList == lang.toList) = true := by simp
  have HC := Lib.hid hcall
  have HB := Lib.hid hbw
  clear hcall hbw hW q ha hb h0 h1 h2 h3 he hs hs' W
  go_enter Tryd.func15, Tryd.ntmps15
  go_wp2_with fail
  refine HC.out.mono ?_
  rintro e w1 ⟨rfl, b1⟩
  have HB1 := Lib.hid (HB.out.bt b1)
  clear b1
  go_wp2
  go_ret
  exact ⟨rfl, HB1.out⟩

theorem int_cells {w : World} {a : Option Addr} {n c : Nat} {l : List Int} (h : IntsAt w (.slice a n c) l) : n = l.length ∧ n ≤ c ∧ (n = 0 ∨ ∃ b o, a = some ⟨b, o, none⟩ ∧ b < w.heap.size ∧ ∀ j i, l[j]? = some i → w.cell? ⟨b, o + j, none⟩ = some (.int .i64 i)) := by
  obtain ⟨a', c', he, hc, hx⟩ := h
  cases he
  refine ⟨rfl, hc, ?_⟩
  rcases hx with h0 | ⟨b, o, e, hb, hcl⟩
  · left; rw [h0]; rfl
  · refine .inr ⟨b, o, e, hb, fun j i hi => ?_⟩
    have := hcl j i hi 0 _ rfl
    rwa [Nat.mul_one, Nat.add_zero] at this

set_option maxRecDepth 100000 in
set_option maxHeartbeats 4000000 in
theorem rSameP (p : Part) (tv uv : Value) (w : World) (hf : RcdAt w p.frm) (h1 : IntsAt w tv p.taken) (h2 : IntsAt w uv p.taken) (hs : p.frm.r.small) (hl : p.taken.length ≤ 100000) :
    Calls Tryd.prog 16 #[partV p tv, partV p uv] w fun e w' => e = .returned (.bool true) ∧ Below w.heap.size w w' := by
  have HSR : Hid (∀ W, Below w.heap.size w W → Calls Tryd.prog 15 #[recV5 p.frm, recV5 p.frm] W fun e w' => e = .returned (.bool true) ∧ Below W.heap.size W w') := Lib.hid (fun W h => rSameRec p.frm.r p.frm.r p.frm.sa p.frm.sa _ p.frm.sc _ p.frm.sc W (Flds.below hf h (Nat.le_refl _)) (Flds.below hf h (Nat.le_refl _)) rfl rfl rfl rfl rfl hs hs)
  obtain ⟨ta, tc, rfl, -⟩ := Rows.shape h1
  obtain ⟨ua, uc, rfl, -⟩ := Rows.shape h2
  obtain ⟨-, hc1, hx1⟩ := int_cells h1
  obtain ⟨-, hc2, hx2⟩ := int_cells h2
  unfold partV
  unfold recV5 at HSR
  obtain ⟨into, ⟨⟨id, ver, kind, lang, fl⟩, fa, fc⟩, tl⟩ := p
  simp only at HSR hc1 hx1 hc2 hx2 hl ⊢
  obtain ⟨fn, hfn⟩ : ∃ n, n = fl.length := ⟨_, rfl⟩
  obtain ⟨tn, htn⟩ : ∃ n, n = tl.length := ⟨_, rfl⟩
  rw [← hfn] at HSR ⊢
  rw [← htn] at hc1 hx1 hc2 hx2 hl ⊢
  have HTN := Lib.hid htn
  have HX1 := Lib.hid hx1
  have HX2 := Lib.hid hx2
  have HB0 : Hid (Below w.heap.size w ((w.alloc (.cells #[.int .i64 into, .int .i64 id, .int .i64 ver, .int .i64 kind, .string lang, .slice fa fn fc, .slice ta tn tc] 36)).alloc (.cells #[.int .i64 into, .int .i64 id, .int .i64 ver, .int .i64 kind, .string lang, .slice fa fn fc, .slice ua tn uc] 36))) := Lib.hid (((Below.refl _ _).alloc (Nat.le_refl _) _).alloc (by simp) _)
  have HCE : Hid (∀ W, Below ((w.alloc (.cells #[.int .i64 into, .int .i64 id, .int .i64 ver, .int .i64 kind, .string lang, .slice fa fn fc, .slice ta tn tc] 36)).alloc (.cells #[.int .i64 into, .int .i64 id, .int .i64 ver, .int .i64 kind, .string lang, .slice fa fn fc, .slice ua tn uc] 36)).heap.size ((w.alloc (.cells #[.int .i64 into, .int .i64 id, .int .i64 ver, .int .i64 kind, .string lang, .slice fa fn fc, .slice ta tn tc] 36)).alloc (.cells #[.int .i64 into, .int .i64 id, .int .i64 ver, .int .i64 kind, .string lang, .slice fa fn fc, .slice ua tn uc] 36)) W → W.heap[w.heap.size]? = some (.cells #[.int .i64 into, .int .i64 id, .int .i64 ver, .int .i64 kind, .string lang, .slice fa fn fc, .slice ta tn tc] 36 (0, 0)) ∧ W.heap[w.heap.size + 1]? = some (.cells #[.int .i64 into, .int .i64 id, .int .i64 ver, .int .i64 kind, .string lang, .slice fa fn fc, .slice ua tn uc] 36 (0, 0))) := Lib.hid (fun W h => ⟨(h.block _ (by simp; omega)).trans ((alloc_old (by simp)).trans (alloc_at rfl)), (h.block _ (by simp)).trans (alloc_at (by simp))⟩)
  have hvl : (lang.toList == lang.toList) = true := by simp
  clear hf h1 h2 hs hfn htn hx1 hx2
  obtain ⟨x0, y0⟩ := HCE.out _ (Below.refl _ _)
  have q0 := Lib.cell_of_heap x0 0
  have r0 := Lib.cell_of_heap y0 0
  have q1 := Lib.cell_of_heap x0 1
  have r1 := Lib.cell_of_heap y0 1
  have q2 := Lib.cell_of_heap x0 2
  have r2 := Lib.cell_of_heap y0 2
  have q3 := Lib.cell_of_heap x0 3
  have r3 := Lib.cell_of_heap y0 3
  have q4 := Lib.cell_of_heap x0 4
  have r4 := Lib.cell_of_heap y0 4
  have q5 := Lib.cell_of_heap x0 5
  have r5 := Lib.cell_of_heap y0 5
  have q6 := Lib.cell_of_heap x0 6
  have r6 := Lib.cell_of_heap y0 6
  clear x0 y0
  go_enter Tryd.func16, Tryd.ntmps16
  go_wp2_with fail
  refine (HSR.out _ HB0.out).mono ?_
  rintro e w1 ⟨rfl, b1⟩
  have HB1 := Lib.hid (HB0.out.bt b1)
  have HC1 := Lib.hid b1
  obtain ⟨x0, y0⟩ := HCE.out _ b1
  clear b1 q0 r0 q1 r1 q2 r2 q3 r3 q4 r4 q5 r5 q6 r6
  have q6 := Lib.cell_of_heap x0 6
  have r6 := Lib.cell_of_heap y0 6
  clear x0 y0
  go_wp2
  go_loopw [5] (fun vk wr => ∃ k : Nat, vk = .int .i64 k ∧ k ≤ tn ∧ Hid (Below ((w.alloc (.cells #[.int .i64 into, .int .i64 id, .int .i64 ver, .int .i64 kind, .string lang, .slice fa fn fc, .slice ta tn tc] 36)).alloc (.cells #[.int .i64 into, .int .i64 id, .int .i64 ver, .int .i64 kind, .string lang, .slice fa fn fc, .slice ua tn uc] 36)).heap.size ((w.alloc (.cells #[.int .i64 into, .int .i64 id, .int .i64 ver, .int .i64 kind, .string lang, .slice fa fn fc, .slice ta tn tc] 36)).alloc (.cells #[.int .i64 into, .int .i64 id, .int .i64 ver, .int .i64 kind, .string lang, .slice fa fn fc, .slice ua tn uc] 36)) wr)) (fun vk _ => tn - (intOf vk).toNat)
  case atStart => exact ⟨0, rfl, by omega, HC1⟩
  case round =>
    obtain ⟨k, rfl, hk, HB⟩ := hrel
    clear q6 r6
    obtain ⟨x0, y0⟩ := HCE.out _ HB.out
    have q6 := Lib.cell_of_heap x0 6
    have r6 := Lib.cell_of_heap y0 6
    have HBW := Lib.hid (HB0.out.bt HB.out)
    clear x0 y0
    by_cases hlt : k < tn
    · have hltz : (k : Int) < (tn : Int) := by omega
      obtain ⟨i, hi⟩ : ∃ i, tl[k]? = some i := ⟨_, List.getElem?_eq_getElem (by have := HTN.out; omega)⟩
      rcases HX1.out with h0 | ⟨b, o, rfl, hbl, hcl⟩
      · omega
      rcases HX2.out with h0 | ⟨b', o', rfl, hbl', hcl'⟩
      · omega
      have p0 := (HBW.out.cell (p := ⟨b, o + k, none⟩) hbl).trans (hcl k i hi)
      have p1 := (HBW.out.cell (p := ⟨b', o' + k, none⟩) hbl').trans (hcl' k i hi)
      have hii : (i == i) = true := by simp
      have HBD := Lib.hid HB.out.drew
      clear hcl hcl' hi
      go_wp2_with fail
      go_region
      all_goals go_wp2
      all_goals go_roundw
      all_goals first
        | exact ⟨k + 1, by go_num, by omega, HBD⟩
        | (simp [intOf]; omega)
    · have hltz : ¬ (k : Int) < (tn : Int) := by omega
      go_wp2
      go_ret
      exact ⟨rfl, HBW.out⟩


set_option maxRecDepth 100000 in
set_option maxHeartbeats 2000000 in
theorem pEqualFlds (va vb : Value) (la lb' : List Fld) (w : World) (ha : Flds w va la) (hb : Flds w vb lb') (he : la.map coreF = lb'.map coreF) (hl : la.length ≤ 1000000) (hs : ∀ f ∈ la, f.subs.length ≤ 1000000) :
    Calls Tryd.prog 39 #[va, vb, .func (.func 19) #[] #[]] w fun e w' => e = .returned (.bool true) ∧ Below w.heap.size w w' := by
  have hlen : la.length = lb'.length := by have := congrArg List.length he; simpa using this
  have hsame : ∀ (W : World), Below w.heap.size w W → ∀ (k : Nat) (f g : Fld), la[k]? = some f → lb'[k]? = some g → Calls Tryd.prog 19 #[fldV f, fldV g] W fun e w' => e = .returned (.bool true) ∧ Below W.heap.size W w' := fun W hW k f g hf hg => by
    have hc : coreF f = coreF g := by
      have h1 : (la.map coreF)[k]? = some (coreF f) := by rw [List.getElem?_map, hf]; rfl
      rw [he, List.getElem?_map, hg] at h1
      exact (Option.some.inj h1).symm
    have := pSame07 f g W ((ha.2 f (List.mem_of_getElem? hf)).below hW (Nat.le_refl _)) ((hb.2 g (List.mem_of_getElem? hg)).below hW (Nat.le_refl _)) (hs f (List.mem_of_getElem? hf))
    rw [sameF_core, decide_eq_true hc] at this
    exact this
  obtain ⟨⟨pa, ca, rfl, hca, hcellsa⟩, -⟩ := ha
  obtain ⟨⟨pb, cb, rfl, hcb, hcellsb⟩, -⟩ := hb
  rw [← hlen] at hcb ⊢
  obtain ⟨n, hnn⟩ : ∃ n, n = la.length := ⟨_, rfl⟩
  rw [← hnn] at hl hca hcb hlen ⊢
  have HN := Lib.hid hnn
  have HN' := Lib.hid hlen
  have HA := Lib.hid hcellsa
  have HB := Lib.hid hcellsb
  have HSM := Lib.hid hsame
  clear hnn hcellsa hcellsb hsame hlen he hs
  go_enter Tryd.func39, Tryd.ntmps39
  go_wp2
  go_loopw [17] (fun i wr => ∃ k : Nat, i = .int .i64 k ∧ k ≤ n ∧ Hid (Below w.heap.size w wr)) (fun i _ => n - (intOf i).toNat)
  case atStart => exact ⟨0, rfl, by omega, Lib.hid (Below.refl _ _)⟩
  case round =>
    obtain ⟨k, rfl, hk, HBW⟩ := hrel
    by_cases hlt : k < n
    · have hltz : (k : Int) < (n : Int) := by omega
      obtain ⟨f, hf⟩ : ∃ x, la[k]? = some x := ⟨_, List.getElem?_eq_getElem (by have := HN.out; omega)⟩
      obtain ⟨g, hg⟩ : ∃ x, lb'[k]? = some x := ⟨_, List.getElem?_eq_getElem (by have := HN'.out; omega)⟩
      rcases HA.out with h0 | ⟨b, o, rfl, hb1, hcells1⟩
      · rw [h0] at hf; cases hf
      rcases HB.out with h0 | ⟨b', o', rfl, hb2, hcells2⟩
      · rw [h0] at hg; cases hg
      obtain ⟨q0, q1, q2, q3⟩ := (four_of (hcells1 k f hf)).below HBW.out hb1
      have hba : Below w.heap.size w (wr.alloc (.cells #[.string (lb f.tag), .string (lb f.ind), .slice f.sa f.subs.length f.sc, .int .i64 f.auth] 46)) := HBW.out.alloc HBW.out.size _
      obtain ⟨r0, r1, r2, r3⟩ := (four_of (hcells2 k g hg)).below hba hb2
      have hbb : Below w.heap.size w ((wr.alloc (.cells #[.string (lb f.tag), .string (lb f.ind), .slice f.sa f.subs.length f.sc, .int .i64 f.auth] 46)).alloc (.cells #[.string (lb g.tag), .string (lb g.ind), .slice g.sa g.subs.length g.sc, .int .i64 g.auth] 46)) := hba.alloc hba.size _
      have hcall := HSM.out _ hbb k f g hf hg
      have k0 : ∀ j, ((wr.alloc (.cells #[.string (lb f.tag), .string (lb f.ind), .slice f.sa f.subs.length f.sc, .int .i64 f.auth] 46)).alloc (.cells #[.string (lb g.tag), .string (lb g.ind), .slice g.sa g.subs.length g.sc, .int .i64 g.auth] 46)).cell? ⟨wr.heap.size, j, none⟩ = (#[.string (lb f.tag), .string (lb f.ind), .slice f.sa f.subs.length f.sc, .int .i64 f.auth] : Array Value)[j]? := fun j => Lib.cell_of_heap ((alloc_old (by simp)).trans (alloc_at rfl)) j
      have s0 := k0 0
      have s1 := k0 1
      have s2 := k0 2
      have s3 := k0 3
      unfold fldV at hcall
      obtain ⟨T, hT⟩ : ∃ T, T = lb f.tag := ⟨_, rfl⟩
      obtain ⟨I, hI⟩ : ∃ I, I = lb f.ind := ⟨_, rfl⟩
      obtain ⟨sn, hsn⟩ : ∃ sn, sn = f.subs.length := ⟨_, rfl⟩
      obtain ⟨T', hT'⟩ : ∃ T, T = lb g.tag := ⟨_, rfl⟩
      obtain ⟨I', hI'⟩ : ∃ I, I = lb g.ind := ⟨_, rfl⟩
      obtain ⟨sn', hsn'⟩ : ∃ sn, sn = g.subs.length := ⟨_, rfl⟩
      simp only [← hT, ← hI, ← hsn, ← hT', ← hI', ← hsn'] at q0 q1 q2 r0 r1 r2 r3 s0 s1 s2 s3 hcall hbb
      have HC := Lib.hid hcall
      have HBD := Lib.hid hbb
      clear hcells1 hcells2 hf hg hcall hT hI hsn hT' hI' hsn' hba hbb k0
      go_wp2_with fail
      refine HC.out.mono ?_
      rintro e w3 ⟨rfl, b3⟩
      have HB3 := Lib.hid (HBD.out.bt b3)
      clear b3
      go_wp2
      go_roundw
      case rel => exact ⟨k + 1, by go_num, by omega, HB3⟩
      case measure => simp [intOf]; omega
    · have hltz : ¬ (k : Int) < (n : Int) := by omega
      go_wp2
      go_ret
      exact ⟨rfl, HBW.out⟩

set_option maxRecDepth 100000 in
set_option maxHeartbeats 2000000 in
theorem pSameRec (r s : Rec) (a a' : Option Addr) (n c n' c' : Nat) (w : World) (ha : Flds w (.slice a n c) r.fields) (hb : Flds w (.slice a' n' c') s.fields) (h0 : r.id = s.id) (h1 : r.ver = s.ver) (h2 : r.kind = s.kind) (h3 : r.lang = s.lang) (he : r.fields.map coreF = s.fields.map coreF) (hs : r.small) :
    Calls Tryd.prog 22 #[.agg #[.int .i64 r.id, .int .i64 r.ver, .int .i64 r.kind, .string r.lang, .slice a n c], .agg #[.int .i64 s.id, .int .i64 s.ver, .int .i64 s.kind, .string s.lang, .slice a' n' c']] w fun e w' => e = .returned (.bool true) ∧ Below w.heap.size w w' := by
  rw [← h0, ← h1, ← h2, ← h3]
  obtain ⟨W, hW⟩ : ∃ W, W = (recX w r.id r.ver r.kind r.lang a n c).alloc (.cells #[.int .i64 r.id, .int .i64 r.ver, .int .i64 r.kind, .string r.lang, .slice a' n' c'] 31) := ⟨_, rfl⟩
  have hbw : Below w.heap.size w W := by rw [hW]; exact ((Below.refl _ _).alloc (Nat.le_refl _) _).alloc (by simp) _
  have hcall := pEqualFlds (.slice a n c) (.slice a' n' c') r.fields s.fields W (ha.below hbw (Nat.le_refl _)) (hb.below hbw (Nat.le_refl _)) he hs.1 (fun f hf => (hs.2 f hf).subs)
  obtain ⟨id, ver, kind, lang, l⟩ := r
  simp only at hW hcall ⊢
  rw [hW] at hcall hbw
  have q : ∀ i u, (#[.int .i64 id, .int .i64 ver, .int .i64 kind, .string lang, .slice a n c] : Array Value)[i]? = some u → ((recX w id ver kind lang a n c).alloc (.cells #[.int .i64 id, .int .i64 ver, .int .i64 kind, .string lang, .slice a' n' c'] 31)).cell? ⟨w.heap.size, i, none⟩ = some u := fun i u hu => block_cells (Below.alloc (Below.refl _ _) (Nat.le_refl _) _) i u hu
  have q0 := q 0 _ rfl
  have q1 := q 1 _ rfl
  have q2 := q 2 _ rfl
  have q3 := q 3 _ rfl
  have q4 := q 4 _ rfl
  have hll : (lang.toList == lang.toList) = true := by simp
  have HC := Lib.hid hcall
  have HB := Lib.hid hbw
  clear hcall hbw hW q ha hb h0 h1 h2 h3 he hs W
  go_enter Tryd.func22, Tryd.ntmps22
  go_wp2_with fail
  refine HC.out.mono ?_
  rintro e w1 ⟨rfl, b1⟩
  have HB1 := Lib.hid (HB.out.bt b1)
  clear b1
  go_wp2
  go_ret
  exact ⟨rfl, HB1.out⟩
end Go.Proofs.YtcdlgmncalmihaaDoor
