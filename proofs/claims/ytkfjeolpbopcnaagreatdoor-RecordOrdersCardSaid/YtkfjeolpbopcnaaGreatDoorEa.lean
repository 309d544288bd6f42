/- Are lists of fields, are records equal? The walks on both sides (layer 08). The walk of slices.Clone at fields (layer 08). The walk of slices.Delete at fields (layer 08). -/
import Derived.Test.YtkfjeolpbopcnaaGreatDoorDrc
import Derived.Test.YtkfjeolpbopcnaaGreatDoorMrr
import Derived.Deep.Slices
import Derived.Laws.IdiomCopy
namespace Go.Proofs.YtkfjeolpbopcnaaGreatDoor
open Go Go.RowKit

theorem alloc_at {w : World} {O : Obj} {n : Nat} (h : n = w.heap.size) : (w.alloc O).heap[n]? = some O := by rw [h]; exact heap_alloc_new w O
theorem alloc_old {w : World} {O : Obj} {n : Nat} (h : n < w.heap.size) : (w.alloc O).heap[n]? = w.heap[n]? := Go.heap_alloc_old w O h
theorem _root_.Go.RowKit.Below.alloc2 {B : Nat} {a w : World} (h : Below B a w) (hB : B ≤ w.heap.size) (O P : Obj) : Below B a ((w.alloc O).alloc P) := (h.alloc hB O).alloc (by simp only [World.size_alloc]; omega) P
/-- Equal lists of fields; equal records. -/
def sameL (a b : List Fld) : Bool := decide (a.map coreF = b.map coreF)
def sameRB (r s : Rec) : Bool := decide (r.id = s.id) && decide (r.ver = s.ver) && decide (r.kind = s.kind) && decide (r.lang = s.lang) && sameL r.fields s.fields
theorem sameL_refl (a : List Fld) : sameL a a = true := decide_eq_true rfl
theorem sameRB_refl (r : Rec) : sameRB r r = true := by simp [sameRB, sameL]
theorem sameL_len {a b : List Fld} (h : a.length ≠ b.length) : sameL a b = false := decide_eq_false (fun e => h (by have := congrArg List.length e; simpa using this))
theorem sameL_step {a b : List Fld} {k : Nat} {f g : Fld} (hf : a[k]? = some f) (hg : b[k]? = some g) : sameL (a.drop k) (b.drop k) = (sameF f g && sameL (a.drop (k + 1)) (b.drop (k + 1))) := by
  unfold sameL
  rw [drop_step hf, drop_step hg, sameF_core, List.map_cons, List.map_cons, Bool.eq_iff_iff]
  simp
theorem sameL_done {a b : List Fld} {k : Nat} (ha : a.length ≤ k) (hb : b.length ≤ k) : sameL (a.drop k) (b.drop k) = true := by
  rw [List.drop_eq_nil_of_le ha, List.drop_eq_nil_of_le hb]
  exact sameL_refl []
set_option maxRecDepth 100000 in
set_option maxHeartbeats 4000000 in
theorem rSameFlds (va vb : Value) (la lb' : List Fld) (w : World) (ha : Flds w va la) (hb : Flds w vb lb') (hl : la.length ≤ 1000000) (hs : ∀ f ∈ la, f.subs.length ≤ 1000000) (hs' : ∀ f ∈ lb', f.subs.length ≤ 1000000) :
    Calls Tryz.prog 17 #[va, vb] w fun e w' => e = .returned (.bool (sameL la lb')) ∧ Below w.heap.size w w' := by
  have hsame : ∀ (W : World), Below w.heap.size w W → ∀ (k : Nat) (f g : Fld), la[k]? = some f → lb'[k]? = some g → Calls Tryz.prog 36 #[fldV f, fldV g] W fun e w' => e = .returned (.bool (sameF f g)) ∧ Below W.heap.size W w' := fun W hW k f g hf hg => rSame07 f g W ((ha.2 f (List.mem_of_getElem? hf)).below hW (Nat.le_refl _)) ((hb.2 g (List.mem_of_getElem? hg)).below hW (Nat.le_refl _)) (hs f (List.mem_of_getElem? hf)) (hs' g (List.mem_of_getElem? hg))
  obtain ⟨R, hR⟩ : ∃ R, R = sameL la lb' := ⟨_, rfl⟩
  rw [← hR]
  obtain ⟨⟨pa, ca, rfl, hca, hcellsa⟩, -⟩ := ha
  obtain ⟨⟨pb, cb, rfl, hcb, hcellsb⟩, -⟩ := hb
  obtain ⟨n, hnn⟩ : ∃ n, n = la.length := ⟨_, rfl⟩
  obtain ⟨n', hnn'⟩ : ∃ n, n = lb'.length := ⟨_, rfl⟩
  rw [← hnn] at hl hca ⊢
  rw [← hnn'] at hcb ⊢
  have HN := Lib.hid hnn
  have HN' := Lib.hid hnn'
  have HA := Lib.hid hcellsa
  have HB := Lib.hid hcellsb
  have HSM := Lib.hid hsame
  have HR := Lib.hid hR
  clear hnn hnn' hcellsa hcellsb hsame hs hR
  by_cases hlen : n = n'
  · subst hlen
    go_enter Tryz.func17, Tryz.ntmps17
    go_wp2
    go_loopw [5] (fun i wr => ∃ k : Nat, i = .int .i64 k ∧ k ≤ n ∧ Hid (R = sameL (la.drop k) (lb'.drop k)) ∧ Hid (Below w.heap.size w wr)) (fun i _ => n - (intOf i).toNat)
    case atStart => exact ⟨0, rfl, by omega, Lib.hid (by rw [HR.out, List.drop_zero, List.drop_zero]), Lib.hid (Below.refl _ _)⟩
    case round =>
      obtain ⟨k, rfl, hk, HK, HBW⟩ := hrel
      obtain ⟨wo, rfl⟩ : ∃ W, W = wr := ⟨_, rfl⟩
      by_cases hlt : k < n
      · have hltz : (k : Int) < (n : Int) := by omega
        obtain ⟨f, hf⟩ : ∃ x, la[k]? = some x := ⟨_, List.getElem?_eq_getElem (by have := HN.out; omega)⟩
        obtain ⟨g, hg⟩ : ∃ x, lb'[k]? = some x := ⟨_, List.getElem?_eq_getElem (by have := HN'.out; omega)⟩
        rcases HA.out with h0 | ⟨b, o, rfl, hb1, hcells1⟩
        · rw [h0] at hf; cases hf
        rcases HB.out with h0 | ⟨b', o', rfl, hb2, hcells2⟩
        · rw [h0] at hg; cases hg
        have hst := HK.out
        rw [sameL_step hf hg] at hst
        have h4 := four_of (hcells1 k f hf)
        have h5 := four_of (hcells2 k g hg)
        have hcall := fun W (h : Below wo.heap.size wo W) => HSM.out W (HBW.out.bt h) k f g hf hg
        obtain ⟨G, hG⟩ : ∃ G, G = sameF f g := ⟨_, rfl⟩
        obtain ⟨T, hT⟩ : ∃ T, T = lb f.tag := ⟨_, rfl⟩
        obtain ⟨I, hI⟩ : ∃ I, I = lb f.ind := ⟨_, rfl⟩
        obtain ⟨sn, hsn⟩ : ∃ sn, sn = f.subs.length := ⟨_, rfl⟩
        obtain ⟨T', hT'⟩ : ∃ T, T = lb g.tag := ⟨_, rfl⟩
        obtain ⟨I', hI'⟩ : ∃ I, I = lb g.ind := ⟨_, rfl⟩
        obtain ⟨sn', hsn'⟩ : ∃ sn, sn = g.subs.length := ⟨_, rfl⟩
        rw [← hG] at hst
        simp only [fldV, ← hG, ← hT, ← hI, ← hsn, ← hT', ← hI', ← hsn'] at hcall
        have hcx : ∀ W, Below wo.heap.size wo W → W.cell? ⟨b, o + k * 4, none⟩ = some (.string T) ∧ W.cell? ⟨b, o + k * 4 + 1, none⟩ = some (.string I) ∧ W.cell? ⟨b, o + k * 4 + 2, none⟩ = some (.slice f.sa sn f.sc) ∧ W.cell? ⟨b, o + k * 4 + 3, none⟩ = some (.int .i64 f.auth) := fun W h => by
          obtain ⟨h0, h1, h2, h3⟩ := h4.below (HBW.out.bt h) hb1
          rw [hT, hI, hsn]
          exact ⟨h0, h1, h2, h3⟩
        have hcy : ∀ W, Below wo.heap.size wo W → W.cell? ⟨b', o' + k * 4, none⟩ = some (.string T') ∧ W.cell? ⟨b', o' + k * 4 + 1, none⟩ = some (.string I') ∧ W.cell? ⟨b', o' + k * 4 + 2, none⟩ = some (.slice g.sa sn' g.sc) ∧ W.cell? ⟨b', o' + k * 4 + 3, none⟩ = some (.int .i64 g.auth) := fun W h => by
          obtain ⟨h0, h1, h2, h3⟩ := h5.below (HBW.out.bt h) hb2
          rw [hT', hI', hsn']
          exact ⟨h0, h1, h2, h3⟩
        have HC := Lib.hid hcall
        have HX := Lib.hid hcx
        have HY := Lib.hid hcy
        have HST := Lib.hid hst
        clear hcells1 hcells2 hf hg hcall hT hI hsn hT' hI' hsn' hG hst h4 h5 hcx hcy HK
        go_wp2_with fail
        obtain ⟨C, hC⟩ : ∃ C : World → Prop, C = fun w' => Below wo.heap.size wo w' := ⟨_, rfl⟩
        have hCB : ∀ w', C w' → Below wo.heap.size wo w' := fun w' h => by rw [hC] at h; exact h
        have hC0 : C { wo with drawn := wo.drawn + 1 } := by rw [hC]; exact (Below.refl _ _).drew
        have hstep : ∀ w' w'', C w' → Below w'.heap.size w' w'' → C w'' := fun w' w'' h k => by rw [hC] at h ⊢; exact h.trans (k.mono h.size)
        have hcells : ∀ w', C w' → w'.cell? ⟨b, o + k * 4, none⟩ = some (.string T) ∧ w'.cell? ⟨b, o + k * 4 + 1, none⟩ = some (.string I) ∧ w'.cell? ⟨b, o + k * 4 + 2, none⟩ = some (.slice f.sa sn f.sc) ∧ w'.cell? ⟨b, o + k * 4 + 3, none⟩ = some (.int .i64 f.auth) ∧ w'.cell? ⟨b', o' + k * 4, none⟩ = some (.string T') ∧ w'.cell? ⟨b', o' + k * 4 + 1, none⟩ = some (.string I') ∧ w'.cell? ⟨b', o' + k * 4 + 2, none⟩ = some (.slice g.sa sn' g.sc) ∧ w'.cell? ⟨b', o' + k * 4 + 3, none⟩ = some (.int .i64 g.auth) := fun w' h => ⟨(HX.out w' (hCB w' h)).1, (HX.out w' (hCB w' h)).2.1, (HX.out w' (hCB w' h)).2.2.1, (HX.out w' (hCB w' h)).2.2.2, (HY.out w' (hCB w' h)).1, (HY.out w' (hCB w' h)).2.1, (HY.out w' (hCB w' h)).2.2.1, (HY.out w' (hCB w' h)).2.2.2⟩
        clear hC
        refine wp_region_quiet (C := C) (by kernel_rfl) (by kernel_rfl) hC0 ?_
        show wpQuiet _ _ _ _ [_, _, _, _, _, _, _, _, _, _] _
        repeat
          with_reducible refine wpQuiet_step (fun K hK => ?_)
          go_simp
          first
            | (with_reducible refine hK _ ?_; clear hK K)
            | (apply Exists.intro
               with_reducible refine ⟨fun w' hw' => ?_, hK _ ?_⟩
               · first
                 | with_reducible rfl
                 | (obtain ⟨q0, q1, q2, q3, q4, q5, q6, q7⟩ := hcells w' hw'; go_simp; with_reducible rfl)
                 | ((first
                     | with_reducible refine (HC.out w' (hCB w' hw')).mono ?_)
                    exact fun e w'' ⟨he, hb⟩ => ⟨he, hstep w' w'' hw' hb⟩)
               clear hK K)
        refine wpQuiet_nil ?_
        intro w2 hw2
        have HB3 := Lib.hid (HBW.out.bt (hCB w2 hw2))
        clear hcells hCB hstep hw2
        cases G with
        | false =>
          have HF : Hid (R = false) := Lib.hid (by rw [HST.out]; rfl)
          clear HST
          go_wp2
          go_ret
          exact ⟨by rw [HF.out]; rfl, HB3.out⟩
        | true =>
          have HF : Hid (R = sameL (la.drop (k + 1)) (lb'.drop (k + 1))) := Lib.hid (by rw [HST.out]; rfl)
          clear HST
          go_wp2
          go_roundw
          case rel => exact ⟨k + 1, by go_num, by omega, HF, HB3⟩
          case measure => simp [intOf]; omega
      · have hltz : ¬ (k : Int) < (n : Int) := by omega
        have HF : Hid (R = true) := Lib.hid (by rw [HK.out]; exact sameL_done (by have := HN.out; omega) (by have := HN'.out; omega))
        clear HK
        go_wp2
        go_ret
        exact ⟨by rw [HF.out]; rfl, HBW.out⟩
  · have hz : ((n : Int) == (n' : Int)) = false := by rw [beq_eq_false_iff_ne]; omega
    have hz2 : (n == n') = false := by rw [beq_eq_false_iff_ne]; exact hlen
    have HF : Hid (R = false) := Lib.hid (by rw [HR.out]; exact sameL_len (by have := HN.out; have := HN'.out; omega))
    go_enter Tryz.func17, Tryz.ntmps17
    go_wp2
    go_ret
    exact ⟨by rw [HF.out]; rfl, Below.refl _ _⟩
set_option maxRecDepth 100000 in
set_option maxHeartbeats 4000000 in
theorem pEqualFlds (va vb : Value) (la lb' : List Fld) (w : World) (ha : Flds w va la) (hb : Flds w vb lb') (hl : la.length ≤ 1000000) (hs : ∀ f ∈ la, f.subs.length ≤ 1000000) :
    Calls Tryz.prog 41 #[va, vb, .func (.func 42) #[] #[]] w fun e w' => e = .returned (.bool (sameL la lb')) ∧ Below w.heap.size w w' := by
  have hsame : ∀ (W : World), Below w.heap.size w W → ∀ (k : Nat) (f g : Fld), la[k]? = some f → lb'[k]? = some g → Calls Tryz.prog 42 #[fldV f, fldV g] W fun e w' => e = .returned (.bool (sameF f g)) ∧ Below W.heap.size W w' := fun W hW k f g hf hg => pSame07 f g W ((ha.2 f (List.mem_of_getElem? hf)).below hW (Nat.le_refl _)) ((hb.2 g (List.mem_of_getElem? hg)).below hW (Nat.le_refl _)) (hs f (List.mem_of_getElem? hf))
  obtain ⟨R, hR⟩ : ∃ R, R = sameL la lb' := ⟨_, rfl⟩
  rw [← hR]
  obtain ⟨⟨pa, ca, rfl, hca, hcellsa⟩, -⟩ := ha
  obtain ⟨⟨pb, cb, rfl, hcb, hcellsb⟩, -⟩ := hb
  obtain ⟨n, hnn⟩ : ∃ n, n = la.length := ⟨_, rfl⟩
  obtain ⟨n', hnn'⟩ : ∃ n, n = lb'.length := ⟨_, rfl⟩
  rw [← hnn] at hl hca ⊢
  rw [← hnn'] at hcb ⊢
  have HN := Lib.hid hnn
  have HN' := Lib.hid hnn'
  have HA := Lib.hid hcellsa
  have HB := Lib.hid hcellsb
  have HSM := Lib.hid hsame
  have HR := Lib.hid hR
  clear hnn hnn' hcellsa hcellsb hsame hs hR
  by_cases hlen : n = n'
  · subst hlen
    go_enter Tryz.func41, Tryz.ntmps41
    go_wp2
    go_loopw [17] (fun i wr => ∃ k : Nat, i = .int .i64 k ∧ k ≤ n ∧ Hid (R = sameL (la.drop k) (lb'.drop k)) ∧ Hid (Below w.heap.size w wr)) (fun i _ => n - (intOf i).toNat)
    case atStart => exact ⟨0, rfl, by omega, Lib.hid (by rw [HR.out, List.drop_zero, List.drop_zero]), Lib.hid (Below.refl _ _)⟩
    case round =>
      obtain ⟨k, rfl, hk, HK, HBW⟩ := hrel
      obtain ⟨wo, rfl⟩ : ∃ W, W = wr := ⟨_, rfl⟩
      by_cases hlt : k < n
      · have hltz : (k : Int) < (n : Int) := by omega
        obtain ⟨f, hf⟩ : ∃ x, la[k]? = some x := ⟨_, List.getElem?_eq_getElem (by have := HN.out; omega)⟩
        obtain ⟨g, hg⟩ : ∃ x, lb'[k]? = some x := ⟨_, List.getElem?_eq_getElem (by have := HN'.out; omega)⟩
        rcases HA.out with h0 | ⟨b, o, rfl, hb1, hcells1⟩
        · rw [h0] at hf; cases hf
        rcases HB.out with h0 | ⟨b', o', rfl, hb2, hcells2⟩
        · rw [h0] at hg; cases hg
        have hst := HK.out
        rw [sameL_step hf hg] at hst
        have h4 := four_of (hcells1 k f hf)
        have h5 := four_of (hcells2 k g hg)
        have hcall := fun W (h : Below wo.heap.size wo W) => HSM.out W (HBW.out.bt h) k f g hf hg
        obtain ⟨G, hG⟩ : ∃ G, G = sameF f g := ⟨_, rfl⟩
        obtain ⟨T, hT⟩ : ∃ T, T = lb f.tag := ⟨_, rfl⟩
        obtain ⟨I, hI⟩ : ∃ I, I = lb f.ind := ⟨_, rfl⟩
        obtain ⟨sn, hsn⟩ : ∃ sn, sn = f.subs.length := ⟨_, rfl⟩
        obtain ⟨T', hT'⟩ : ∃ T, T = lb g.tag := ⟨_, rfl⟩
        obtain ⟨I', hI'⟩ : ∃ I, I = lb g.ind := ⟨_, rfl⟩
        obtain ⟨sn', hsn'⟩ : ∃ sn, sn = g.subs.length := ⟨_, rfl⟩
        rw [← hG] at hst
        simp only [fldV, ← hG, ← hT, ← hI, ← hsn, ← hT', ← hI', ← hsn'] at hcall
        have hcx : ∀ W, Below wo.heap.size wo W → W.cell? ⟨b, o + k * 4, none⟩ = some (.string T) ∧ W.cell? ⟨b, o + k * 4 + 1, none⟩ = some (.string I) ∧ W.cell? ⟨b, o + k * 4 + 2, none⟩ = some (.slice f.sa sn f.sc) ∧ W.cell? ⟨b, o + k * 4 + 3, none⟩ = some (.int .i64 f.auth) := fun W h => by
          obtain ⟨h0, h1, h2, h3⟩ := h4.below (HBW.out.bt h) hb1
          rw [hT, hI, hsn]
          exact ⟨h0, h1, h2, h3⟩
        have hcy : ∀ W, Below wo.heap.size wo W → W.cell? ⟨b', o' + k * 4, none⟩ = some (.string T') ∧ W.cell? ⟨b', o' + k * 4 + 1, none⟩ = some (.string I') ∧ W.cell? ⟨b', o' + k * 4 + 2, none⟩ = some (.slice g.sa sn' g.sc) ∧ W.cell? ⟨b', o' + k * 4 + 3, none⟩ = some (.int .i64 g.auth) := fun W h => by
          obtain ⟨h0, h1, h2, h3⟩ := h5.below (HBW.out.bt h) hb2
          rw [hT', hI', hsn']
          exact ⟨h0, h1, h2, h3⟩
        have HC := Lib.hid hcall
        have HX := Lib.hid hcx
        have HY := Lib.hid hcy
        have HST := Lib.hid hst
        clear hcells1 hcells2 hf hg hcall hT hI hsn hT' hI' hsn' hG hst h4 h5 hcx hcy HK
        obtain ⟨q0, q1, q2, q3⟩ := HX.out wo (Below.refl _ _)
        have hba : Below wo.heap.size wo (wo.alloc (.cells #[.string T, .string I, .slice f.sa sn f.sc, .int .i64 f.auth] 35)) := (Below.refl _ _).alloc (Nat.le_refl _) _
        obtain ⟨r0, r1, r2, r3⟩ := HY.out _ hba
        have hbb : Below wo.heap.size wo ((wo.alloc (.cells #[.string T, .string I, .slice f.sa sn f.sc, .int .i64 f.auth] 35)).alloc (.cells #[.string T', .string I', .slice g.sa sn' g.sc, .int .i64 g.auth] 35)) := (Below.refl _ _).alloc2 (Nat.le_refl _) _ _
        have k0 : ∀ j, ((wo.alloc (.cells #[.string T, .string I, .slice f.sa sn f.sc, .int .i64 f.auth] 35)).alloc (.cells #[.string T', .string I', .slice g.sa sn' g.sc, .int .i64 g.auth] 35)).cell? ⟨wo.heap.size, j, none⟩ = (#[.string T, .string I, .slice f.sa sn f.sc, .int .i64 f.auth] : Array Value)[j]? := fun j => Lib.cell_of_heap ((alloc_old (by simp)).trans (alloc_at rfl)) j
        have s0 := k0 0
        have s1 := k0 1
        have s2 := k0 2
        have s3 := k0 3
        have HC2 := Lib.hid (HC.out _ hbb)
        have HBD := Lib.hid (HBW.out.bt hbb)
        clear hba hbb k0
        go_wp2_with fail
        refine HC2.out.mono ?_
        rintro e w3 ⟨rfl, b3⟩
        have HB3 := Lib.hid (HBD.out.bt b3)
        clear b3
        cases G with
        | false =>
          have HF : Hid (R = false) := Lib.hid (by rw [HST.out]; rfl)
          clear HST
          go_wp2
          go_ret
          exact ⟨by rw [HF.out]; rfl, HB3.out⟩
        | true =>
          have HF : Hid (R = sameL (la.drop (k + 1)) (lb'.drop (k + 1))) := Lib.hid (by rw [HST.out]; rfl)
          clear HST
          go_wp2
          go_roundw
          case rel => exact ⟨k + 1, by go_num, by omega, HF, HB3⟩
          case measure => simp [intOf]; omega
      · have hltz : ¬ (k : Int) < (n : Int) := by omega
        have HF : Hid (R = true) := Lib.hid (by rw [HK.out]; exact sameL_done (by have := HN.out; omega) (by have := HN'.out; omega))
        clear HK
        go_wp2
        go_ret
        exact ⟨by rw [HF.out]; rfl, HBW.out⟩
  · have hz : ((n : Int) == (n' : Int)) = false := by rw [beq_eq_false_iff_ne]; omega
    have hz2 : (n == n') = false := by rw [beq_eq_false_iff_ne]; exact hlen
    have HF : Hid (R = false) := Lib.hid (by rw [HR.out]; exact sameL_len (by have := HN.out; have := HN'.out; omega))
    go_enter Tryz.func41, Tryz.ntmps41
    go_wp2
    go_ret
    exact ⟨by rw [HF.out]; rfl, Below.refl _ _⟩
set_option maxRecDepth 100000 in
set_option maxHeartbeats 4000000 in
theorem rSameRec (r s : Rec) (a a' : Option Addr) (n c n' c' : Nat) (w : World) (ha : Flds w (.slice a n c) r.fields) (hb : Flds w (.slice a' n' c') s.fields) (hl : r.fields.length ≤ 1000000) (hs : ∀ f ∈ r.fields, f.subs.length ≤ 1000000) (hs' : ∀ f ∈ s.fields, f.subs.length ≤ 1000000) :
    Calls Tryz.prog 15 #[.agg #[.int .i64 r.id, .int .i64 r.ver, .int .i64 r.kind, .string r.lang, .slice a n c], .agg #[.int .i64 s.id, .int .i64 s.ver, .int .i64 s.kind, .string s.lang, .slice a' n' c']] w fun e w' => e = .returned (.bool (sameRB r s)) ∧ Below w.heap.size w w' := by
  obtain ⟨W, hW⟩ : ∃ W, W = (recX w r.id r.ver r.kind r.lang a n c).alloc (.cells #[.int .i64 s.id, .int .i64 s.ver, .int .i64 s.kind, .string s.lang, .slice a' n' c'] 24) := ⟨_, rfl⟩
  have hbw : Below w.heap.size w W := by rw [hW]; exact ((Below.refl _ _).alloc (Nat.le_refl _) _).alloc (by simp) _
  have hcall := rSameFlds (.slice a n c) (.slice a' n' c') r.fields s.fields W (ha.below hbw (Nat.le_refl _)) (hb.below hbw (Nat.le_refl _)) hl hs hs'
  obtain ⟨R, hR⟩ : ∃ R, R = sameRB r s := ⟨_, rfl⟩
  rw [← hR]
  unfold sameRB at hR
  obtain ⟨L, hL⟩ : ∃ L, L = sameL r.fields s.fields := ⟨_, rfl⟩
  rw [← hL] at hR hcall
  obtain ⟨id, ver, kind, lang, l⟩ := r
  obtain ⟨id2, ver2, kind2, lang2, l2⟩ := s
  simp only at hW hcall hR ⊢
  rw [hW] at hcall hbw
  have q : ∀ i u, (#[.int .i64 id, .int .i64 ver, .int .i64 kind, .string lang, .slice a n c] : Array Value)[i]? = some u → ((recX w id ver kind lang a n c).alloc (.cells #[.int .i64 id2, .int .i64 ver2, .int .i64 kind2, .string lang2, .slice a' n' c'] 24)).cell? ⟨w.heap.size, i, none⟩ = some u := fun i u hu => block_cells (Below.alloc (Below.refl _ _) (Nat.le_refl _) _) i u hu
  have q0 := q 0 _ rfl
  have q1 := q 1 _ rfl
  have q2 := q 2 _ rfl
  have q3 := q 3 _ rfl
  have q4 := q 4 _ rfl
  have HC := Lib.hid hcall
  have HB := Lib.hid hbw
  clear hcall hbw hW q ha hb hs hL W hl hs'
  by_cases z0 : id = id2
  case neg =>
    have z0b : (id == id2) = false := by simpa using z0
    have z0c : (id != id2) = true := by simpa using z0
    rw [decide_eq_false z0] at hR
    have HR : Hid (R = false) := Lib.hid (by rw [hR]; simp)
    clear hR z0
    go_enter Tryz.func15, Tryz.ntmps15
    go_wp2
    go_ret
    exact ⟨by rw [HR.out]; rfl, HB.out⟩
  subst z0
  rw [decide_eq_true rfl] at hR
  by_cases z1 : ver = ver2
  case neg =>
    have z1b : (ver == ver2) = false := by simpa using z1
    have z1c : (ver != ver2) = true := by simpa using z1
    rw [decide_eq_false z1] at hR
    have HR : Hid (R = false) := Lib.hid (by rw [hR]; simp)
    clear hR z1
    go_enter Tryz.func15, Tryz.ntmps15
    go_wp2
    go_ret
    exact ⟨by rw [HR.out]; rfl, HB.out⟩
  subst z1
  rw [decide_eq_true rfl] at hR
  by_cases z2 : kind = kind2
  case neg =>
    have z2b : (kind == kind2) = false := by simpa using z2
    have z2c : (kind != kind2) = true := by simpa using z2
    rw [decide_eq_false z2] at hR
    have HR : Hid (R = false) := Lib.hid (by rw [hR]; simp)
    clear hR z2
    go_enter Tryz.func15, Tryz.ntmps15
    go_wp2
    go_ret
    exact ⟨by rw [HR.out]; rfl, HB.out⟩
  subst z2
  rw [decide_eq_true rfl] at hR
  by_cases z3 : lang = lang2
  case neg =>
    have z3b : (lang.toList == lang2.toList) = false := by rw [bytes_deq]; exact decide_eq_false z3
    have z3c : (lang.toList != lang2.toList) = true := by unfold bne; rw [z3b]; rfl
    rw [decide_eq_false z3] at hR
    have HR : Hid (R = false) := Lib.hid (by rw [hR]; simp)
    clear hR z3
    go_enter Tryz.func15, Tryz.ntmps15
    go_wp2
    go_ret
    exact ⟨by rw [HR.out]; rfl, HB.out⟩
  subst z3
  rw [decide_eq_true rfl] at hR
  have HR : Hid (R = L) := Lib.hid (by rw [hR]; simp)
  have hll : (lang.toList == lang.toList) = true := by simp
  clear hR
  go_enter Tryz.func15, Tryz.ntmps15
  go_wp2_with fail
  refine HC.out.mono ?_
  rintro e w1 ⟨rfl, b1⟩
  have HB1 := Lib.hid (HB.out.bt b1)
  clear b1
  go_wp2
  go_ret
  exact ⟨by rw [HR.out]; rfl, HB1.out⟩
set_option maxRecDepth 100000 in
set_option maxHeartbeats 4000000 in
theorem pSameRec (r s : Rec) (a a' : Option Addr) (n c n' c' : Nat) (w : World) (ha : Flds w (.slice a n c) r.fields) (hb : Flds w (.slice a' n' c') s.fields) (hl : r.fields.length ≤ 1000000) (hs : ∀ f ∈ r.fields, f.subs.length ≤ 1000000) :
    Calls Tryz.prog 14 #[.agg #[.int .i64 r.id, .int .i64 r.ver, .int .i64 r.kind, .string r.lang, .slice a n c], .agg #[.int .i64 s.id, .int .i64 s.ver, .int .i64 s.kind, .string s.lang, .slice a' n' c']] w fun e w' => e = .returned (.bool (sameRB r s)) ∧ Below w.heap.size w w' := by
  obtain ⟨W, hW⟩ : ∃ W, W = (recX w r.id r.ver r.kind r.lang a n c).alloc (.cells #[.int .i64 s.id, .int .i64 s.ver, .int .i64 s.kind, .string s.lang, .slice a' n' c'] 24) := ⟨_, rfl⟩
  have hbw : Below w.heap.size w W := by rw [hW]; exact ((Below.refl _ _).alloc (Nat.le_refl _) _).alloc (by simp) _
  have hcall := pEqualFlds (.slice a n c) (.slice a' n' c') r.fields s.fields W (ha.below hbw (Nat.le_refl _)) (hb.below hbw (Nat.le_refl _)) hl hs
  obtain ⟨R, hR⟩ : ∃ R, R = sameRB r s := ⟨_, rfl⟩
  rw [← hR]
  unfold sameRB at hR
  obtain ⟨L, hL⟩ : ∃ L, L = sameL r.fields s.fields := ⟨_, rfl⟩
  rw [← hL] at hR hcall
  obtain ⟨id, ver, kind, lang, l⟩ := r
  obtain ⟨id2, ver2, kind2, lang2, l2⟩ := s
  simp only at hW hcall hR ⊢
  rw [hW] at hcall hbw
  have q : ∀ i u, (#[.int .i64 id, .int .i64 ver, .int .i64 kind, .string lang, .slice a n c] : Array Value)[i]? = some u → ((recX w id ver kind lang a n c).alloc (.cells #[.int .i64 id2, .int .i64 ver2, .int .i64 kind2, .string lang2, .slice a' n' c'] 24)).cell? ⟨w.heap.size, i, none⟩ = some u := fun i u hu => block_cells (Below.alloc (Below.refl _ _) (Nat.le_refl _) _) i u hu
  have q0 := q 0 _ rfl
  have q1 := q 1 _ rfl
  have q2 := q 2 _ rfl
  have q3 := q 3 _ rfl
  have q4 := q 4 _ rfl
  have HC := Lib.hid hcall
  have HB := Lib.hid hbw
  clear hcall hbw hW q ha hb hs hL W hl
  by_cases z0 : id = id2
  case neg =>
    have z0b : (id == id2) = false := by simpa using z0
    have z0c : (id != id2) = true := by simpa using z0
    rw [decide_eq_false z0] at hR
    have HR : Hid (R = false) := Lib.hid (by rw [hR]; simp)
    clear hR z0
    go_enter Tryz.func14, Tryz.ntmps14
    go_wp2
    go_ret
    exact ⟨by rw [HR.out]; rfl, HB.out⟩
  subst z0
  rw [decide_eq_true rfl] at hR
  by_cases z1 : ver = ver2
  case neg =>
    have z1b : (ver == ver2) = false := by simpa using z1
    have z1c : (ver != ver2) = true := by simpa using z1
    rw [decide_eq_false z1] at hR
    have HR : Hid (R = false) := Lib.hid (by rw [hR]; simp)
    clear hR z1
    go_enter Tryz.func14, Tryz.ntmps14
    go_wp2
    go_ret
    exact ⟨by rw [HR.out]; rfl, HB.out⟩
  subst z1
  rw [decide_eq_true rfl] at hR
  by_cases z2 : kind = kind2
  case neg =>
    have z2b : (kind == kind2) = false := by simpa using z2
    have z2c : (kind != kind2) = true := by simpa using z2
    rw [decide_eq_false z2] at hR
    have HR : Hid (R = false) := Lib.hid (by rw [hR]; simp)
    clear hR z2
    go_enter Tryz.func14, Tryz.ntmps14
    go_wp2
    go_ret
    exact ⟨by rw [HR.out]; rfl, HB.out⟩
  subst z2
  rw [decide_eq_true rfl] at hR
  by_cases z3 : lang = lang2
  case neg =>
    have z3b : (lang.toList == lang2.toList) = false := by rw [bytes_deq]; exact decide_eq_false z3
    have z3c : (lang.toList != lang2.toList) = true := by unfold bne; rw [z3b]; rfl
    rw [decide_eq_false z3] at hR
    have HR : Hid (R = false) := Lib.hid (by rw [hR]; simp)
    clear hR z3
    go_enter Tryz.func14, Tryz.ntmps14
    go_wp2
    go_ret
    exact ⟨by rw [HR.out]; rfl, HB.out⟩
  subst z3
  rw [decide_eq_true rfl] at hR
  have HR : Hid (R = L) := Lib.hid (by rw [hR]; simp)
  have hll : (lang.toList == lang.toList) = true := by simp
  clear hR
  go_enter Tryz.func14, Tryz.ntmps14
  go_wp2_with fail
  refine HC.out.mono ?_
  rintro e w1 ⟨rfl, b1⟩
  have HB1 := Lib.hid (HB.out.bt b1)
  clear b1
  go_wp2
  go_ret
  exact ⟨by rw [HR.out]; rfl, HB1.out⟩
end Go.Proofs.YtkfjeolpbopcnaaGreatDoor
namespace Go.Proofs.YtkfjeolpbopcnaaGreatDoor
open Go Go.RowKit

theorem lt_cell {w : World} {b i : Nat} {v : Value} (h : w.cell? ⟨b, i, none⟩ = some v) : b < w.heap.size := World.block_lt_of_cell? w ⟨b, i, none⟩ h
theorem any_step {α : Type} {l : List α} {k : Nat} {x : α} {q : α → Bool} (h : l[k]? = some x) : (l.drop k).any q = (q x || (l.drop (k + 1)).any q) := by
  rw [drop_step h, List.any_cons]

set_option maxRecDepth 100000 in
set_option maxHeartbeats 2000000 in
theorem pClone (vf : Value) (l : List Fld) (w : World) (hv : Flds w vf l) (hl : l.length ≤ 100000) :
    Calls Tryz.prog 46 #[vf] w fun e w' => ∃ v, e = .returned v ∧ OwnF w' w.heap.size v l ∧ Below w.heap.size w w' := by
  have q := fun (w : World) (a : Option Addr) (n c n' c' : Nat) => Lib.run_eql_slice_nil (P := Tryz.prog) w 22 35 a n c n' c' Tryz.underlying22
  obtain ⟨⟨a, c, rfl, hc, hcells⟩, -⟩ := hv
  cases a with
  | none =>
    have hnil : l = [] := by
      rcases hcells with h | ⟨b, o, h, -⟩
      · exact h
      · cases h
    subst hnil
    go_enter Tryz.func46, Tryz.ntmps46
    go_wp2
    go_ret
    exact ⟨_, rfl, OwnE.nil _ _ _ _, Below.refl _ _⟩
  | some ad =>
    have hnews : ∀ j u, (flatE fldE l)[j]? = some u → (w.alloc (.cells #[] 35)).cell? (ad.add j) = some u := fun j u hj => Lib.cell?_alloc_some _ (Rows.cells fldE_len (by decide) (⟨_, c, rfl, hc, hcells⟩ : Rows fldE 4 w (.slice (some ad) l.length c) l) j u hj)
    obtain ⟨n, hnn⟩ : ∃ n, n = l.length := ⟨_, rfl⟩
    have HNW := Lib.hid hnews
    have HN := Lib.hid hnn
    rw [← hnn] at hc hl ⊢
    have HO : Hid (OwnF (w.alloc (.cells #[] 35)) w.heap.size (.slice (some ⟨w.heap.size, 0, none⟩) 0 0) []) := Lib.hid (OwnE.made fldE _ w _ _ rfl (Nat.le_refl _))
    clear hnews hnn hcells
    go_enter Tryz.func46, Tryz.ntmps46
    go_wp2_with (at_builtin; refine append_fldsE rfl _ _ rfl w.heap.size (.slice (some ⟨w.heap.size, 0, none⟩) 0 0) [] rfl HO.out ad n c l rfl HN.out (.inr (by intro e; cases e)) HNW.out (by simp only [List.length_nil]; omega) (by simp) ?_)
    intro v' w1 hown hg hb
    have HO1 : Hid (OwnF w1 w.heap.size v' l) := Lib.hid hown
    have HB1 : Hid (Below w.heap.size w w1) := Lib.hid (((Below.refl _ w).alloc (Nat.le_refl _) _).trans hb)
    clear hown hg hb
    go_wp2
    go_ret
    exact ⟨v', rfl, HO1.out, HB1.out⟩
end Go.Proofs.YtkfjeolpbopcnaaGreatDoor
namespace Go.Proofs.YtkfjeolpbopcnaaGreatDoor
open Go Go.RowKit

theorem below_setCells {B : Nat} {a : World} {b : Nat} (hb : B ≤ b) : ∀ (vs : List Value) (o : Nat) (w : World), Below B a w → Below B a (w.setCells b o vs)
  | [], _, _, h => h
  | v :: r, o, w, h => by
    rw [World.setCells]
    exact below_setCells hb r (o + 1) _ (h.setCell (p := ⟨b, o, none⟩) hb v)
theorem size_setCells (b : Nat) : ∀ (vs : List Value) (o : Nat) (w : World), (w.setCells b o vs).heap.size = w.heap.size
  | [], _, _ => rfl
  | v :: r, o, w => by rw [World.setCells, size_setCells b r, World.size_setCell]
theorem some_setCells (b : Nat) (vs : List Value) (o : Nat) (w : World) (h : ∀ j, j < vs.length → (w.cell? ⟨b, o + j, none⟩).isSome = true) (k : Nat) (hk : (w.cell? ⟨b, k, none⟩).isSome = true) : ((w.setCells b o vs).cell? ⟨b, k, none⟩).isSome = true := by
  by_cases hin : o ≤ k ∧ k < o + vs.length
  · have := World.cell?_setCells_in b vs o w h (k - o) (by omega)
    rw [show o + (k - o) = k by omega] at this
    rw [this]; rfl
  · rw [World.cell?_setCells_out b vs o w ⟨b, k, none⟩ (fun _ _ => by show k < o ∨ o + vs.length ≤ k; omega)]
    exact hk
section
variable {P : Program}
/-- clear at a slice with one element of several cells. -/
theorem run_clear_one (w : World) (t e ty : TypeId) (z : Value) (zs : List Value) (ht : P.underlying t = some (.slice e)) (hv : ∀ w, (zeroValue e).run P w = .ok z w) (hz : (Builtin.zeroCells z.cells 1).toList = zs) (h1 : ∀ u ∈ zs, u.oneCell' = true) (b o n c : Nat) (hn : n = 1)
    (hc : ∀ j, j < zs.length → (w.cell? ⟨b, o + j, none⟩).isSome = true) (hf : ∀ j, j < zs.length → w.frozen? ⟨b, o + j, none⟩ = false) :
    (Builtin.clear_ #[t] ty #[.slice (some ⟨b, o, none⟩) n c]).run P w = .ok (.tuple #[]) (w.setCells b o zs) := by
  subst hn
  have hst := run_storeCells_cells (P := P) b o zs 0 w (by simpa using hc) (by simpa using hf) h1
  simp only [Nat.add_zero] at hst
  simp [Builtin.clear_, run_underlying ht, hv, hz, hst]
end
/-- The zero field. -/
def zfld : Fld := ⟨[], [], [], 0, none, 0⟩
theorem zfld_cells : (Builtin.zeroCells (Value.agg #[.string ⟨#[]⟩, .string ⟨#[]⟩, .slice none 0 0, .int .i64 0]).cells 1).toList = fldE zfld := by kernel_rfl
theorem setCells_block (g : Nat) : ∀ (vs : List Value) (o : Nat) (w : World) (cur : Array Value) (T : TypeId), w.heap[g]? = some (.cells cur T (0, 0)) → ∃ cur', (w.setCells g o vs).heap[g]? = some (.cells cur' T (0, 0)) ∧ cur'.size = cur.size
  | [], _, _, cur, _, h => ⟨cur, h, rfl⟩
  | v :: r, o, w, cur, T, h => by
    obtain ⟨cur', h1, h2⟩ := setCells_block g r (o + 1) (w.setCell ⟨g, o, none⟩ v) _ T (heap_setCell_same w g o cur T v h)
    exact ⟨cur', by rw [World.setCells]; exact h1, by rw [h2, Array.size_setIfInBounds]⟩
theorem own_mk {w : World} {base g n cap : Nat} {T : TypeId} {cur : Array Value} {xs : List Value} (hl : xs.length = n * 4) (hb : base ≤ g) (hh : w.heap[g]? = some (.cells cur T (0, 0))) (hn : n ≤ cap) (hm : cap ≤ maxLen) (hs : cur.size = cap * 4)
    (h : ∀ t u, xs[t]? = some u → w.cell? ⟨g, t, none⟩ = some u) : w.ownsRow base T 4 (.slice (some ⟨g, 0, none⟩) n cap) n xs := by
  refine ⟨hl, .inr ⟨g, cap, cur, rfl, hb, hh, hn, hm, hs, ?_⟩⟩
  apply List.ext_getElem?
  intro t
  by_cases ht : t < n * 4
  · have hu := List.getElem?_eq_getElem (l := xs) (i := t) (by omega)
    have := h t _ hu
    rw [Lib.cell_of_heap hh] at this
    rw [hu, List.getElem?_take_of_lt ht, Array.getElem?_toList, this]
  · rw [List.getElem?_eq_none (by rw [List.length_take]; omega), List.getElem?_eq_none (by omega)]

set_option maxRecDepth 100000 in
set_option maxHeartbeats 1000000 in
theorem pDelete {w : World} {base n : Nat} {g cap : Nat} {l : List Fld} (h : w.ownsRow base 35 4 (.slice (some ⟨g, 0, none⟩) n cap) n (flatE fldE l)) (hn1 : n ≤ 1000) (i j : Nat) (hi : i < n) (hij : j = i + 1) :
    Calls Tryz.prog 48 #[.slice (some ⟨g, 0, none⟩) n cap, .int .i64 i, .int .i64 j] w fun e w' => e = .returned (.slice (some ⟨g, 0, none⟩) (n - 1) cap) ∧ w'.ownsRow base 35 4 (.slice (some ⟨g, 0, none⟩) (n - 1) cap) (n - 1) (flatE fldE (l.eraseIdx i)) ∧ ∀ B a, Below B a w → B ≤ g → Below B a w' := by
  obtain ⟨i0, hi0, hz0, hz1, hz2⟩ := info_parts infoFld
  have hij2 : j ≤ i + 1 ∧ i + 1 ≤ j := by omega
  have HIJ := Lib.hid hij
  clear hij
  have hn : n = l.length := by have := h.1; rw [flatE_len fldE_len] at this; omega
  have hp := Rows.of_own fldE_len h hn
  have hcap : n ≤ cap ∧ cap ≤ maxLen ∧ g < w.heap.size := by
    rcases h.2 with ⟨h0, -⟩ | ⟨g', cap', cur, he, hb, hh, hc, hm, -⟩
    · cases h0
    · cases he; exact ⟨hc, hm, (Array.getElem?_eq_some_iff.1 hh).1⟩
  have hfr : ∀ j, w.frozen? ⟨g, j, none⟩ = false := by
    rcases h.2 with ⟨h0, -⟩ | ⟨g', cap', cur, he, hb, hh, hc, hm, -⟩
    · cases h0
    · cases he; intro j; simp [World.frozen?, hh]
  have hcell : ∀ t u, (flatE fldE l)[t]? = some u → w.cell? ⟨g, t, none⟩ = some u := by
    intro t u ht
    have := Rows.cells fldE_len (by decide) hp t u ht
    rwa [Addr.add_lit, Nat.zero_add] at this
  have hsome : ∀ t, t < n * 4 → (w.cell? ⟨g, t, none⟩).isSome = true := by
    intro t ht
    obtain ⟨u, hu⟩ : ∃ u, (flatE fldE l)[t]? = some u := ⟨_, List.getElem?_eq_getElem (by rw [flatE_len fldE_len]; omega)⟩
    rw [hcell t u hu]; rfl
  obtain ⟨news, hnews⟩ : ∃ news, news = flatE fldE (l.drop j) := ⟨_, rfl⟩
  have hnl : news.length = (n - j) * 4 := by rw [hnews, flatE_len fldE_len, List.length_drop, hn]
  have hsplit : ∀ k, k ≤ n → flatE fldE l = flatE fldE (l.take k) ++ flatE fldE (l.drop k) := fun k _ => by rw [← flatE_append, List.take_append_drop]
  have hdrop : ∀ t, (flatE fldE (l.drop j))[t]? = (flatE fldE l)[j * 4 + t]? := by
    intro t
    rw [hsplit j (by omega), List.getElem?_append_right (by rw [flatE_len fldE_len, List.length_take]; omega), flatE_len fldE_len, List.length_take, show j * 4 + t - min j l.length * 4 = t by omega]
  obtain ⟨W1, hW1⟩ : ∃ W1, W1 = w.drew.setCells g (0 + i * 4) news := ⟨_, rfl⟩
  have hin1 : ∀ t, t < news.length → (w.drew.cell? ⟨g, 0 + i * 4 + t, none⟩).isSome = true := by
    intro t ht
    show (w.cell? _).isSome = true
    exact hsome _ (by omega)
  have hW1s : ∀ t, t < n * 4 → (W1.cell? ⟨g, t, none⟩).isSome = true := by
    intro t ht
    rw [hW1]
    exact some_setCells g news _ _ hin1 t (hsome t ht)
  have hW1f : ∀ t, W1.frozen? ⟨g, t, none⟩ = false := by
    intro t
    rw [hW1, World.frozen?_setCells]
    exact hfr t
  have hcl : ∀ ty, (Builtin.clear_ #[22] ty #[.slice (some ⟨g, (i + (n - j)) * 4, none⟩) (n - (i + (n - j))) (cap - (i + (n - j)))]).run Tryz.prog W1 = .ok (.tuple #[]) (W1.setCells g ((i + (n - j)) * 4) (fldE zfld)) := fun ty =>
    run_clear_one W1 _ _ ty _ (fldE zfld) Tryz.underlying22 Tryz.zeroValue35 zfld_cells (fldE_one _) g _ _ _ (by omega) (fun t ht => hW1s _ (by rw [fldE_len] at ht; omega)) (fun t _ => hW1f _)
  obtain ⟨W2, hW2⟩ : ∃ W2, W2 = W1.setCells g ((i + (n - j)) * 4) (fldE zfld) := ⟨_, rfl⟩
  rw [← hW2] at hcl
  obtain ⟨cur0, hb0, hk0, hs0⟩ : ∃ cur0, base ≤ g ∧ w.drew.heap[g]? = some (.cells cur0 35 (0, 0)) ∧ cur0.size = cap * 4 := by
    rcases h.2 with ⟨h0, -⟩ | ⟨g', cap', cur, he, hb, hh, hc, hm, hsz, -⟩
    · cases h0
    · cases he; exact ⟨cur, hb, hh, hsz⟩
  obtain ⟨cur1, hk1, hs1⟩ := setCells_block g news (0 + i * 4) w.drew cur0 _ hk0
  rw [← hW1] at hk1
  obtain ⟨cur2, hk2, hs2⟩ := setCells_block g (fldE zfld) ((i + (n - j)) * 4) W1 cur1 _ hk1
  rw [← hW2] at hk2
  have hblk0 : base ≤ g := hb0
  have hblk1 := hk2
  have hblk2 : cur2.size = cap * 4 := by rw [hs2, hs1, hs0]
  have hfin : W2.ownsRow base 35 4 (.slice (some ⟨g, 0, none⟩) (n - 1) cap) (n - 1) (flatE fldE (l.eraseIdx i)) ∧ ∀ B a, Below B a w → B ≤ g → Below B a W2 := by
    constructor
    · refine own_mk (by rw [flatE_len fldE_len, List.length_eraseIdx_of_lt (by omega)]; congr 1; omega) hblk0 hblk1 (by omega) hcap.2.1 hblk2 ?_
      intro t u ht
      have hlt : t < (n - 1) * 4 := by
        have := (List.getElem?_eq_some_iff.1 ht).1
        rw [flatE_len fldE_len, List.length_eraseIdx_of_lt (by omega)] at this
        omega
      rw [List.eraseIdx_eq_take_drop_succ, flatE_append] at ht
      rw [hW2, World.cell?_setCells_out _ _ _ _ _ (fun _ _ => .inl (by show t < _; omega)), hW1]
      by_cases hti : t < i * 4
      · rw [World.cell?_setCells_out _ _ _ _ _ (fun _ _ => .inl (by show t < _; omega))]
        refine hcell t u ?_
        rw [List.getElem?_append_left (by rw [flatE_len fldE_len, List.length_take]; omega)] at ht
        rw [hsplit i (by omega), List.getElem?_append_left (by rw [flatE_len fldE_len, List.length_take]; omega)]
        exact ht
      · rw [List.getElem?_append_right (by rw [flatE_len fldE_len, List.length_take]; omega), flatE_len fldE_len, List.length_take, show i + 1 = j by omega, ← hnews] at ht
        obtain ⟨hk, hu⟩ := List.getElem?_eq_some_iff.1 ht
        have := World.cell?_setCells_in g news (0 + i * 4) w.drew hin1 _ hk
        rw [show 0 + i * 4 + (t - min i l.length * 4) = t by omega, hu] at this
        exact this
    · intro B a hb hB
      rw [hW2, hW1]
      exact below_setCells hB _ _ _ (below_setCells hB _ _ _ hb.drew)
  obtain ⟨A, hA, hX⟩ : ∃ A : Addr, (if cap = j then some (⟨g, 0, none⟩ : Addr) else some ⟨g, j * 4, none⟩) = some A ∧ Hid (∀ t u, news[t]? = some u → w.drew.cell? (A.add t) = some u) := by
    by_cases h : cap = j
    · refine ⟨⟨g, 0, none⟩, by simp [h], Lib.hid fun t u hu => ?_⟩
      have := (List.getElem?_eq_some_iff.1 hu).1
      omega
    · refine ⟨⟨g, j * 4, none⟩, by simp [h], Lib.hid fun t u hu => ?_⟩
      rw [Addr.add_lit]
      show w.cell? _ = _
      rw [hnews, hdrop] at hu
      exact hcell _ u hu
  have s1 := Lib.hid hnl
  have s2 : Hid (∀ u ∈ news, u.oneCell' = true) := Lib.hid (by rw [hnews]; exact flatE_one fldE_one _)
  have s3 : Hid (∀ t, t < news.length → (w.drew.cell? ⟨g, 0 + i * 4 + t, none⟩).isSome = true ∧ w.drew.frozen? ⟨g, 0 + i * 4 + t, none⟩ = false) := Lib.hid fun t ht => ⟨hin1 t ht, hfr _⟩
  have HI := Lib.hid hi0; have HZ1 := Lib.hid hz1
  have hcapz := hcap.2.1
  have hci : i ≤ cap := by omega
  have hjn : j ≤ n := by omega
  have hijz : (i : Int) < (j : Int) := by omega
  have hne : ((i : Int) == (j : Int)) = false := by rw [beq_eq_false_iff_ne]; omega
  have hci1 : j ≤ cap := by omega
  have hcin : ¬ (cap = i + (n - j)) := by omega
  have HF := Lib.hid hfin
  have HW := Lib.hid hW1
  have hnn1 : i + (n - j) = n - 1 := by omega
  have HNN := Lib.hid hnn1
  have hin2 : i + (n - j) ≤ n := by omega
  clear hi0 hz0 hz1 hz2 hp hcell hdrop hnews hnl hfr h hn hfin hW1 hW2 hsome hsplit hin1 hW1s hW1f hnn1 hb0 hk0 hs0 hk1 hs1 hk2 hs2 hblk0 hblk1 hblk2
  go_enter Tryz.func48, Tryz.ntmps48
  go_wp2_with fail
  go_region_law (refine step_append_room rfl (.tmp 22) (.tmp 25) 22 rfl 35 i0 4 Tryz.underlying22 HI.out HZ1.out g 0 i cap (by simp [Act.eval, Act.put]) A (n - j) (cap - j) news (by simp [Act.eval, Act.put]) s1.out hX.out s2.out (by omega) s3.out ?_; rw [← HW.out])
  go_wp2
  go_ret
  refine ⟨by rw [HNN.out]; rfl, HF.out.1, HF.out.2⟩
end Go.Proofs.YtkfjeolpbopcnaaGreatDoor
