/- The walks of slices.Clone, IndexFunc and ContainsFunc at fields, of the closures of Merge, and of takes (layer 16). -/
import Derived.Test.YtcdlgmncalmihaaDoorGkp
import Derived.Deep.Slices
namespace Go.Proofs.YtcdlgmncalmihaaDoor
open Go Go.RowKit

theorem lt_cell {w : World} {b i : Nat} {v : Value} (h : w.cell? ⟨b, i, none⟩ = some v) : b < w.heap.size := World.block_lt_of_cell? w ⟨b, i, none⟩ h
theorem any_step {α : Type} {l : List α} {k : Nat} {x : α} {q : α → Bool} (h : l[k]? = some x) : (l.drop k).any q = (q x || (l.drop (k + 1)).any q) := by
  rw [drop_step h, List.any_cons]

set_option maxRecDepth 100000 in
set_option maxHeartbeats 2000000 in
theorem pClone (vf : Value) (l : List Fld) (w : World) (hv : Flds w vf l) (hl : l.length ≤ 100000) :
    Calls Tryd.prog 27 #[vf] w fun e w' => ∃ v, e = .returned v ∧ OwnF w' w.heap.size v l ∧ Below w.heap.size w w' := by
  have q := fun (w : World) (a : Option Addr) (n c n' c' : Nat) => Lib.run_eql_slice_nil (P := Tryd.prog) w 29 46 a n c n' c' Tryd.underlying29
  obtain ⟨⟨a, c, rfl, hc, hcells⟩, -⟩ := hv
  cases a with
  | none =>
    have hnil : l = [] := by
      rcases hcells with h | ⟨b, o, h, -⟩
      · exact h
      · cases h
    subst hnil
    go_enter Tryd.func27, Tryd.ntmps27
    go_wp2
    go_ret
    exact ⟨_, rfl, OwnE.nil _ _ _ _, Below.refl _ _⟩
  | some ad =>
    have hnews : ∀ j u, (flatE fldE l)[j]? = some u → (w.alloc (.cells #[] 46)).cell? (ad.add j) = some u := fun j u hj => Lib.cell?_alloc_some _ (Rows.cells fldE_len (by decide) (⟨_, c, rfl, hc, hcells⟩ : Rows fldE 4 w (.slice (some ad) l.length c) l) j u hj)
    obtain ⟨n, hnn⟩ : ∃ n, n = l.length := ⟨_, rfl⟩
    have HNW := Lib.hid hnews
    have HN := Lib.hid hnn
    rw [← hnn] at hc hl ⊢
    have HO : Hid (OwnF (w.alloc (.cells #[] 46)) w.heap.size (.slice (some ⟨w.heap.size, 0, none⟩) 0 0) []) := Lib.hid (OwnE.made fldE _ w _ _ rfl (Nat.le_refl _))
    clear hnews hnn hcells
    go_enter Tryd.func27, Tryd.ntmps27
    go_wp2_with (at_builtin; refine append_fldsE rfl _ _ rfl w.heap.size (.slice (some ⟨w.heap.size, 0, none⟩) 0 0) [] rfl HO.out ad n c l rfl HN.out (.inr (by intro e; cases e)) HNW.out (by simp only [List.length_nil]; omega) (by simp) ?_)
    intro v' w1 hown hg hb
    have HO1 : Hid (OwnF w1 w.heap.size v' l) := Lib.hid hown
    have HB1 : Hid (Below w.heap.size w w1) := Lib.hid (((Below.refl _ w).alloc (Nat.le_refl _) _).trans hb)
    clear hown hg hb
    go_wp2
    go_ret
    exact ⟨v', rfl, HO1.out, HB1.out⟩

/-- The closures: equal fields; fields of one tag. -/
def tagB (f g : Fld) : Bool := decide (g.tag = f.tag)
set_option maxRecDepth 100000 in
set_option maxHeartbeats 1000000 in
theorem cSame (f g : Fld) (cl : Nat) (w : World) (hc : Four w cl 0 f) (hcl : cl < w.heap.size) (hf : FldAt w f) (hg : FldAt w g) (hl : f.subs.length ≤ 1000000) :
    Calls Tryd.prog 30 #[fldV g, .pointer (some ⟨cl, 0, none⟩)] w fun e w' => e = .returned (.bool (sameF f g)) ∧ Below w.heap.size w w' := by
  have hb : Below w.heap.size w (fldX w (lb g.tag) (lb g.ind) g.sa g.subs.length g.sc g.auth) := (Below.refl _ _).alloc (Nat.le_refl _) _
  have hs := pSame07 f g _ (hf.below hb (Nat.le_refl _)) (hg.below hb (Nat.le_refl _)) hl
  obtain ⟨q0, q1, q2, q3⟩ := hc.below hb hcl
  unfold fldV at hs ⊢
  obtain ⟨R, hR⟩ : ∃ R, R = sameF f g := ⟨_, rfl⟩
  rw [← hR] at hs ⊢
  have HB := Lib.hid hb
  obtain ⟨T, hT⟩ : ∃ T, T = lb f.tag := ⟨_, rfl⟩
  obtain ⟨I, hI⟩ : ∃ I, I = lb f.ind := ⟨_, rfl⟩
  obtain ⟨sn, hsn⟩ : ∃ sn, sn = f.subs.length := ⟨_, rfl⟩
  obtain ⟨T', hT'⟩ : ∃ T, T = lb g.tag := ⟨_, rfl⟩
  obtain ⟨I', hI'⟩ : ∃ I, I = lb g.ind := ⟨_, rfl⟩
  obtain ⟨sn', hsn'⟩ : ∃ sn, sn = g.subs.length := ⟨_, rfl⟩
  rw [← hT, ← hI, ← hsn, ← hT', ← hI', ← hsn'] at hs
  rw [← hT', ← hI', ← hsn'] at q0 q1 q2 q3 HB ⊢
  rw [← hT] at q0
  rw [← hI] at q1
  rw [← hsn] at q2
  have HS := Lib.hid hs
  clear hs hb hc hR hT hI hsn hT' hI' hsn' hf hg
  go_enter Tryd.func30, Tryd.ntmps30
  go_wp2_with fail
  refine HS.out.mono ?_
  rintro e w1 ⟨rfl, b1⟩
  have HB1 := Lib.hid (HB.out.bt b1)
  clear b1
  go_wp2
  go_ret
  exact ⟨rfl, HB1.out⟩
set_option maxRecDepth 100000 in
set_option maxHeartbeats 1000000 in
theorem cTag (f g : Fld) (cl : Nat) (w : World) (hc : Four w cl 0 f) (hcl : cl < w.heap.size) :
    Calls Tryd.prog 31 #[fldV g, .pointer (some ⟨cl, 0, none⟩)] w fun e w' => e = .returned (.bool (tagB f g)) ∧ Below w.heap.size w w' := by
  have hb : Below w.heap.size w (fldX w (lb g.tag) (lb g.ind) g.sa g.subs.length g.sc g.auth) := (Below.refl _ _).alloc (Nat.le_refl _) _
  obtain ⟨q0, -, -, -⟩ := hc.below hb hcl
  unfold fldV
  have d := lb_deq g.tag f.tag
  unfold tagB
  obtain ⟨R, hR⟩ : ∃ R, R = decide (g.tag = f.tag) := ⟨_, rfl⟩
  rw [← hR] at d ⊢
  have HB := Lib.hid hb
  obtain ⟨T, hT⟩ : ∃ T, T = lb f.tag := ⟨_, rfl⟩
  obtain ⟨T', hT'⟩ : ∃ T, T = lb g.tag := ⟨_, rfl⟩
  obtain ⟨I', hI'⟩ : ∃ I, I = lb g.ind := ⟨_, rfl⟩
  obtain ⟨sn', hsn'⟩ : ∃ sn, sn = g.subs.length := ⟨_, rfl⟩
  rw [← hT, ← hT'] at d
  rw [← hT', ← hI', ← hsn'] at q0 HB ⊢
  rw [← hT] at q0
  clear hb hc hR hT hT' hI' hsn'
  go_enter Tryd.func31, Tryd.ntmps31
  go_wp2_with fail
  all_goals (try go_region)
  all_goals (try go_wp2)
  all_goals go_ret
  all_goals exact ⟨rfl, by first | exact HB.out | exact HB.out.drew⟩

set_option maxRecDepth 100000 in
set_option maxHeartbeats 2000000 in
theorem fIndexS (v : Value) (l : List Fld) (q : Fld → Bool) (cl : Nat) (w : World) (hv : Flds w v l) (hl : l.length ≤ 1000000)
    (hcall : ∀ W, Below w.heap.size w W → ∀ f ∈ l, Calls Tryd.prog 30 #[fldV f, .pointer (some ⟨cl, 0, none⟩)] W fun e w' => e = .returned (.bool (q f)) ∧ Below W.heap.size W w') :
    Calls Tryd.prog 42 #[v, .func (.func 30) #[] #[.pointer (some ⟨cl, 0, none⟩)]] w fun e w' => ∃ i : Int, e = .returned (.int .i64 i) ∧ decide (0 ≤ i) = l.any q ∧ Below w.heap.size w w' := by
  obtain ⟨⟨pa, pc, rfl, hpc, hcells⟩, -⟩ := hv
  obtain ⟨R, hR⟩ : ∃ R, R = l.any q := ⟨_, rfl⟩
  rw [← hR]
  obtain ⟨n, hnn⟩ : ∃ n, n = l.length := ⟨_, rfl⟩
  rw [← hnn] at hl hpc ⊢
  have HN := Lib.hid hnn
  have HC := Lib.hid hcells
  have HR := Lib.hid hR
  have HX := Lib.hid hcall
  clear hnn hcells hR hcall
  go_enter Tryd.func42, Tryd.ntmps42
  go_wp2
  go_loopw [8] (fun vk wr => ∃ k : Nat, vk = .int .i64 k ∧ k ≤ n ∧ Hid (R = (l.drop k).any q) ∧ Hid (Below w.heap.size w wr)) (fun vk _ => n - (intOf vk).toNat)
  case atStart => exact ⟨0, rfl, by omega, Lib.hid (by rw [HR.out, List.drop_zero]), Lib.hid (Below.refl _ _)⟩
  case round =>
    obtain ⟨k, rfl, hk, HK, HB⟩ := hrel
    by_cases hlt : k < n
    · have hltz : (k : Int) < (n : Int) := by omega
      obtain ⟨f, hf⟩ : ∃ f, l[k]? = some f := ⟨_, List.getElem?_eq_getElem (by have := HN.out; omega)⟩
      rcases HC.out with h0 | ⟨b, o, rfl, hbl, hcl⟩
      · rw [h0] at hf; cases hf
      have hst := HK.out
      rw [any_step hf] at hst
      obtain ⟨p0, p1, p2, p3⟩ := (four_of (hcl k f hf)).below HB.out hbl
      have hcall := HX.out wr HB.out f (List.mem_of_getElem? hf)
      unfold fldV at hcall
      obtain ⟨B, hB⟩ : ∃ B, B = q f := ⟨_, rfl⟩
      rw [← hB] at hst hcall
      obtain ⟨T, hT⟩ : ∃ T, T = lb f.tag := ⟨_, rfl⟩
      obtain ⟨I, hI⟩ : ∃ I, I = lb f.ind := ⟨_, rfl⟩
      obtain ⟨sn, hsn⟩ : ∃ sn, sn = f.subs.length := ⟨_, rfl⟩
      rw [← hT] at p0 hcall
      rw [← hI] at p1 hcall
      rw [← hsn] at p2 hcall
      have HCALL := Lib.hid hcall
      have HST := Lib.hid hst
      clear HK hcl hf hcall hst hB hT hI hsn HR
      go_wp2_with fail
      refine HCALL.out.mono ?_
      rintro e w2 ⟨rfl, b2⟩
      have HB2 : Hid (Below w.heap.size w w2) := Lib.hid (HB.out.trans (b2.mono HB.out.size))
      clear b2 HCALL
      cases B with
      | true =>
        have HF : Hid (R = true) := Lib.hid (by rw [HST.out]; rfl)
        clear HST
        go_wp2
        go_ret
        exact ⟨(k : Int), rfl, by rw [HF.out]; exact decide_eq_true (by omega), HB2.out⟩
      | false =>
        have HF : Hid (R = (l.drop (k + 1)).any q) := Lib.hid (by rw [HST.out]; rfl)
        clear HST
        go_wp2
        go_roundw
        case rel => exact ⟨k + 1, by go_num, by omega, HF, HB2⟩
        case measure => simp [intOf]; omega
    · have hltz : ¬ (k : Int) < (n : Int) := by omega
      have HF : Hid (R = false) := Lib.hid (by rw [HK.out, List.drop_eq_nil_of_le (by have := HN.out; omega)]; rfl)
      clear HK HR
      go_wp2
      go_ret
      exact ⟨-1, rfl, by rw [HF.out]; rfl, HB.out⟩
set_option maxRecDepth 100000 in
set_option maxHeartbeats 1000000 in
theorem fContainsS (v : Value) (l : List Fld) (q : Fld → Bool) (cl : Nat) (w : World) (hv : Flds w v l) (hl : l.length ≤ 1000000)
    (hcall : ∀ W, Below w.heap.size w W → ∀ f ∈ l, Calls Tryd.prog 30 #[fldV f, .pointer (some ⟨cl, 0, none⟩)] W fun e w' => e = .returned (.bool (q f)) ∧ Below W.heap.size W w') :
    Calls Tryd.prog 29 #[v, .func (.func 30) #[] #[.pointer (some ⟨cl, 0, none⟩)]] w fun e w' => e = .returned (.bool (l.any q)) ∧ Below w.heap.size w w' := by
  have hi := fIndexS v l q cl w hv hl hcall
  obtain ⟨⟨pa, pc, rfl, hpc, -⟩, -⟩ := hv
  obtain ⟨R, hR⟩ : ∃ R, R = l.any q := ⟨_, rfl⟩
  rw [← hR] at hi ⊢
  have HI := Lib.hid hi
  clear hi hR hcall
  go_enter Tryd.func29, Tryd.ntmps29
  go_wp2_with fail
  refine HI.out.mono ?_
  rintro e w1 ⟨i, rfl, hd, b1⟩
  have HD := Lib.hid hd
  clear hd
  go_wp2
  go_ret
  exact ⟨retb HD.out, b1⟩

set_option maxRecDepth 100000 in
set_option maxHeartbeats 2000000 in
theorem fIndexT (v : Value) (l : List Fld) (q : Fld → Bool) (cl : Nat) (w : World) (hv : Flds w v l) (hl : l.length ≤ 1000000)
    (hcall : ∀ W, Below w.heap.size w W → ∀ f ∈ l, Calls Tryd.prog 31 #[fldV f, .pointer (some ⟨cl, 0, none⟩)] W fun e w' => e = .returned (.bool (q f)) ∧ Below W.heap.size W w') :
    Calls Tryd.prog 42 #[v, .func (.func 31) #[] #[.pointer (some ⟨cl, 0, none⟩)]] w fun e w' => ∃ i : Int, e = .returned (.int .i64 i) ∧ decide (0 ≤ i) = l.any q ∧ Below w.heap.size w w' := by
  obtain ⟨⟨pa, pc, rfl, hpc, hcells⟩, -⟩ := hv
  obtain ⟨R, hR⟩ : ∃ R, R = l.any q := ⟨_, rfl⟩
  rw [← hR]
  obtain ⟨n, hnn⟩ : ∃ n, n = l.length := ⟨_, rfl⟩
  rw [← hnn] at hl hpc ⊢
  have HN := Lib.hid hnn
  have HC := Lib.hid hcells
  have HR := Lib.hid hR
  have HX := Lib.hid hcall
  clear hnn hcells hR hcall
  go_enter Tryd.func42, Tryd.ntmps42
  go_wp2
  go_loopw [8] (fun vk wr => ∃ k : Nat, vk = .int .i64 k ∧ k ≤ n ∧ Hid (R = (l.drop k).any q) ∧ Hid (Below w.heap.size w wr)) (fun vk _ => n - (intOf vk).toNat)
  case atStart => exact ⟨0, rfl, by omega, Lib.hid (by rw [HR.out, List.drop_zero]), Lib.hid (Below.refl _ _)⟩
  case round =>
    obtain ⟨k, rfl, hk, HK, HB⟩ := hrel
    by_cases hlt : k < n
    · have hltz : (k : Int) < (n : Int) := by omega
      obtain ⟨f, hf⟩ : ∃ f, l[k]? = some f := ⟨_, List.getElem?_eq_getElem (by have := HN.out; omega)⟩
      rcases HC.out with h0 | ⟨b, o, rfl, hbl, hcl⟩
      · rw [h0] at hf; cases hf
      have hst := HK.out
      rw [any_step hf] at hst
      obtain ⟨p0, p1, p2, p3⟩ := (four_of (hcl k f hf)).below HB.out hbl
      have hcall := HX.out wr HB.out f (List.mem_of_getElem? hf)
      unfold fldV at hcall
      obtain ⟨B, hB⟩ : ∃ B, B = q f := ⟨_, rfl⟩
      rw [← hB] at hst hcall
      obtain ⟨T, hT⟩ : ∃ T, T = lb f.tag := ⟨_, rfl⟩
      obtain ⟨I, hI⟩ : ∃ I, I = lb f.ind := ⟨_, rfl⟩
      obtain ⟨sn, hsn⟩ : ∃ sn, sn = f.subs.length := ⟨_, rfl⟩
      rw [← hT] at p0 hcall
      rw [← hI] at p1 hcall
      rw [← hsn] at p2 hcall
      have HCALL := Lib.hid hcall
      have HST := Lib.hid hst
      clear HK hcl hf hcall hst hB hT hI hsn HR
      go_wp2_with fail
      refine HCALL.out.mono ?_
      rintro e w2 ⟨rfl, b2⟩
      have HB2 : Hid (Below w.heap.size w w2) := Lib.hid (HB.out.trans (b2.mono HB.out.size))
      clear b2 HCALL
      cases B with
      | true =>
        have HF : Hid (R = true) := Lib.hid (by rw [HST.out]; rfl)
        clear HST
        go_wp2
        go_ret
        exact ⟨(k : Int), rfl, by rw [HF.out]; exact decide_eq_true (by omega), HB2.out⟩
      | false =>
        have HF : Hid (R = (l.drop (k + 1)).any q) := Lib.hid (by rw [HST.out]; rfl)
        clear HST
        go_wp2
        go_roundw
        case rel => exact ⟨k + 1, by go_num, by omega, HF, HB2⟩
        case measure => simp [intOf]; omega
    · have hltz : ¬ (k : Int) < (n : Int) := by omega
      have HF : Hid (R = false) := Lib.hid (by rw [HK.out, List.drop_eq_nil_of_le (by have := HN.out; omega)]; rfl)
      clear HK HR
      go_wp2
      go_ret
      exact ⟨-1, rfl, by rw [HF.out]; rfl, HB.out⟩
set_option maxRecDepth 100000 in
set_option maxHeartbeats 1000000 in
theorem fContainsT (v : Value) (l : List Fld) (q : Fld → Bool) (cl : Nat) (w : World) (hv : Flds w v l) (hl : l.length ≤ 1000000)
    (hcall : ∀ W, Below w.heap.size w W → ∀ f ∈ l, Calls Tryd.prog 31 #[fldV f, .pointer (some ⟨cl, 0, none⟩)] W fun e w' => e = .returned (.bool (q f)) ∧ Below W.heap.size W w') :
    Calls Tryd.prog 29 #[v, .func (.func 31) #[] #[.pointer (some ⟨cl, 0, none⟩)]] w fun e w' => e = .returned (.bool (l.any q)) ∧ Below w.heap.size w w' := by
  have hi := fIndexT v l q cl w hv hl hcall
  obtain ⟨⟨pa, pc, rfl, hpc, -⟩, -⟩ := hv
  obtain ⟨R, hR⟩ : ∃ R, R = l.any q := ⟨_, rfl⟩
  rw [← hR] at hi ⊢
  have HI := Lib.hid hi
  clear hi hR hcall
  go_enter Tryd.func29, Tryd.ntmps29
  go_wp2_with fail
  refine HI.out.mono ?_
  rintro e w1 ⟨i, rfl, hd, b1⟩
  have HD := Lib.hid hd
  clear hd
  go_wp2
  go_ret
  exact ⟨retb HD.out, b1⟩


/-- Is a field taken? -/
def takesL (keeps : List (ByteArray × Int)) (fields into : List Fld) (f : Fld) : Bool :=
  if howL keeps (lb f.tag) = 1 then !fields.any (sameF f) else if howL keeps (lb f.tag) = 2 then !into.any (tagB f) else false

set_option maxRecDepth 100000 in
set_option maxHeartbeats 4000000 in
theorem pTakes (f : Fld) (cl cf ci : Nat) (vk vf vi : Value) (keeps : List (ByteArray × Int)) (fields into : List Fld) (w : World)
    (h0 : w.cell? ⟨cl, 0, none⟩ = some vk) (hk : Keeps w vk keeps) (h1 : w.cell? ⟨cf, 0, none⟩ = some vf) (hfs : Flds w vf fields) (h2 : w.cell? ⟨ci, 4, none⟩ = some vi) (hin : Flds w vi into)
    (hf : FldAt w f) (hl : f.subs.length ≤ 1000000) (hkl : keeps.length ≤ 1000000) (hfl : fields.length ≤ 1000000) (hil : into.length ≤ 1000000) :
    Calls Tryd.prog 28 #[fldV f, .pointer (some ⟨cl, 0, none⟩), .pointer (some ⟨cf, 0, none⟩), .pointer (some ⟨ci, 0, none⟩)] w fun e w' => e = .returned (.bool (takesL keeps fields into f)) ∧ Below w.heap.size w w' := by
  have hb : Below w.heap.size w (fldX w (lb f.tag) (lb f.ind) f.sa f.subs.length f.sc f.auth) := (Below.refl _ _).alloc (Nat.le_refl _) _
  have hsz : (fldX w (lb f.tag) (lb f.ind) f.sa f.subs.length f.sc f.auth).heap.size = w.heap.size + 1 := World.size_alloc _ _
  have hlt : w.heap.size < (fldX w (lb f.tag) (lb f.ind) f.sa f.subs.length f.sc f.auth).heap.size := by rw [hsz]; omega
  have l0 := lt_cell h0
  have l1 := lt_cell h1
  have l2 : ci < w.heap.size := lt_cell h2
  have hfour : Four (fldX w (lb f.tag) (lb f.ind) f.sa f.subs.length f.sc f.auth) w.heap.size 0 f := by
    refine ⟨?_, ?_, ?_, ?_⟩ <;> (rw [new1_cell]; rfl)
  have HHOW : Hid (∀ W, Below w.heap.size w W → Calls Tryd.prog 10 #[vk, .string (lb f.tag)] W fun e w' => e = .returned (.int .i64 (howL keeps (lb f.tag))) ∧ Below W.heap.size W w') := Lib.hid (fun W h => pHow vk keeps (lb f.tag) W (Rows.below hk h (Nat.le_refl _)) hkl)
  have HCS : Hid (∀ W, Below (fldX w (lb f.tag) (lb f.ind) f.sa f.subs.length f.sc f.auth).heap.size (fldX w (lb f.tag) (lb f.ind) f.sa f.subs.length f.sc f.auth) W → Calls Tryd.prog 29 #[vf, .func (.func 30) #[] #[.pointer (some ⟨w.heap.size, 0, none⟩)]] W fun e w' => e = .returned (.bool (fields.any (sameF f))) ∧ Below W.heap.size W w') := Lib.hid (fun W h => by
    refine fContainsS vf fields (sameF f) w.heap.size W (hfs.below (hb.bt h) (Nat.le_refl _)) hfl (fun W2 h2 g hg => ?_)
    have hx := h.bt h2
    have hx2 := hb.bt hx
    exact cSame f g w.heap.size W2 (hfour.below hx hlt) (Nat.lt_of_lt_of_le hlt hx.size) (hf.below hx2 (Nat.le_refl _)) ((hfs.2 g hg).below hx2 (Nat.le_refl _)) hl)
  have HCT : Hid (∀ W, Below (fldX w (lb f.tag) (lb f.ind) f.sa f.subs.length f.sc f.auth).heap.size (fldX w (lb f.tag) (lb f.ind) f.sa f.subs.length f.sc f.auth) W → Calls Tryd.prog 29 #[vi, .func (.func 31) #[] #[.pointer (some ⟨w.heap.size, 0, none⟩)]] W fun e w' => e = .returned (.bool (into.any (tagB f))) ∧ Below W.heap.size W w') := Lib.hid (fun W h => by
    refine fContainsT vi into (tagB f) w.heap.size W (hin.below (hb.bt h) (Nat.le_refl _)) hil (fun W2 h2 g hg => ?_)
    have hx := h.bt h2
    exact cTag f g w.heap.size W2 (hfour.below hx hlt) (Nat.lt_of_lt_of_le hlt hx.size))
  have CE : ∀ W, Below w.heap.size w W → W.cell? ⟨cl, 0, none⟩ = some vk ∧ W.cell? ⟨cf, 0, none⟩ = some vf ∧ W.cell? ⟨ci, 4, none⟩ = some vi := fun W h => ⟨(h.cell (p := ⟨cl, 0, none⟩) l0).trans h0, (h.cell (p := ⟨cf, 0, none⟩) l1).trans h1, (h.cell (p := ⟨ci, 4, none⟩) l2).trans h2⟩
  have HCE := Lib.hid CE
  obtain ⟨ka, kc, rfl, -⟩ := Rows.shape hk
  obtain ⟨fa, fc, rfl, -⟩ := hfs.1.shape
  obtain ⟨ia, ic, rfl, -⟩ := hin.1.shape
  obtain ⟨R, hR⟩ : ∃ R, R = takesL keeps fields into f := ⟨_, rfl⟩
  rw [← hR]
  unfold takesL at hR
  obtain ⟨H, hH⟩ : ∃ H, H = howL keeps (lb f.tag) := ⟨_, rfl⟩
  obtain ⟨A, hA⟩ : ∃ A, A = fields.any (sameF f) := ⟨_, rfl⟩
  obtain ⟨Z, hZ⟩ : ∃ Z, Z = into.any (tagB f) := ⟨_, rfl⟩
  rw [← hH] at hR HHOW
  rw [← hA] at hR HCS
  rw [← hZ] at hR HCT
  have HB := Lib.hid hb
  obtain ⟨T, hT⟩ : ∃ T, T = lb f.tag := ⟨_, rfl⟩
  obtain ⟨I, hI⟩ : ∃ I, I = lb f.ind := ⟨_, rfl⟩
  obtain ⟨sn, hsn⟩ : ∃ sn, sn = f.subs.length := ⟨_, rfl⟩
  obtain ⟨kn, hkn⟩ : ∃ sn, sn = keeps.length := ⟨_, rfl⟩
  obtain ⟨fn, hfn⟩ : ∃ sn, sn = fields.length := ⟨_, rfl⟩
  obtain ⟨inn, hinn⟩ : ∃ sn, sn = into.length := ⟨_, rfl⟩
  rw [← hT, ← hI, ← hsn] at HB HCS HCT
  rw [← hT, ← hkn] at HHOW
  rw [← hfn] at HCS
  rw [← hinn] at HCT
  rw [← hkn, ← hfn, ← hinn] at HCE
  unfold fldV
  rw [← hT, ← hI, ← hsn]
  obtain ⟨q0, q1, q2⟩ := HCE.out _ HB.out
  have HR := Lib.hid hR
  clear hR hb h0 h1 h2 hk hfs hin hf hl hkl hfl hil hsz hlt l0 l1 l2 hfour CE hH hA hZ hT hI hsn hkn hfn hinn
  by_cases e1 : H = 1
  · subst e1
    replace HR : Hid (R = !A) := Lib.hid (by rw [HR.out, if_pos rfl])
    go_enter Tryd.func28, Tryd.ntmps28
    go_wp2_with fail
    refine (HHOW.out _ HB.out).mono ?_
    rintro e w1 ⟨rfl, b1⟩
    have HC1 := Lib.hid b1
    have HB1 := Lib.hid (HB.out.bt b1)
    clear b1 q0 q1 q2
    obtain ⟨q0, q1, q2⟩ := HCE.out _ HB1.out
    go_wp2_with fail
    refine (HCS.out _ HC1.out).mono ?_
    rintro e w2 ⟨rfl, b2⟩
    have HB2 := Lib.hid (HB1.out.bt b2)
    clear b2
    go_wp2
    go_ret
    exact ⟨by rw [HR.out]; rfl, HB2.out⟩
  · have e1z : (H == 1) = false := by simpa using e1
    by_cases e2 : H = 2
    · subst e2
      replace HR : Hid (R = !Z) := Lib.hid (by rw [HR.out, if_neg (by decide), if_pos rfl])
      clear e1 e1z
      go_enter Tryd.func28, Tryd.ntmps28
      go_wp2_with fail
      refine (HHOW.out _ HB.out).mono ?_
      rintro e w1 ⟨rfl, b1⟩
      have HC1 := Lib.hid b1
      have HB1 := Lib.hid (HB.out.bt b1)
      clear b1 q0 q1 q2
      obtain ⟨q0, q1, q2⟩ := HCE.out _ HB1.out
      go_wp2_with fail
      refine (HCT.out _ HC1.out).mono ?_
      rintro e w2 ⟨rfl, b2⟩
      have HB2 := Lib.hid (HB1.out.bt b2)
      clear b2
      go_wp2
      go_ret
      exact ⟨by rw [HR.out]; rfl, HB2.out⟩
    · have e2z : (H == 2) = false := by simpa using e2
      replace HR : Hid (R = false) := Lib.hid (by rw [HR.out, if_neg e1, if_neg e2])
      clear e1 e2
      go_enter Tryd.func28, Tryd.ntmps28
      go_wp2_with fail
      refine (HHOW.out _ HB.out).mono ?_
      rintro e w1 ⟨rfl, b1⟩
      have HB1 := Lib.hid (HB.out.bt b1)
      clear b1
      go_wp2
      go_ret
      exact ⟨by rw [HR.out]; rfl, HB1.out⟩
end Go.Proofs.YtcdlgmncalmihaaDoor
