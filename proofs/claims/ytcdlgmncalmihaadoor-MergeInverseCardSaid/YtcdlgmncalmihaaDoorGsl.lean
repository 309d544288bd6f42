/- The walks of Little, Small and fair of the statements about merging (layer 16). -/
import Derived.Test.YtcdlgmncalmihaaDoorGrc
namespace Go.Proofs.YtcdlgmncalmihaaDoor
open Go Go.RowKit

def littleF (f : Fld) : Bool := decide (f.subs.length ≤ 20) && decide (f.tag.length ≤ 300) && decide (f.ind.length ≤ 300) && f.subs.all fun s => decide (s.2.size ≤ 300)
def littleR (r : Rec) : Bool := decide (r.fields.length ≤ 20) && decide (r.lang.size ≤ 300) && r.fields.all littleF

set_option maxRecDepth 100000 in
set_option maxHeartbeats 2000000 in
theorem lLittle (f : Fld) (w : World) (hf : FldAt w f) :
    Calls Tryd.prog 18 #[fldV f] w fun e w' => e = .returned (.bool (littleF f)) ∧ Below w.heap.size w w' := by
  unfold fldV
  obtain ⟨R, hR⟩ : ∃ R, R = littleF f := ⟨_, rfl⟩
  rw [← hR]
  unfold littleF at hR
  have zt := lb_size f.tag
  have zi := lb_size f.ind
  obtain ⟨tag, ind, subs, auth, sa, sc⟩ := f
  obtain ⟨a', c', he, hc, hcells⟩ := hf
  simp only at hR zt zi hc hcells he ⊢
  cases he
  rw [← zt, ← zi] at hR
  obtain ⟨T, hT⟩ : ∃ T, T = lb tag := ⟨_, rfl⟩
  obtain ⟨I, hI⟩ : ∃ I, I = lb ind := ⟨_, rfl⟩
  rw [← hT, ← hI] at hR ⊢
  obtain ⟨n, hnn⟩ : ∃ n, n = subs.length := ⟨_, rfl⟩
  rw [← hnn] at hc hR ⊢
  have HB0 : Hid (Below w.heap.size w (fldX w T I sa n sc auth)) := Lib.hid ((Below.refl _ _).alloc (Nat.le_refl _) _)
  have HN := Lib.hid hnn
  have HC := Lib.hid hcells
  clear hnn hcells zt zi hT hI
  by_cases h20 : 20 < n
  · have h20z : (20 : Int) < (n : Int) := by omega
    rw [decide_eq_false (by omega)] at hR
    have HR : Hid (R = false) := Lib.hid hR
    clear hR h20
    go_enter Tryd.func18, Tryd.ntmps18
    go_wp2
    go_ret
    exact ⟨by rw [HR.out]; rfl, HB0.out⟩
  have h20z : (n : Int) ≤ 20 := by omega
  rw [decide_eq_true (by omega : n ≤ 20), Bool.true_and] at hR
  by_cases ht : 300 < T.size
  · have htz : (300 : Int) < ((T.size : Nat) : Int) := by omega
    rw [decide_eq_false (by omega)] at hR
    have HR : Hid (R = false) := Lib.hid hR
    clear hR h20 ht
    go_enter Tryd.func18, Tryd.ntmps18
    go_wp2
    go_ret
    exact ⟨by rw [HR.out]; rfl, HB0.out⟩
  have htz : ((T.size : Nat) : Int) ≤ 300 := by omega
  rw [decide_eq_true (by omega : T.size ≤ 300), Bool.true_and] at hR
  by_cases hi : 300 < I.size
  · have hiz : (300 : Int) < ((I.size : Nat) : Int) := by omega
    rw [decide_eq_false (by omega)] at hR
    have HR : Hid (R = false) := Lib.hid hR
    clear hR h20 ht hi
    go_enter Tryd.func18, Tryd.ntmps18
    go_wp2
    go_ret
    exact ⟨by rw [HR.out]; rfl, HB0.out⟩
  have hiz : ((I.size : Nat) : Int) ≤ 300 := by omega
  rw [decide_eq_true (by omega : I.size ≤ 300), Bool.true_and] at hR
  have HR := Lib.hid hR
  clear hR h20 ht hi
  go_enter Tryd.func18, Tryd.ntmps18
  go_wp2
  go_loopw [3] (fun vk wr => ∃ k : Nat, vk = .int .i64 k ∧ k ≤ n ∧ wr = fldX w T I sa n sc auth ∧ Hid (R = (subs.drop k).all fun s => decide (s.2.size ≤ 300))) (fun vk _ => n - (intOf vk).toNat)
  case atStart => exact ⟨0, rfl, by omega, rfl, Lib.hid (by rw [HR.out, List.drop_zero])⟩
  case round =>
    obtain ⟨k, rfl, hk, rfl, HK⟩ := hrel
    by_cases hlt : k < n
    · have hltz : (k : Int) < (n : Int) := by omega
      obtain ⟨s, hs⟩ : ∃ s, subs[k]? = some s := ⟨_, List.getElem?_eq_getElem (by have := HN.out; omega)⟩
      rcases HC.out with h0 | ⟨b, o, rfl, hbl, hcl⟩
      · rw [h0] at hs; cases hs
      obtain ⟨-, p1⟩ := sub_cells (hcl k s hs)
      replace p1 := (HB0.out.cell (p := ⟨b, o + k * 2 + 1, none⟩) hbl).trans p1
      have hst := HK.out
      rw [drop_step hs, List.all_cons] at hst
      obtain ⟨c, v⟩ := s
      simp only at p1 hst
      clear HK hs hcl HR
      by_cases h3 : 300 < v.size
      · have h3z : (300 : Int) < ((v.size : Nat) : Int) := by omega
        rw [decide_eq_false (by omega)] at hst
        have HT : Hid (R = false) := Lib.hid hst
        clear hst h3
        go_wp2
        go_ret
        exact ⟨by rw [HT.out]; rfl, HB0.out⟩
      · have h3z : ((v.size : Nat) : Int) ≤ 300 := by omega
        rw [decide_eq_true (by omega), Bool.true_and] at hst
        have HT := Lib.hid hst
        clear hst h3
        go_wp2
        go_roundw
        case rel => exact ⟨k + 1, by go_num, by omega, by trivial, HT⟩
        case measure => simp [intOf]; omega
    · have hltz : ¬ (k : Int) < (n : Int) := by omega
      have HT : Hid (R = true) := Lib.hid (by rw [HK.out, List.drop_eq_nil_of_le (by have := HN.out; omega)]; rfl)
      clear HK HR
      go_wp2
      go_ret
      exact ⟨by rw [HT.out]; rfl, HB0.out⟩

/-- A record's value as an argument. -/
def recV5 (x : Rcd) : Value := .agg #[.int .i64 x.r.id, .int .i64 x.r.ver, .int .i64 x.r.kind, .string x.r.lang, .slice x.sa x.r.fields.length x.sc]
theorem rcd_cells {w : World} {x : Rcd} (h : RcdAt w x) : x.r.fields = [] ∨ ∃ b o, x.sa = some ⟨b, o, none⟩ ∧ b < w.heap.size ∧ ∀ j f, x.r.fields[j]? = some f → Four w b (o + j * 4) f := by
  obtain ⟨⟨a', c', he, -, hx⟩, -⟩ := h
  cases he
  rcases hx with h0 | ⟨b, o, e, hb, hcl⟩
  · exact .inl h0
  · exact .inr ⟨b, o, e, hb, fun j f hf => four_of (hcl j f hf)⟩

set_option maxRecDepth 100000 in
set_option maxHeartbeats 2000000 in
theorem lSmall (x : Rcd) (w : World) (hv : RcdAt w x) :
    Calls Tryd.prog 25 #[recV5 x] w fun e w' => e = .returned (.bool (littleR x.r)) ∧ Below w.heap.size w w' := by
  unfold recV5
  obtain ⟨R, hR⟩ : ∃ R, R = littleR x.r := ⟨_, rfl⟩
  rw [← hR]
  unfold littleR at hR
  have hcells := rcd_cells hv
  have hfl : ∀ f ∈ x.r.fields, FldAt w f := hv.2
  obtain ⟨-, hn2⟩ := Flds.len hv
  obtain ⟨⟨id, ver, kind, lang, l⟩, a, c⟩ := x
  simp only at hR hcells hfl hn2 ⊢
  clear hv
  obtain ⟨n, hnn⟩ : ∃ n, n = l.length := ⟨_, rfl⟩
  rw [← hnn] at hR hn2 ⊢
  have HB0 : Hid (Below w.heap.size w (recX w id ver kind lang a n c)) := Lib.hid ((Below.refl _ _).alloc (Nat.le_refl _) _)
  have HN := Lib.hid hnn
  have HC := Lib.hid hcells
  have HF := Lib.hid hfl
  clear hnn hcells hfl
  by_cases h20 : 20 < n
  · have h20z : (20 : Int) < (n : Int) := by omega
    rw [decide_eq_false (by omega)] at hR
    have HR : Hid (R = false) := Lib.hid hR
    clear hR h20
    go_enter Tryd.func25, Tryd.ntmps25
    go_wp2
    go_ret
    exact ⟨by rw [HR.out]; rfl, HB0.out⟩
  have h20z : (n : Int) ≤ 20 := by omega
  rw [decide_eq_true (by omega : n ≤ 20), Bool.true_and] at hR
  by_cases ht : 300 < lang.size
  · have htz : (300 : Int) < ((lang.size : Nat) : Int) := by omega
    rw [decide_eq_false (by omega)] at hR
    have HR : Hid (R = false) := Lib.hid hR
    clear hR h20 ht
    go_enter Tryd.func25, Tryd.ntmps25
    go_wp2
    go_ret
    exact ⟨by rw [HR.out]; rfl, HB0.out⟩
  have htz : ((lang.size : Nat) : Int) ≤ 300 := by omega
  rw [decide_eq_true (by omega : lang.size ≤ 300), Bool.true_and] at hR
  have HR := Lib.hid hR
  clear hR h20 ht
  go_enter Tryd.func25, Tryd.ntmps25
  go_wp2
  go_loopw [3] (fun vk wr => ∃ k : Nat, vk = .int .i64 k ∧ k ≤ n ∧ Hid (R = (l.drop k).all littleF) ∧ Hid (Below (recX w id ver kind lang a n c).heap.size (recX w id ver kind lang a n c) wr)) (fun vk _ => n - (intOf vk).toNat)
  case atStart => exact ⟨0, rfl, by omega, Lib.hid (by rw [HR.out, List.drop_zero]), Lib.hid (Below.refl _ _)⟩
  case round =>
    obtain ⟨k, rfl, hk, HK, HB⟩ := hrel
    have HBW := Lib.hid (HB0.out.bt HB.out)
    have q4 := block_cells HB.out 4 (.slice a n c) rfl
    by_cases hlt : k < n
    · have hltz : (k : Int) < (n : Int) := by omega
      obtain ⟨f, hf⟩ : ∃ f, l[k]? = some f := ⟨_, List.getElem?_eq_getElem (by have := HN.out; omega)⟩
      rcases HC.out with h0 | ⟨b, o, rfl, hbl, hcl⟩
      · rw [h0] at hf; cases hf
      obtain ⟨p0, p1, p2, p3⟩ := (hcl k f hf).below HBW.out hbl
      have hst := HK.out
      rw [drop_step hf, List.all_cons] at hst
      have hcall := lLittle f wr ((HF.out f (List.mem_of_getElem? hf)).below HBW.out (Nat.le_refl _))
      unfold fldV at hcall
      obtain ⟨B, hB⟩ : ∃ B, B = littleF f := ⟨_, rfl⟩
      rw [← hB] at hst hcall
      obtain ⟨T, hT⟩ : ∃ T, T = lb f.tag := ⟨_, rfl⟩
      obtain ⟨I, hI⟩ : ∃ I, I = lb f.ind := ⟨_, rfl⟩
      obtain ⟨sn, hsn⟩ : ∃ sn, sn = f.subs.length := ⟨_, rfl⟩
      rw [← hT] at p0 hcall
      rw [← hI] at p1 hcall
      rw [← hsn] at p2 hcall
      have HCALL := Lib.hid hcall
      clear HK hf hcl hcall hB hT hI hsn HR
      cases B with
      | false =>
        have HT : Hid (R = false) := Lib.hid hst
        clear hst
        go_wp2_with fail
        refine HCALL.out.mono ?_
        rintro e w2 ⟨rfl, b2⟩
        have HB2 := Lib.hid (HBW.out.bt b2)
        clear b2
        go_wp2
        go_ret
        exact ⟨by rw [HT.out]; rfl, HB2.out⟩
      | true =>
        rw [Bool.true_and] at hst
        have HT := Lib.hid hst
        clear hst
        go_wp2_with fail
        refine HCALL.out.mono ?_
        rintro e w2 ⟨rfl, b2⟩
        have HB2 := Lib.hid (HB.out.bt b2)
        clear b2
        go_wp2
        go_roundw
        case rel => exact ⟨k + 1, by go_num, by omega, HT, HB2⟩
        case measure => simp [intOf]; omega
    · have hltz : ¬ (k : Int) < (n : Int) := by omega
      have HT : Hid (R = true) := Lib.hid (by rw [HK.out, List.drop_eq_nil_of_le (by have := HN.out; omega)]; rfl)
      clear HK HR
      go_wp2
      go_ret
      exact ⟨by rw [HT.out]; rfl, HBW.out⟩
end Go.Proofs.YtcdlgmncalmihaaDoor
