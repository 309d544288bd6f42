/- The walks of the reference's Small and Same of fields and records (layers 18, 16, 08). -/
import Derived.Test.YtimecccphbgdeaaDoorMfq
import Derived.Test.YtimecccphbgdeaaDoorMup
import Derived.Test.YtimecccphbgdeaaDoorMdn
import Derived.Lib.SlicesS
namespace Go.Proofs.YtimecccphbgdeaaDoor
open Go Go.RowKit

def smallF (f : Fld) : Bool := decide (f.subs.length ≤ 20) && f.subs.all fun s => decide (s.2.size ≤ 300)
def smallR (r : Rec) : Bool := decide (r.fields.length ≤ 70) && r.fields.all smallF
/-- The world with a field's block; with a record's. -/
abbrev fldX (w : World) (T I : ByteArray) (sa : Option Addr) (n sc : Nat) (auth : Int) : World := w.alloc (.cells #[.string T, .string I, .slice sa n sc, .int .i64 auth] 41)
abbrev recX (w : World) (id ver kind : Int) (lang : ByteArray) (a : Option Addr) (n c : Nat) : World := w.alloc (.cells #[.int .i64 id, .int .i64 ver, .int .i64 kind, .string lang, .slice a n c] 24)

set_option maxRecDepth 100000 in
set_option maxHeartbeats 2000000 in
theorem rSmallF (T I : ByteArray) (subs : List (Nat × ByteArray)) (auth : Int) (sa : Option Addr) (n0 sc : Nat) (w : World) (hf : Rows subE 2 w (.slice sa n0 sc) subs) :
    Calls Tryd.prog 28 #[.agg #[.string T, .string I, .slice sa n0 sc, .int .i64 auth]] w fun e w' => e = .returned (.bool (decide (subs.length ≤ 20) && subs.all fun s => decide (s.2.size ≤ 300))) ∧ Below w.heap.size w w' := by
  obtain ⟨a', c', he, hc, hcells⟩ := hf
  cases he
  obtain ⟨R, hR⟩ : ∃ R, R = (decide (subs.length ≤ 20) && subs.all fun s => decide (s.2.size ≤ 300)) := ⟨_, rfl⟩
  rw [← hR]
  obtain ⟨n, hnn⟩ : ∃ n, n = subs.length := ⟨_, rfl⟩
  rw [← hnn] at hc hR ⊢
  have HB0 : Hid (Below w.heap.size w (fldX w T I sa n sc auth)) := Lib.hid ((Below.refl _ _).alloc (Nat.le_refl _) _)
  have HN := Lib.hid hnn
  have HC := Lib.hid hcells
  clear hnn hcells
  by_cases h20 : 20 < n
  · have h20z : (20 : Int) < (n : Int) := by omega
    rw [decide_eq_false (by omega)] at hR
    have HR : Hid (R = false) := Lib.hid hR
    clear hR h20
    go_enter Tryd.func28, Tryd.ntmps28
    go_wp2
    go_ret
    exact ⟨by rw [HR.out]; rfl, HB0.out⟩
  · have h20z : (n : Int) ≤ 20 := by omega
    rw [decide_eq_true (by omega), Bool.true_and] at hR
    have HR := Lib.hid hR
    clear hR h20
    go_enter Tryd.func28, Tryd.ntmps28
    go_wp2
    go_loopw [3] (fun vk wr => ∃ k : Nat, vk = .int .i64 k ∧ k ≤ n ∧ wr = fldX w T I sa n sc auth ∧ Hid (R = (subs.drop k).all fun s => decide (s.2.size ≤ 300))) (fun vk _ => n - (intOf vk).toNat)
    case atStart => exact ⟨0, rfl, by omega, rfl, Lib.hid (by rw [HR.out, List.drop_zero])⟩
    case round =>
      obtain ⟨k, rfl, hk, rfl, HK⟩ := hrel
      by_cases hlt : k < n
      · have hltz : (k : Int) < (n : Int) := by omega
        obtain ⟨s, hs⟩ : ∃ s, subs[k]? = some s := ⟨_, List.getElem?_eq_getElem (by have := HN.out; omega)⟩
        rcases HC.out with h0 | ⟨b, o, rfl, hbl, hcl⟩
        · rw [h0] at hs; cases hs
        obtain ⟨-, p1⟩ := sub_cells (hcl k s hs)
        replace p1 := (HB0.out.cell (p := ⟨b, o + k * 2 + 1, none⟩) hbl).trans p1
        have hst := HK.out
        rw [drop_step hs, List.all_cons] at hst
        obtain ⟨c, v⟩ := s
        simp only at p1 hst
        clear HK hs hcl HR
        by_cases h3 : 300 < v.size
        · have h3z : (300 : Int) < ((v.size : Nat) : Int) := by omega
          rw [decide_eq_false (by omega)] at hst
          have HT : Hid (R = false) := Lib.hid hst
          clear hst h3
          go_wp2
          go_ret
          exact ⟨by rw [HT.out]; rfl, HB0.out⟩
        · have h3z : ((v.size : Nat) : Int) ≤ 300 := by omega
          rw [decide_eq_true (by omega), Bool.true_and] at hst
          have HT := Lib.hid hst
          clear hst h3
          go_wp2
          go_roundw
          case rel => exact ⟨k + 1, by go_num, by omega, by trivial, HT⟩
          case measure => simp [intOf]; omega
      · have hltz : ¬ (k : Int) < (n : Int) := by omega
        have HT : Hid (R = true) := Lib.hid (by rw [HK.out, List.drop_eq_nil_of_le (by have := HN.out; omega)]; rfl)
        clear HK HR
        go_wp2
        go_ret
        exact ⟨by rw [HT.out]; rfl, HB0.out⟩

set_option maxRecDepth 100000 in
set_option maxHeartbeats 2000000 in
theorem rSmall (r : Rec) (a : Option Addr) (n0 c : Nat) (w : World) (hv : Flds w (.slice a n0 c) r.fields) :
    Calls Tryd.prog 10 #[.agg #[.int .i64 r.id, .int .i64 r.ver, .int .i64 r.kind, .string r.lang, .slice a n0 c]] w fun e w' => e = .returned (.bool (smallR r)) ∧ Below w.heap.size w w' := by
  obtain ⟨id, ver, kind, lang, l⟩ := r
  obtain ⟨⟨a', c', he, hc, hcells⟩, hfl⟩ := hv
  simp only at hcells hfl hc he ⊢
  cases he
  obtain ⟨R, hR⟩ : ∃ R, R = smallR ⟨id, ver, kind, lang, l⟩ := ⟨_, rfl⟩
  rw [← hR]
  unfold smallR at hR
  simp only at hR
  obtain ⟨n, hnn⟩ : ∃ n, n = l.length := ⟨_, rfl⟩
  rw [← hnn] at hc hR ⊢
  have HB0 : Hid (Below w.heap.size w (recX w id ver kind lang a n c)) := Lib.hid ((Below.refl _ _).alloc (Nat.le_refl _) _)
  have HN := Lib.hid hnn
  have HC := Lib.hid hcells
  have HF := Lib.hid hfl
  clear hnn hcells hfl
  by_cases h70 : 70 < n
  · have h70z : (70 : Int) < (n : Int) := by omega
    rw [decide_eq_false (by omega)] at hR
    have HR : Hid (R = false) := Lib.hid hR
    clear hR h70
    go_enter Tryd.func10, Tryd.ntmps10
    go_wp2
    go_ret
    exact ⟨by rw [HR.out]; rfl, HB0.out⟩
  · have h70z : (n : Int) ≤ 70 := by omega
    rw [decide_eq_true (by omega), Bool.true_and] at hR
    have HR := Lib.hid hR
    clear hR h70
    go_enter Tryd.func10, Tryd.ntmps10
    go_wp2
    go_loopw [3] (fun vk wr => ∃ k : Nat, vk = .int .i64 k ∧ k ≤ n ∧ Hid (R = (l.drop k).all smallF) ∧ Hid (Below (recX w id ver kind lang a n c).heap.size (recX w id ver kind lang a n c) wr)) (fun vk _ => n - (intOf vk).toNat)
    case atStart => exact ⟨0, rfl, by omega, Lib.hid (by rw [HR.out, List.drop_zero]), Lib.hid (Below.refl _ _)⟩
    case round =>
      obtain ⟨k, rfl, hk, HK, HB⟩ := hrel
      have HBW := Lib.hid (HB0.out.bt HB.out)
      have q4 := block_cells HB.out 4 (.slice a n c) rfl
      by_cases hlt : k < n
      · have hltz : (k : Int) < (n : Int) := by omega
        obtain ⟨f, hf⟩ : ∃ f, l[k]? = some f := ⟨_, List.getElem?_eq_getElem (by have := HN.out; omega)⟩
        rcases HC.out with h0 | ⟨b, o, rfl, hbl, hcl⟩
        · rw [h0] at hf; cases hf
        obtain ⟨p0, p1, p2, p3⟩ := (four_of (hcl k f hf)).below HBW.out hbl
        have hat := HF.out f (List.mem_of_getElem? hf)
        have hst := HK.out
        rw [drop_step hf, List.all_cons] at hst
        have hcall := rSmallF (lb f.tag) (lb f.ind) f.subs f.auth f.sa f.subs.length f.sc wr (hat.below HBW.out (Nat.le_refl _))
        obtain ⟨B, hB⟩ : ∃ B, B = smallF f := ⟨_, rfl⟩
        rw [← hB] at hst
        have hB2 : (decide (f.subs.length ≤ 20) && f.subs.all fun s => decide (s.2.size ≤ 300)) = B := hB.symm
        rw [hB2] at hcall
        obtain ⟨T, hT⟩ : ∃ T, T = lb f.tag := ⟨_, rfl⟩
        obtain ⟨I, hI⟩ : ∃ I, I = lb f.ind := ⟨_, rfl⟩
        obtain ⟨sn, hsn⟩ : ∃ sn, sn = f.subs.length := ⟨_, rfl⟩
        rw [← hT] at p0 hcall
        rw [← hI] at p1 hcall
        rw [← hsn] at p2 hcall
        have HCALL := Lib.hid hcall
        clear HK hf hcl hcall hB hB2 hT hI hsn hat HR
        cases B with
        | false =>
          have HT : Hid (R = false) := Lib.hid hst
          clear hst
          go_wp2_with fail
          refine HCALL.out.mono ?_
          rintro e w2 ⟨rfl, b2⟩
          have HB2 := Lib.hid (HBW.out.bt b2)
          clear b2
          go_wp2
          go_ret
          exact ⟨by rw [HT.out]; rfl, HB2.out⟩
        | true =>
          rw [Bool.true_and] at hst
          have HT := Lib.hid hst
          clear hst
          go_wp2_with fail
          refine HCALL.out.mono ?_
          rintro e w2 ⟨rfl, b2⟩
          have HB2 := Lib.hid (HB.out.bt b2)
          clear b2
          go_wp2
          go_roundw
          case rel => exact ⟨k + 1, by go_num, by omega, HT, HB2⟩
          case measure => simp [intOf]; omega
      · have hltz : ¬ (k : Int) < (n : Int) := by omega
        have HT : Hid (R = true) := Lib.hid (by rw [HK.out, List.drop_eq_nil_of_le (by have := HN.out; omega)]; rfl)
        clear HK HR
        go_wp2
        go_ret
        exact ⟨by rw [HT.out]; rfl, HBW.out⟩

theorem smallR_small {r : Rec} (h : smallR r = true) : r.fields.length ≤ 70 ∧ ∀ f ∈ r.fields, f.subs.length ≤ 20 ∧ ∀ s ∈ f.subs, s.2.size ≤ 300 := by
  unfold smallR smallF at h
  simp only [Bool.and_eq_true, decide_eq_true_eq, List.all_eq_true] at h
  exact h
theorem lb_deq (a b : List UInt8) : ((lb a).toList == (lb b).toList) = decide (a = b) := by
  rw [lb_list, lb_list, Bool.eq_iff_iff]; simp
theorem int_deq (x y : Int) : (x == y) = decide (x = y) := by rw [Bool.eq_iff_iff]; simp
theorem bytes_deq (x y : ByteArray) : (x.toList == y.toList) = decide (x = y) := by
  rw [Bool.eq_iff_iff, decide_eq_true_eq]
  exact Lib.bytes_beq_iff x y

set_option maxRecDepth 100000 in
set_option maxHeartbeats 4000000 in
theorem rSame07 (f g : Fld) (w : World) (hf : FldAt w f) (hg : FldAt w g) (hl : f.subs.length ≤ 1000000) (hl2 : g.subs.length ≤ 1000000) :
    Calls Tryd.prog 39 #[.agg #[.string (lb f.tag), .string (lb f.ind), .slice f.sa f.subs.length f.sc, .int .i64 f.auth], .agg #[.string (lb g.tag), .string (lb g.ind), .slice g.sa g.subs.length g.sc, .int .i64 g.auth]] w fun e w' => e = .returned (.bool (sameF f g)) ∧ Below w.heap.size w w' := by
  obtain ⟨R, hR⟩ : ∃ R, R = sameF f g := ⟨_, rfl⟩
  rw [← hR]
  unfold sameF at hR
  have e1 := lb_deq f.tag g.tag
  have e2 := lb_deq f.ind g.ind
  have e3 := int_deq f.auth g.auth
  obtain ⟨tag, ind, subs, auth, sa, sc⟩ := f
  obtain ⟨tag', ind', subs', auth', sa', sc'⟩ := g
  obtain ⟨a1, c1, he, hc, hcells⟩ := hf
  obtain ⟨a2, c2, he', hc', hcells'⟩ := hg
  simp only at hl hl2 hcells hc he hcells' hc' he' hR e1 e2 e3 ⊢
  cases he
  cases he'
  obtain ⟨T, hT⟩ : ∃ T, T = lb tag := ⟨_, rfl⟩
  obtain ⟨I, hI⟩ : ∃ I, I = lb ind := ⟨_, rfl⟩
  obtain ⟨T', hT'⟩ : ∃ T, T = lb tag' := ⟨_, rfl⟩
  obtain ⟨I', hI'⟩ : ∃ I, I = lb ind' := ⟨_, rfl⟩
  rw [← hT, ← hT'] at e1
  rw [← hI, ← hI'] at e2
  rw [← hT, ← hI, ← hT', ← hI']
  obtain ⟨E1, h1⟩ : ∃ E, E = decide (tag = tag') := ⟨_, rfl⟩
  obtain ⟨E2, h2⟩ : ∃ E, E = decide (ind = ind') := ⟨_, rfl⟩
  rw [← h1] at e1 hR
  rw [← h2] at e2 hR
  obtain ⟨n, hnn⟩ : ∃ n, n = subs.length := ⟨_, rfl⟩
  obtain ⟨m, hmm⟩ : ∃ n, n = subs'.length := ⟨_, rfl⟩
  rw [← hnn] at hl hc ⊢
  rw [← hmm] at hl2 hc' ⊢
  obtain ⟨W1, hW1⟩ : ∃ W1, W1 = fldX w T I sa n sc auth := ⟨_, rfl⟩
  obtain ⟨W2, hW2⟩ : ∃ W2, W2 = fldX W1 T' I' sa' m sc' auth' := ⟨_, rfl⟩
  have s1 : W1.heap.size = w.heap.size + 1 := by rw [hW1]; exact World.size_alloc _ _
  have b1 : Below w.heap.size w W1 := by rw [hW1]; exact (Below.refl _ _).alloc (Nat.le_refl _) _
  have b2 : Below W1.heap.size W1 W2 := by rw [hW2]; exact (Below.refl _ _).alloc (Nat.le_refl _) _
  have cells1 : ∀ W, Below W2.heap.size W2 W → W.cell? ⟨w.heap.size, 0, none⟩ = some (.string T) ∧ W.cell? ⟨w.heap.size, 1, none⟩ = some (.string I) ∧ W.cell? ⟨w.heap.size, 2, none⟩ = some (.slice sa n sc) ∧ W.cell? ⟨w.heap.size, 3, none⟩ = some (.int .i64 auth) := fun W h => by
    have h' := b2.bt h
    rw [hW1] at h'
    exact ⟨block_cells h' 0 _ rfl, block_cells h' 1 _ rfl, block_cells h' 2 _ rfl, block_cells h' 3 _ rfl⟩
  have cells2 : ∀ W, Below W2.heap.size W2 W → W.cell? ⟨w.heap.size + 1, 0, none⟩ = some (.string T') ∧ W.cell? ⟨w.heap.size + 1, 1, none⟩ = some (.string I') ∧ W.cell? ⟨w.heap.size + 1, 2, none⟩ = some (.slice sa' m sc') ∧ W.cell? ⟨w.heap.size + 1, 3, none⟩ = some (.int .i64 auth') := fun W h => by
    rw [hW2] at h
    rw [← s1]
    exact ⟨block_cells h 0 _ rfl, block_cells h 1 _ rfl, block_cells h 2 _ rfl, block_cells h 3 _ rfl⟩
  have HB0 : Hid (Below w.heap.size w W2) := Lib.hid (b1.bt b2)
  obtain ⟨q0, q1, q2, q3⟩ := cells1 W2 (Below.refl _ _)
  obtain ⟨r0, r1, r2, r3⟩ := cells2 W2 (Below.refl _ _)
  rw [hW2, hW1] at q0 q1 q2 q3 r0 r1 r2 r3 cells1 cells2 HB0
  have HC1 := Lib.hid cells1
  have HC2 := Lib.hid cells2
  have HN := Lib.hid hnn
  have HM := Lib.hid hmm
  have HA := Lib.hid hcells
  have HA' := Lib.hid hcells'
  clear hT hI hT' hI' h1 h2 hnn hmm hW1 hW2 s1 b1 b2 cells1 cells2 hcells hcells' W1 W2
  cases E1 with
  | false =>
    have HR : Hid (R = false) := Lib.hid hR
    clear hR
    go_enter Tryd.func39, Tryd.ntmps39
    go_wp2
    go_ret
    exact ⟨by rw [HR.out]; rfl, HB0.out⟩
  | true =>
    cases E2 with
    | false =>
      have HR : Hid (R = false) := Lib.hid hR
      clear hR
      go_enter Tryd.func39, Tryd.ntmps39
      go_wp2
      go_ret
      exact ⟨by rw [HR.out]; rfl, HB0.out⟩
    | true =>
      by_cases h3 : auth = auth'
      case neg =>
        rw [decide_eq_false h3] at e3 hR
        have HR : Hid (R = false) := Lib.hid hR
        clear hR h3
        go_enter Tryd.func39, Tryd.ntmps39
        go_wp2
        go_ret
        exact ⟨by rw [HR.out]; rfl, HB0.out⟩
      case pos =>
        subst h3
        rw [decide_eq_true rfl, Bool.true_and, Bool.true_and, Bool.true_and] at hR
        clear e3
        by_cases hnm : n = m
        · subst hnm
          have HR := Lib.hid hR
          clear hR
          go_enter Tryd.func39, Tryd.ntmps39
          go_wp2
          go_loopw [5] (fun vk wr => ∃ k : Nat, vk = .int .i64 k ∧ k ≤ n ∧ Hid (subs.take k = subs'.take k) ∧ Hid (Below (fldX (fldX w T I sa n sc auth) T' I' sa' n sc' auth).heap.size (fldX (fldX w T I sa n sc auth) T' I' sa' n sc' auth) wr)) (fun vk _ => n - (intOf vk).toNat)
          case atStart => exact ⟨0, rfl, by omega, Lib.hid rfl, Lib.hid (Below.refl _ _)⟩
          case round =>
            obtain ⟨k, rfl, hk, HK, HB⟩ := hrel
            clear q0 q1 q2 q3 r0 r1 r2 r3
            obtain ⟨q0, q1, q2, q3⟩ := HC1.out wr HB.out
            obtain ⟨r0, r1, r2, r3⟩ := HC2.out wr HB.out
            have HBW := Lib.hid (HB0.out.bt HB.out)
            by_cases hlt : k < n
            · have hltz : (k : Int) < (n : Int) := by omega
              obtain ⟨s, hs⟩ : ∃ s, subs[k]? = some s := ⟨_, List.getElem?_eq_getElem (by have := HN.out; omega)⟩
              obtain ⟨s', hs'⟩ : ∃ s, subs'[k]? = some s := ⟨_, List.getElem?_eq_getElem (by have := HM.out; omega)⟩
              rcases HA.out with h0 | ⟨b, o, rfl, hbl, hcl⟩
              · rw [h0] at hs; cases hs
              rcases HA'.out with h0 | ⟨b', o', rfl, hbl', hcl'⟩
              · rw [h0] at hs'; cases hs'
              obtain ⟨p0, p1⟩ := sub_cells (hcl k s hs)
              obtain ⟨p0', p1'⟩ := sub_cells (hcl' k s' hs')
              replace p0 := (HBW.out.cell (p := ⟨b, o + k * 2, none⟩) hbl).trans p0
              replace p1 := (HBW.out.cell (p := ⟨b, o + k * 2 + 1, none⟩) hbl).trans p1
              replace p0' := (HBW.out.cell (p := ⟨b', o' + k * 2, none⟩) hbl').trans p0'
              replace p1' := (HBW.out.cell (p := ⟨b', o' + k * 2 + 1, none⟩) hbl').trans p1'
              obtain ⟨c, v⟩ := s
              obtain ⟨c', v'⟩ := s'
              simp only at p0 p1 p0' p1'
              have d1 := int_deq (c : Int) (c' : Int)
              have d2 := bytes_deq v v'
              have HBd : Hid (Below (fldX (fldX w T I (some ⟨b, o, none⟩) n sc auth) T' I' (some ⟨b', o', none⟩) n sc' auth).heap.size (fldX (fldX w T I (some ⟨b, o, none⟩) n sc auth) T' I' (some ⟨b', o', none⟩) n sc' auth) wr.drew) := Lib.hid HB.out.drew
              have HBWd := Lib.hid HBW.out.drew
              clear hcl hcl'
              by_cases hcc : c = c'
              · subst hcc
                clear d1
                by_cases hvv : v = v'
                · subst hvv
                  clear d2
                  have hvv : (v.toList == v.toList) = true := by simp
                  have HT : Hid (subs.take (k + 1) = subs'.take (k + 1)) := Lib.hid (by
                    rw [List.take_add_one, List.take_add_one, HK.out, hs, hs'])
                  clear HK hs hs' HR
                  go_wp2_with fail
                  go_region
                  all_goals go_wp2
                  go_roundw
                  case rel => exact ⟨k + 1, by go_num, by omega, HT, HBd⟩
                  case measure => simp [intOf]; omega
                · rw [decide_eq_false hvv] at d2
                  have HT : Hid (R = false) := Lib.hid (by
                    rw [HR.out]
                    refine decide_eq_false (fun e => ?_)
                    rw [e, hs'] at hs
                    cases hs
                    exact hvv rfl)
                  clear HK hs hs' hvv HR
                  go_wp2_with fail
                  go_region
                  all_goals go_wp2
                  go_ret
                  exact ⟨by rw [HT.out]; rfl, HBWd.out⟩
              · rw [decide_eq_false (by omega)] at d1
                have HT : Hid (R = false) := Lib.hid (by
                  rw [HR.out]
                  refine decide_eq_false (fun e => ?_)
                  rw [e, hs'] at hs
                  cases hs
                  exact hcc rfl)
                clear HK hs hs' hcc HR
                go_wp2_with fail
                go_region
                all_goals go_wp2
                go_ret
                exact ⟨by rw [HT.out]; rfl, HBWd.out⟩
            · have hltz : ¬ (k : Int) < (n : Int) := by omega
              have HT : Hid (R = true) := Lib.hid (by
                rw [HR.out]
                refine decide_eq_true ?_
                have h := HK.out
                rwa [List.take_of_length_le (by have := HN.out; omega), List.take_of_length_le (by have := HM.out; omega)] at h)
              clear HK HR
              go_wp2
              go_ret
              exact ⟨by rw [HT.out]; rfl, HBW.out⟩
        · have hnz : ((n : Int) == (m : Int)) = false := by
            have : (n : Int) ≠ (m : Int) := by omega
            simpa using this
          have HR : Hid (R = false) := Lib.hid (by
            rw [hR]
            refine decide_eq_false (fun e => hnm ?_)
            rw [HN.out, HM.out, e])
          clear hR hnm
          go_enter Tryd.func39, Tryd.ntmps39
          go_wp2
          go_ret
          exact ⟨by rw [HR.out]; rfl, HB0.out⟩
end Go.Proofs.YtimecccphbgdeaaDoor
