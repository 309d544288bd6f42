/- Equal fields: the walks of the reference's Same and of the program's Same, with slices.Equal at subfields (layers 16, 08). -/
import Derived.Test.YtkfjeolpbopcnaaGreatDoorMfq
import Derived.Test.YtkfjeolpbopcnaaGreatDoorMup
import Derived.Test.YtkfjeolpbopcnaaGreatDoorMdn
import Derived.Lib.SlicesS
namespace Go.Proofs.YtkfjeolpbopcnaaGreatDoor
open Go Go.RowKit

/-- The world with a field's block; with a record's. -/
abbrev fldX (w : World) (T I : ByteArray) (sa : Option Addr) (n sc : Nat) (auth : Int) : World := w.alloc (.cells #[.string T, .string I, .slice sa n sc, .int .i64 auth] 35)
abbrev recX (w : World) (id ver kind : Int) (lang : ByteArray) (a : Option Addr) (n c : Nat) : World := w.alloc (.cells #[.int .i64 id, .int .i64 ver, .int .i64 kind, .string lang, .slice a n c] 24)

theorem lb_deq (a b : List UInt8) : ((lb a).toList == (lb b).toList) = decide (a = b) := by
  rw [lb_list, lb_list, Bool.eq_iff_iff]; simp
theorem int_deq (x y : Int) : (x == y) = decide (x = y) := by rw [Bool.eq_iff_iff]; simp
theorem bytes_deq (x y : ByteArray) : (x.toList == y.toList) = decide (x = y) := by
  rw [Bool.eq_iff_iff, decide_eq_true_eq]
  exact Lib.bytes_beq_iff x y

set_option maxRecDepth 100000 in
set_option maxHeartbeats 4000000 in
theorem rSame07 (f g : Fld) (w : World) (hf : FldAt w f) (hg : FldAt w g) (hl : f.subs.length ≤ 1000000) (hl2 : g.subs.length ≤ 1000000) :
    Calls Tryz.prog 36 #[.agg #[.string (lb f.tag), .string (lb f.ind), .slice f.sa f.subs.length f.sc, .int .i64 f.auth], .agg #[.string (lb g.tag), .string (lb g.ind), .slice g.sa g.subs.length g.sc, .int .i64 g.auth]] w fun e w' => e = .returned (.bool (sameF f g)) ∧ Below w.heap.size w w' := by
  obtain ⟨R, hR⟩ : ∃ R, R = sameF f g := ⟨_, rfl⟩
  rw [← hR]
  unfold sameF at hR
  have e1 := lb_deq f.tag g.tag
  have e2 := lb_deq f.ind g.ind
  have e3 := int_deq f.auth g.auth
  obtain ⟨tag, ind, subs, auth, sa, sc⟩ := f
  obtain ⟨tag', ind', subs', auth', sa', sc'⟩ := g
  obtain ⟨a1, c1, he, hc, hcells⟩ := hf
  obtain ⟨a2, c2, he', hc', hcells'⟩ := hg
  simp only at hl hl2 hcells hc he hcells' hc' he' hR e1 e2 e3 ⊢
  cases he
  cases he'
  obtain ⟨T, hT⟩ : ∃ T, T = lb tag := ⟨_, rfl⟩
  obtain ⟨I, hI⟩ : ∃ I, I = lb ind := ⟨_, rfl⟩
  obtain ⟨T', hT'⟩ : ∃ T, T = lb tag' := ⟨_, rfl⟩
  obtain ⟨I', hI'⟩ : ∃ I, I = lb ind' := ⟨_, rfl⟩
  rw [← hT, ← hT'] at e1
  rw [← hI, ← hI'] at e2
  rw [← hT, ← hI, ← hT', ← hI']
  obtain ⟨E1, h1⟩ : ∃ E, E = decide (tag = tag') := ⟨_, rfl⟩
  obtain ⟨E2, h2⟩ : ∃ E, E = decide (ind = ind') := ⟨_, rfl⟩
  rw [← h1] at e1 hR
  rw [← h2] at e2 hR
  obtain ⟨n, hnn⟩ : ∃ n, n = subs.length := ⟨_, rfl⟩
  obtain ⟨m, hmm⟩ : ∃ n, n = subs'.length := ⟨_, rfl⟩
  rw [← hnn] at hl hc ⊢
  rw [← hmm] at hl2 hc' ⊢
  obtain ⟨W1, hW1⟩ : ∃ W1, W1 = fldX w T I sa n sc auth := ⟨_, rfl⟩
  obtain ⟨W2, hW2⟩ : ∃ W2, W2 = fldX W1 T' I' sa' m sc' auth' := ⟨_, rfl⟩
  have s1 : W1.heap.size = w.heap.size + 1 := by rw [hW1]; exact World.size_alloc _ _
  have b1 : Below w.heap.size w W1 := by rw [hW1]; exact (Below.refl _ _).alloc (Nat.le_refl _) _
  have b2 : Below W1.heap.size W1 W2 := by rw [hW2]; exact (Below.refl _ _).alloc (Nat.le_refl _) _
  have cells1 : ∀ W, Below W2.heap.size W2 W → W.cell? ⟨w.heap.size, 0, none⟩ = some (.string T) ∧ W.cell? ⟨w.heap.size, 1, none⟩ = some (.string I) ∧ W.cell? ⟨w.heap.size, 2, none⟩ = some (.slice sa n sc) ∧ W.cell? ⟨w.heap.size, 3, none⟩ = some (.int .i64 auth) := fun W h => by
    have h' := b2.bt h
    rw [hW1] at h'
    exact ⟨block_cells h' 0 _ rfl, block_cells h' 1 _ rfl, block_cells h' 2 _ rfl, block_cells h' 3 _ rfl⟩
  have cells2 : ∀ W, Below W2.heap.size W2 W → W.cell? ⟨w.heap.size + 1, 0, none⟩ = some (.string T') ∧ W.cell? ⟨w.heap.size + 1, 1, none⟩ = some (.string I') ∧ W.cell? ⟨w.heap.size + 1, 2, none⟩ = some (.slice sa' m sc') ∧ W.cell? ⟨w.heap.size + 1, 3, none⟩ = some (.int .i64 auth') := fun W h => by
    rw [hW2] at h
    rw [← s1]
    exact ⟨block_cells h 0 _ rfl, block_cells h 1 _ rfl, block_cells h 2 _ rfl, block_cells h 3 _ rfl⟩
  have HB0 : Hid (Below w.heap.size w W2) := Lib.hid (b1.bt b2)
  obtain ⟨q0, q1, q2, q3⟩ := cells1 W2 (Below.refl _ _)
  obtain ⟨r0, r1, r2, r3⟩ := cells2 W2 (Below.refl _ _)
  rw [hW2, hW1] at q0 q1 q2 q3 r0 r1 r2 r3 cells1 cells2 HB0
  have HC1 := Lib.hid cells1
  have HC2 := Lib.hid cells2
  have HN := Lib.hid hnn
  have HM := Lib.hid hmm
  have HA := Lib.hid hcells
  have HA' := Lib.hid hcells'
  clear hT hI hT' hI' h1 h2 hnn hmm hW1 hW2 s1 b1 b2 cells1 cells2 hcells hcells' W1 W2
  cases E1 with
  | false =>
    have HR : Hid (R = false) := Lib.hid hR
    clear hR
    go_enter Tryz.func36, Tryz.ntmps36
    go_wp2
    go_ret
    exact ⟨by rw [HR.out]; rfl, HB0.out⟩
  | true =>
    cases E2 with
    | false =>
      have HR : Hid (R = false) := Lib.hid hR
      clear hR
      go_enter Tryz.func36, Tryz.ntmps36
      go_wp2
      go_ret
      exact ⟨by rw [HR.out]; rfl, HB0.out⟩
    | true =>
      by_cases h3 : auth = auth'
      case neg =>
        rw [decide_eq_false h3] at e3 hR
        have HR : Hid (R = false) := Lib.hid hR
        clear hR h3
        go_enter Tryz.func36, Tryz.ntmps36
        go_wp2
        go_ret
        exact ⟨by rw [HR.out]; rfl, HB0.out⟩
      case pos =>
        subst h3
        rw [decide_eq_true rfl, Bool.true_and, Bool.true_and, Bool.true_and] at hR
        clear e3
        by_cases hnm : n = m
        · subst hnm
          have HR := Lib.hid hR
          clear hR
          go_enter Tryz.func36, Tryz.ntmps36
          go_wp2
          go_loopw [5] (fun vk wr => ∃ k : Nat, vk = .int .i64 k ∧ k ≤ n ∧ Hid (subs.take k = subs'.take k) ∧ Hid (Below (fldX (fldX w T I sa n sc auth) T' I' sa' n sc' auth).heap.size (fldX (fldX w T I sa n sc auth) T' I' sa' n sc' auth) wr)) (fun vk _ => n - (intOf vk).toNat)
          case atStart => exact ⟨0, rfl, by omega, Lib.hid rfl, Lib.hid (Below.refl _ _)⟩
          case round =>
            obtain ⟨k, rfl, hk, HK, HB⟩ := hrel
            clear q0 q1 q2 q3 r0 r1 r2 r3
            obtain ⟨q0, q1, q2, q3⟩ := HC1.out wr HB.out
            obtain ⟨r0, r1, r2, r3⟩ := HC2.out wr HB.out
            have HBW := Lib.hid (HB0.out.bt HB.out)
            by_cases hlt : k < n
            · have hltz : (k : Int) < (n : Int) := by omega
              obtain ⟨s, hs⟩ : ∃ s, subs[k]? = some s := ⟨_, List.getElem?_eq_getElem (by have := HN.out; omega)⟩
              obtain ⟨s', hs'⟩ : ∃ s, subs'[k]? = some s := ⟨_, List.getElem?_eq_getElem (by have := HM.out; omega)⟩
              rcases HA.out with h0 | ⟨b, o, rfl, hbl, hcl⟩
              · rw [h0] at hs; cases hs
              rcases HA'.out with h0 | ⟨b', o', rfl, hbl', hcl'⟩
              · rw [h0] at hs'; cases hs'
              obtain ⟨p0, p1⟩ := sub_cells (hcl k s hs)
              obtain ⟨p0', p1'⟩ := sub_cells (hcl' k s' hs')
              replace p0 := (HBW.out.cell (p := ⟨b, o + k * 2, none⟩) hbl).trans p0
              replace p1 := (HBW.out.cell (p := ⟨b, o + k * 2 + 1, none⟩) hbl).trans p1
              replace p0' := (HBW.out.cell (p := ⟨b', o' + k * 2, none⟩) hbl').trans p0'
              replace p1' := (HBW.out.cell (p := ⟨b', o' + k * 2 + 1, none⟩) hbl').trans p1'
              obtain ⟨c, v⟩ := s
              obtain ⟨c', v'⟩ := s'
              simp only at p0 p1 p0' p1'
              have d1 := int_deq (c : Int) (c' : Int)
              have d2 := bytes_deq v v'
              have HBd : Hid (Below (fldX (fldX w T I (some ⟨b, o, none⟩) n sc auth) T' I' (some ⟨b', o', none⟩) n sc' auth).heap.size (fldX (fldX w T I (some ⟨b, o, none⟩) n sc auth) T' I' (some ⟨b', o', none⟩) n sc' auth) wr.drew) := Lib.hid HB.out.drew
              have HBWd := Lib.hid HBW.out.drew
              clear hcl hcl'
              by_cases hcc : c = c'
              · subst hcc
                clear d1
                by_cases hvv : v = v'
                · subst hvv
                  clear d2
                  have hvv : (v.toList == v.toList) = true := by simp
                  have HT : Hid (subs.take (k + 1) = subs'.take (k + 1)) := Lib.hid (by
                    rw [List.take_add_one, List.take_add_one, HK.out, hs, hs'])
                  clear HK hs hs' HR
                  go_wp2_with fail
                  go_region
                  all_goals go_wp2
                  go_roundw
                  case rel => exact ⟨k + 1, by go_num, by omega, HT, HBd⟩
                  case measure => simp [intOf]; omega
                · rw [decide_eq_false hvv] at d2
                  have HT : Hid (R = false) := Lib.hid (by
                    rw [HR.out]
                    refine decide_eq_false (fun e => ?_)
                    rw [e, hs'] at hs
                    cases hs
                    exact hvv rfl)
                  clear HK hs hs' hvv HR
                  go_wp2_with fail
                  go_region
                  all_goals go_wp2
                  go_ret
                  exact ⟨by rw [HT.out]; rfl, HBWd.out⟩
              · rw [decide_eq_false (by omega)] at d1
                have HT : Hid (R = false) := Lib.hid (by
                  rw [HR.out]
                  refine decide_eq_false (fun e => ?_)
                  rw [e, hs'] at hs
                  cases hs
                  exact hcc rfl)
                clear HK hs hs' hcc HR
                go_wp2_with fail
                go_region
                all_goals go_wp2
                go_ret
                exact ⟨by rw [HT.out]; rfl, HBWd.out⟩
            · have hltz : ¬ (k : Int) < (n : Int) := by omega
              have HT : Hid (R = true) := Lib.hid (by
                rw [HR.out]
                refine decide_eq_true ?_
                have h := HK.out
                rwa [List.take_of_length_le (by have := HN.out; omega), List.take_of_length_le (by have := HM.out; omega)] at h)
              clear HK HR
              go_wp2
              go_ret
              exact ⟨by rw [HT.out]; rfl, HBW.out⟩
        · have hnz : ((n : Int) == (m : Int)) = false := by
            have : (n : Int) ≠ (m : Int) := by omega
            simpa using this
          have HR : Hid (R = false) := Lib.hid (by
            rw [hR]
            refine decide_eq_false (fun e => hnm ?_)
            rw [HN.out, HM.out, e])
          clear hR hnm
          go_enter Tryz.func36, Tryz.ntmps36
          go_wp2
          go_ret
          exact ⟨by rw [HR.out]; rfl, HB0.out⟩

set_option maxRecDepth 100000 in
set_option maxHeartbeats 4000000 in
theorem sEqual (sa sa' : Option Addr) (n0 m0 sc sc' : Nat) (subs subs' : List (Nat × ByteArray)) (w : World) (hf : Rows subE 2 w (.slice sa n0 sc) subs) (hg : Rows subE 2 w (.slice sa' m0 sc') subs') (hl : subs.length ≤ 1000000) :
    Calls Tryz.prog 79 #[.slice sa n0 sc, .slice sa' m0 sc'] w fun e w' => e = .returned (.bool (decide (subs = subs'))) ∧ Dr w w' := by
  obtain ⟨R, hR⟩ : ∃ R, R = decide (subs = subs') := ⟨_, rfl⟩
  rw [← hR]
  obtain ⟨a1, c1, he, hc, hcells⟩ := hf
  obtain ⟨a2, c2, he', hc', hcells'⟩ := hg
  cases he
  cases he'
  obtain ⟨n, hnn⟩ : ∃ n, n = subs.length := ⟨_, rfl⟩
  obtain ⟨m, hmm⟩ : ∃ n, n = subs'.length := ⟨_, rfl⟩
  rw [← hnn] at hl hc ⊢
  rw [← hmm] at hc' ⊢
  have HN := Lib.hid hnn
  have HM := Lib.hid hmm
  have HA := Lib.hid hcells
  have HA' := Lib.hid hcells'
  clear hnn hmm hcells hcells'
  by_cases hnm : n = m
  · subst hnm
    have HR := Lib.hid hR
    clear hR
    go_enter Tryz.func79, Tryz.ntmps79
    go_wp2
    go_loopw [13] (fun vk wr => ∃ k : Nat, vk = .int .i64 k ∧ k ≤ n ∧ Hid (subs.take k = subs'.take k) ∧ Hid (Dr w wr)) (fun vk _ => n - (intOf vk).toNat)
    case atStart => exact ⟨0, rfl, by omega, Lib.hid rfl, Lib.hid (Dr.refl _)⟩
    case round =>
      obtain ⟨k, rfl, hk, HK, HD⟩ := hrel
      by_cases hlt : k < n
      · have hltz : (k : Int) < (n : Int) := by omega
        obtain ⟨s, hs⟩ : ∃ s, subs[k]? = some s := ⟨_, List.getElem?_eq_getElem (by have := HN.out; omega)⟩
        obtain ⟨s', hs'⟩ : ∃ s, subs'[k]? = some s := ⟨_, List.getElem?_eq_getElem (by have := HM.out; omega)⟩
        rcases HA.out with h0 | ⟨b, o, rfl, hbl, hcl⟩
        · rw [h0] at hs; cases hs
        rcases HA'.out with h0 | ⟨b', o', rfl, hbl', hcl'⟩
        · rw [h0] at hs'; cases hs'
        have hbw := HD.out.below w.heap.size
        obtain ⟨p0, p1⟩ := sub_cells (hcl k s hs)
        obtain ⟨p0', p1'⟩ := sub_cells (hcl' k s' hs')
        replace p0 := (hbw.cell (p := ⟨b, o + k * 2, none⟩) hbl).trans p0
        replace p1 := (hbw.cell (p := ⟨b, o + k * 2 + 1, none⟩) hbl).trans p1
        replace p0' := (hbw.cell (p := ⟨b', o' + k * 2, none⟩) hbl').trans p0'
        replace p1' := (hbw.cell (p := ⟨b', o' + k * 2 + 1, none⟩) hbl').trans p1'
        obtain ⟨c, v⟩ := s
        obtain ⟨c', v'⟩ := s'
        simp only at p0 p1 p0' p1'
        have d1 := int_deq (c : Int) (c' : Int)
        have d2 := bytes_deq v v'
        have HDd : Hid (Dr w wr.drew) := Lib.hid HD.out.drew
        clear hcl hcl' hbw
        by_cases hcc : c = c'
        · subst hcc
          clear d1
          by_cases hvv : v = v'
          · subst hvv
            clear d2
            have hvv : (v.toList == v.toList) = true := by simp
            have HT : Hid (subs.take (k + 1) = subs'.take (k + 1)) := Lib.hid (by
              rw [List.take_add_one, List.take_add_one, HK.out, hs, hs'])
            clear HK hs hs' HR
            go_wp2_with fail
            go_region
            all_goals go_wp2
            go_roundw
            case rel => exact ⟨k + 1, by go_num, by omega, HT, HDd⟩
            case measure => simp [intOf]; omega
          · rw [decide_eq_false hvv] at d2
            have HT : Hid (R = false) := Lib.hid (by
              rw [HR.out]
              refine decide_eq_false (fun e => ?_)
              rw [e, hs'] at hs
              cases hs
              exact hvv rfl)
            clear HK hs hs' hvv HR
            go_wp2_with fail
            go_region
            all_goals go_wp2
            go_ret
            exact ⟨by rw [HT.out]; rfl, HDd.out⟩
        · rw [decide_eq_false (by omega)] at d1
          have HT : Hid (R = false) := Lib.hid (by
            rw [HR.out]
            refine decide_eq_false (fun e => ?_)
            rw [e, hs'] at hs
            cases hs
            exact hcc rfl)
          clear HK hs hs' hcc HR
          go_wp2_with fail
          go_region
          all_goals go_wp2
          go_ret
          exact ⟨by rw [HT.out]; rfl, HDd.out⟩
      · have hltz : ¬ (k : Int) < (n : Int) := by omega
        have HT : Hid (R = true) := Lib.hid (by
          rw [HR.out]
          refine decide_eq_true ?_
          have h := HK.out
          rwa [List.take_of_length_le (by have := HN.out; omega), List.take_of_length_le (by have := HM.out; omega)] at h)
        clear HK HR
        go_wp2
        go_ret
        exact ⟨by rw [HT.out]; rfl, HD.out⟩
  · have hnz : ((n : Int) == (m : Int)) = false := by
      have : (n : Int) ≠ (m : Int) := by omega
      simpa using this
    have HR : Hid (R = false) := Lib.hid (by
      rw [hR]
      refine decide_eq_false (fun e => hnm ?_)
      rw [HN.out, HM.out, e])
    clear hR hnm
    go_enter Tryz.func79, Tryz.ntmps79
    go_wp2
    go_ret
    exact ⟨by rw [HR.out]; rfl, Dr.refl _⟩


/-- A field's value as an argument. -/
def fldV (f : Fld) : Value := .agg #[.string (lb f.tag), .string (lb f.ind), .slice f.sa f.subs.length f.sc, .int .i64 f.auth]
set_option maxRecDepth 100000 in
set_option maxHeartbeats 4000000 in
theorem pSame07 (f g : Fld) (w : World) (hf : FldAt w f) (hg : FldAt w g) (hl : f.subs.length ≤ 1000000) :
    Calls Tryz.prog 42 #[fldV f, fldV g] w fun e w' => e = .returned (.bool (sameF f g)) ∧ Below w.heap.size w w' := by
  unfold fldV
  obtain ⟨R, hR⟩ : ∃ R, R = sameF f g := ⟨_, rfl⟩
  rw [← hR]
  unfold sameF at hR
  have e1 := lb_deq f.tag g.tag
  have e2 := lb_deq f.ind g.ind
  have e3 := int_deq f.auth g.auth
  have hall : ∀ W, Below w.heap.size w W → Calls Tryz.prog 79 #[.slice f.sa f.subs.length f.sc, .slice g.sa g.subs.length g.sc] W fun e w' => e = .returned (.bool (decide (f.subs = g.subs))) ∧ Dr W w' := fun W hW => sEqual f.sa g.sa f.subs.length g.subs.length f.sc g.sc f.subs g.subs W (hf.below hW (Nat.le_refl _)) (hg.below hW (Nat.le_refl _)) hl
  obtain ⟨tag, ind, subs, auth, sa, sc⟩ := f
  obtain ⟨tag', ind', subs', auth', sa', sc'⟩ := g
  simp only at hR e1 e2 e3 hall ⊢
  clear hf hg hl
  obtain ⟨T, hT⟩ : ∃ T, T = lb tag := ⟨_, rfl⟩
  obtain ⟨I, hI⟩ : ∃ I, I = lb ind := ⟨_, rfl⟩
  obtain ⟨T', hT'⟩ : ∃ T, T = lb tag' := ⟨_, rfl⟩
  obtain ⟨I', hI'⟩ : ∃ I, I = lb ind' := ⟨_, rfl⟩
  rw [← hT, ← hT'] at e1
  rw [← hI, ← hI'] at e2
  rw [← hT, ← hI, ← hT', ← hI']
  obtain ⟨E1, h1⟩ : ∃ E, E = decide (tag = tag') := ⟨_, rfl⟩
  obtain ⟨E2, h2⟩ : ∃ E, E = decide (ind = ind') := ⟨_, rfl⟩
  obtain ⟨E3, h3⟩ : ∃ E, E = decide (auth = auth') := ⟨_, rfl⟩
  obtain ⟨E4, h4⟩ : ∃ E, E = decide (subs = subs') := ⟨_, rfl⟩
  rw [← h1] at e1 hR
  rw [← h2] at e2 hR
  rw [← h3] at e3 hR
  rw [← h4] at hall hR
  obtain ⟨n, hnn⟩ : ∃ n, n = subs.length := ⟨_, rfl⟩
  obtain ⟨m, hmm⟩ : ∃ n, n = subs'.length := ⟨_, rfl⟩
  rw [← hnn, ← hmm] at hall ⊢
  have HB0 : Hid (Below w.heap.size w (fldX (fldX w T I sa n sc auth) T' I' sa' m sc' auth')) := Lib.hid (((Below.refl _ _).alloc (Nat.le_refl _) _).alloc (by simp) _)
  have HALL := Lib.hid hall
  have HR := Lib.hid hR
  clear hT hI hT' hI' h1 h2 h3 h4 hnn hmm hall hR
  cases E1 with
  | false =>
    go_enter Tryz.func42, Tryz.ntmps42
    go_wp2
    go_ret
    exact ⟨by rw [HR.out]; rfl, HB0.out⟩
  | true =>
    cases E2 with
    | false =>
      go_enter Tryz.func42, Tryz.ntmps42
      go_wp2
      go_ret
      exact ⟨by rw [HR.out]; rfl, HB0.out⟩
    | true =>
      cases E3 with
      | false =>
        go_enter Tryz.func42, Tryz.ntmps42
        go_wp2
        go_ret
        exact ⟨by rw [HR.out]; rfl, HB0.out⟩
      | true =>
        go_enter Tryz.func42, Tryz.ntmps42
        go_wp2_with fail
        refine (HALL.out _ HB0.out).mono ?_
        rintro e w1 ⟨rfl, d1⟩
        have HB1 := Lib.hid (HB0.out.trans (d1.below w.heap.size))
        clear d1
        go_wp2
        go_ret
        exact ⟨by rw [HR.out]; simp, HB1.out⟩
end Go.Proofs.YtkfjeolpbopcnaaGreatDoor
