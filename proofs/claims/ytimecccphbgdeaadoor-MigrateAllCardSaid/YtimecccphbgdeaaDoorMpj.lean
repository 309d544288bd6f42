/- The walks of slices.Equal at subfields and of joined (layer 18). -/
import Derived.Test.YtimecccphbgdeaaDoorMrw
import Derived.Test.YtimecccphbgdeaaDoorMsm
namespace Go.Proofs.YtimecccphbgdeaaDoor
open Go Go.RowKit

set_option maxRecDepth 100000 in
set_option maxHeartbeats 4000000 in
theorem sEqual (sa sa' : Option Addr) (n0 m0 sc sc' : Nat) (subs subs' : List (Nat × ByteArray)) (w : World) (hf : Rows subE 2 w (.slice sa n0 sc) subs) (hg : Rows subE 2 w (.slice sa' m0 sc') subs') (hl : subs.length ≤ 1000000) :
    Calls Tryd.prog 49 #[.slice sa n0 sc, .slice sa' m0 sc'] w fun e w' => e = .returned (.bool (decide (subs = subs'))) ∧ Dr w w' := by
  obtain ⟨R, hR⟩ : ∃ R, R = decide (subs = subs') := ⟨_, rfl⟩
  rw [← hR]
  obtain ⟨a1, c1, he, hc, hcells⟩ := hf
  obtain ⟨a2, c2, he', hc', hcells'⟩ := hg
  cases he
  cases he'
  obtain ⟨n, hnn⟩ : ∃ n, n = subs.length := ⟨_, rfl⟩
  obtain ⟨m, hmm⟩ : ∃ n, n = subs'.length := ⟨_, rfl⟩
  rw [← hnn] at hl hc ⊢
  rw [← hmm] at hc' ⊢
  have HN := Lib.hid hnn
  have HM := Lib.hid hmm
  have HA := Lib.hid hcells
  have HA' := Lib.hid hcells'
  clear hnn hmm hcells hcells'
  by_cases hnm : n = m
  · subst hnm
    have HR := Lib.hid hR
    clear hR
    go_enter Tryd.func49, Tryd.ntmps49
    go_wp2
    go_loopw [13] (fun vk wr => ∃ k : Nat, vk = .int .i64 k ∧ k ≤ n ∧ Hid (subs.take k = subs'.take k) ∧ Hid (Dr w wr)) (fun vk _ => n - (intOf vk).toNat)
    case atStart => exact ⟨0, rfl, by omega, Lib.hid rfl, Lib.hid (Dr.refl _)⟩
    case round =>
      obtain ⟨k, rfl, hk, HK, HD⟩ := hrel
      by_cases hlt : k < n
      · have hltz : (k : Int) < (n : Int) := by omega
        obtain ⟨s, hs⟩ : ∃ s, subs[k]? = some s := ⟨_, List.getElem?_eq_getElem (by have := HN.out; omega)⟩
        obtain ⟨s', hs'⟩ : ∃ s, subs'[k]? = some s := ⟨_, List.getElem?_eq_getElem (by have := HM.out; omega)⟩
        rcases HA.out with h0 | ⟨b, o, rfl, hbl, hcl⟩
        · rw [h0] at hs; cases hs
        rcases HA'.out with h0 | ⟨b', o', rfl, hbl', hcl'⟩
        · rw [h0] at hs'; cases hs'
        have hbw := HD.out.below w.heap.size
        obtain ⟨p0, p1⟩ := sub_cells (hcl k s hs)
        obtain ⟨p0', p1'⟩ := sub_cells (hcl' k s' hs')
        replace p0 := (hbw.cell (p := ⟨b, o + k * 2, none⟩) hbl).trans p0
        replace p1 := (hbw.cell (p := ⟨b, o + k * 2 + 1, none⟩) hbl).trans p1
        replace p0' := (hbw.cell (p := ⟨b', o' + k * 2, none⟩) hbl').trans p0'
        replace p1' := (hbw.cell (p := ⟨b', o' + k * 2 + 1, none⟩) hbl').trans p1'
        obtain ⟨c, v⟩ := s
        obtain ⟨c', v'⟩ := s'
        simp only at p0 p1 p0' p1'
        have d1 := int_deq (c : Int) (c' : Int)
        have d2 := bytes_deq v v'
        have HDd : Hid (Dr w wr.drew) := Lib.hid HD.out.drew
        clear hcl hcl' hbw
        by_cases hcc : c = c'
        · subst hcc
          clear d1
          by_cases hvv : v = v'
          · subst hvv
            clear d2
            have hvv : (v.toList == v.toList) = true := by simp
            have HT : Hid (subs.take (k + 1) = subs'.take (k + 1)) := Lib.hid (by
              rw [List.take_add_one, List.take_add_one, HK.out, hs, hs'])
            clear HK hs hs' HR
            go_wp2_with fail
            go_region
            all_goals go_wp2
            go_roundw
            case rel => exact ⟨k + 1, by go_num, by omega, HT, HDd⟩
            case measure => simp [intOf]; omega
          · rw [decide_eq_false hvv] at d2
            have HT : Hid (R = false) := Lib.hid (by
              rw [HR.out]
              refine decide_eq_false (fun e => ?_)
              rw [e, hs'] at hs
              cases hs
              exact hvv rfl)
            clear HK hs hs' hvv HR
            go_wp2_with fail
            go_region
            all_goals go_wp2
            go_ret
            exact ⟨by rw [HT.out]; rfl, HDd.out⟩
        · rw [decide_eq_false (by omega)] at d1
          have HT : Hid (R = false) := Lib.hid (by
            rw [HR.out]
            refine decide_eq_false (fun e => ?_)
            rw [e, hs'] at hs
            cases hs
            exact hcc rfl)
          clear HK hs hs' hcc HR
          go_wp2_with fail
          go_region
          all_goals go_wp2
          go_ret
          exact ⟨by rw [HT.out]; rfl, HDd.out⟩
      · have hltz : ¬ (k : Int) < (n : Int) := by omega
        have HT : Hid (R = true) := Lib.hid (by
          rw [HR.out]
          refine decide_eq_true ?_
          have h := HK.out
          rwa [List.take_of_length_le (by have := HN.out; omega), List.take_of_length_le (by have := HM.out; omega)] at h)
        clear HK HR
        go_wp2
        go_ret
        exact ⟨by rw [HT.out]; rfl, HD.out⟩
  · have hnz : ((n : Int) == (m : Int)) = false := by
      have : (n : Int) ≠ (m : Int) := by omega
      simpa using this
    have HR : Hid (R = false) := Lib.hid (by
      rw [hR]
      refine decide_eq_false (fun e => hnm ?_)
      rw [HN.out, HM.out, e])
    clear hR hnm
    go_enter Tryd.func49, Tryd.ntmps49
    go_wp2
    go_ret
    exact ⟨by rw [HR.out]; rfl, Dr.refl _⟩

theorem results_fld2 {fn : Func} {t u : Tmp} (h : fn.results = #[.cell t 41, .tmp u]) (tmps : Array Value) (w : World) (g : Nat) (T I : ByteArray) (s : Value) (au : Int) (ht : tmps.getD t undef = .pointer (some ⟨g, 0, none⟩)) (h0 : w.cell? ⟨g, 0, none⟩ = some (.string T)) (h1 : w.cell? ⟨g, 1, none⟩ = some (.string I)) (h2 : w.cell? ⟨g, 2, none⟩ = some s) (h3 : w.cell? ⟨g, 3, none⟩ = some (.int .i64 au)) :
    (results fn tmps).run Tryd.prog w = .ok (.tuple #[.agg #[.string T, .string I, s, .int .i64 au], tmps.getD u undef]) w := by
  unfold results
  rw [h]
  simp only [List.mapM_toArray, List.mapM_cons, List.mapM_nil]
  rw [ht]
  go_simp
def joinB (f g : Fld) : Bool := decide (f.subs = g.subs) && decide (g.ind = 32 :: f.ind.drop 1)
theorem cell_drewN (w : World) (q : Nat) (p : Addr) : (w.drewN q).cell? p = w.cell? p := by
  have h : (w.drewN q).heap = w.heap := Dr.heap ⟨q, rfl⟩
  unfold World.cell?
  rw [h]
/-- Four stores. -/
def put4 (w : World) (g : Nat) (T I : ByteArray) (s : Value) (au : Int) : World :=
  (((w.setCell ⟨g, 0, none⟩ (.string T)).setCell ⟨g, 1, none⟩ (.string I)).setCell ⟨g, 2, none⟩ s).setCell ⟨g, 3, none⟩ (.int .i64 au)
theorem four_put {w : World} {g : Nat} {T I : ByteArray} {s : Value} {au : Int} (h : ∀ j, j < 4 → (w.cell? ⟨g, j, none⟩).isSome = true) : (put4 w g T I s au).cell? ⟨g, 0, none⟩ = some (.string T) ∧ (put4 w g T I s au).cell? ⟨g, 1, none⟩ = some (.string I) ∧ (put4 w g T I s au).cell? ⟨g, 2, none⟩ = some s ∧ (put4 w g T I s au).cell? ⟨g, 3, none⟩ = some (.int .i64 au) := by
  unfold put4
  refine ⟨?_, ?_, ?_, ?_⟩
  · rw [cell_away (by omega), cell_away (by omega), cell_away (by omega)]
    exact cell_here (h 0 (by omega))
  · rw [cell_away (by omega), cell_away (by omega)]
    exact cell_here (by rw [cell_away (by omega)]; exact h 1 (by omega))
  · rw [cell_away (by omega)]
    exact cell_here (by rw [cell_away (by omega), cell_away (by omega)]; exact h 2 (by omega))
  · exact cell_here (by rw [cell_away (by omega), cell_away (by omega), cell_away (by omega)]; exact h 3 (by omega))
theorem below_put4 {B : Nat} {a w : World} {g : Nat} {T I : ByteArray} {s : Value} {au : Int} (h : Below B a w) (hb : B ≤ g) : Below B a (put4 w g T I s au) := by
  unfold put4
  exact (((h.setCell (p := ⟨g, _, none⟩) hb _).setCell (p := ⟨g, _, none⟩) hb _).setCell (p := ⟨g, _, none⟩) hb _).setCell (p := ⟨g, _, none⟩) hb _
/-- What joined returns beside its answer. -/
def joinV (f g : Fld) : Value := if joinB f g = true then .agg #[.string ⟨#[52, 52, 48]⟩, .string (lb g.ind), .slice g.sa g.subs.length g.sc, .int .i64 g.auth] else .agg #[.string ⟨#[]⟩, .string ⟨#[]⟩, .slice none 0 0, .int .i64 0]
theorem new3_cell (w : World) (O O' : Obj) (cs : Array Value) (T : TypeId) (j : Nat) : (((w.alloc O).alloc O').alloc (.cells cs T)).cell? ⟨w.heap.size + 1 + 1, j, none⟩ = cs[j]? := by
  have := Lib.cell_of_heap (heap_alloc_new ((w.alloc O).alloc O') (.cells cs T)) j
  rwa [World.size_alloc, World.size_alloc] at this
set_option maxRecDepth 100000 in
set_option maxHeartbeats 4000000 in
theorem pJoined (f g : Fld) (w : World) (hf : FldAt w f) (hg : FldAt w g) (hl : f.subs.length ≤ 1000000) (hi : f.ind.length = 2) :
    Calls Tryd.prog 38 #[.agg #[.string (lb f.tag), .string (lb f.ind), .slice f.sa f.subs.length f.sc, .int .i64 f.auth], .agg #[.string (lb g.tag), .string (lb g.ind), .slice g.sa g.subs.length g.sc, .int .i64 g.auth]] w fun e w' => e = .returned (.tuple #[joinV f g, .bool (joinB f g)]) ∧ Below w.heap.size w w' := by
  have hsz : (lb f.ind).size = 2 := by rw [lb_size, hi]
  have hbe : ((lb g.ind).toList == (⟨#[32]⟩ ++ (lb f.ind).extract 1 2).toList) = decide (g.ind = 32 :: f.ind.drop 1) := by
    rw [ind_drop f.ind 32 ⟨#[32]⟩ 2 hi.symm rfl, lb_deq]
  obtain ⟨W1, hW1⟩ : ∃ W1, W1 = fldW w (lb f.tag) (lb f.ind) f.sa f.subs.length f.sc f.auth := ⟨_, rfl⟩
  obtain ⟨W2, hW2⟩ : ∃ W2, W2 = fldW W1 (lb g.tag) (lb g.ind) g.sa g.subs.length g.sc g.auth := ⟨_, rfl⟩
  obtain ⟨W3, hW3⟩ : ∃ W3, W3 = W2.alloc (.cells #[.string ⟨#[]⟩, .string ⟨#[]⟩, .slice none 0 0, .int .i64 0] 41) := ⟨_, rfl⟩
  have b1 : Below w.heap.size w W1 := by rw [hW1]; exact (Below.refl _ _).alloc (Nat.le_refl _) _
  have b2 : Below W1.heap.size W1 W2 := by rw [hW2]; exact (Below.refl _ _).alloc (Nat.le_refl _) _
  have b3 : Below W2.heap.size W2 W3 := by rw [hW3]; exact (Below.refl _ _).alloc (Nat.le_refl _) _
  have hb := (b1.bt b2).bt b3
  have hdr : ∀ q, Below w.heap.size w (W3.drewN q) := fun q => hb.trans (Dr.below ⟨q, rfl⟩ _)
  have heq := fun q => sEqual f.sa g.sa f.subs.length g.subs.length f.sc g.sc f.subs g.subs (W3.drewN q) (FldAt.below hf (hdr q) (Nat.le_refl _)) (FldAt.below hg (hdr q) (Nat.le_refl _)) hl
  have hB : joinB f g = (decide (f.subs = g.subs) && decide (g.ind = 32 :: f.ind.drop 1)) := rfl
  have hV : joinV f g = if joinB f g = true then .agg #[.string ⟨#[52, 52, 48]⟩, .string (lb g.ind), .slice g.sa g.subs.length g.sc, .int .i64 g.auth] else .agg #[.string ⟨#[]⟩, .string ⟨#[]⟩, .slice none 0 0, .int .i64 0] := rfl
  obtain ⟨J, hJ⟩ : ∃ J, J = joinB f g := ⟨_, rfl⟩
  obtain ⟨V, hVV⟩ : ∃ V, V = joinV f g := ⟨_, rfl⟩
  rw [← hJ] at hB hV
  rw [← hVV] at hV
  rw [← hJ, ← hVV]
  obtain ⟨E, hE⟩ : ∃ E, E = decide (f.subs = g.subs) := ⟨_, rfl⟩
  obtain ⟨F, hF⟩ : ∃ F, F = decide (g.ind = 32 :: f.ind.drop 1) := ⟨_, rfl⟩
  rw [← hE, ← hF] at hB
  rw [← hF] at hbe
  simp only [← hE] at heq
  obtain ⟨T, hT⟩ : ∃ T, T = lb f.tag := ⟨_, rfl⟩
  obtain ⟨I, hI⟩ : ∃ I, I = lb f.ind := ⟨_, rfl⟩
  obtain ⟨T', hT'⟩ : ∃ T, T = lb g.tag := ⟨_, rfl⟩
  obtain ⟨I', hI'⟩ : ∃ I, I = lb g.ind := ⟨_, rfl⟩
  obtain ⟨sn, hsn⟩ : ∃ n, n = f.subs.length := ⟨_, rfl⟩
  obtain ⟨sm, hsm⟩ : ∃ n, n = g.subs.length := ⟨_, rfl⟩
  obtain ⟨sa, hsa⟩ : ∃ n, n = f.sa := ⟨_, rfl⟩
  obtain ⟨sb, hsb⟩ : ∃ n, n = g.sa := ⟨_, rfl⟩
  obtain ⟨fc, hfc⟩ : ∃ n, n = f.sc := ⟨_, rfl⟩
  obtain ⟨gc, hgc⟩ : ∃ n, n = g.sc := ⟨_, rfl⟩
  obtain ⟨fa, hfa⟩ : ∃ n, n = f.auth := ⟨_, rfl⟩
  obtain ⟨ga, hga⟩ : ∃ n, n = g.auth := ⟨_, rfl⟩
  rw [← hT, ← hI, ← hsn, ← hsa, ← hfc, ← hfa] at hW1
  rw [← hT', ← hI', ← hsm, ← hsb, ← hgc, ← hga] at hW2
  rw [hW2, hW1] at hW3
  rw [← hsn, ← hsm, ← hsa, ← hsb, ← hfc, ← hgc] at heq
  rw [← hI', ← hsm, ← hsb, ← hgc, ← hga] at hV
  rw [← hI] at hsz hbe
  rw [← hI'] at hbe
  rw [← hT, ← hI, ← hsn, ← hsa, ← hfc, ← hfa, ← hT', ← hI', ← hsm, ← hsb, ← hgc, ← hga]
  rw [hW3] at heq hdr hb
  have z1 : (1 : Int) ≤ ((I.size : Nat) : Int) := by omega
  have HDR := Lib.hid hdr
  have HB := Lib.hid hb
  have HEQ := Lib.hid heq
  have HJ := Lib.hid hB
  have HV := Lib.hid hV
  clear hdr hb heq hB hV hT hI hT' hI' hsn hsm hsa hsb hfc hgc hfa hga hE hF hJ hVV b1 b2 b3 hW1 hW2 hW3 W1 W2 W3 hf hg hl hi
  cases E with
  | false =>
    have HJ2 : Hid (J = false) := Lib.hid HJ.out
    have HV2 : Hid (V = .agg #[.string ⟨#[]⟩, .string ⟨#[]⟩, .slice none 0 0, .int .i64 0]) := Lib.hid (by rw [HV.out, HJ2.out]; rfl)
    clear HJ HV hbe
    go_enter Tryd.func38, Tryd.ntmps38
    go_wp2_with fail
    go_quiet (first | (go_at_call 49; exact Calls.quiet_of (HEQ.out _)))
    go_wp2
    (try simp only [Exit.inBlock, Exit.then])
    generalize hw7 : World.drewN _ nq = w7
    have hsm : ∀ j, j < 4 → (w7.cell? ⟨w.heap.size + 1 + 1, j, none⟩).isSome = true := fun j hj => by
      rw [← hw7, cell_drewN, new3_cell]
      rcases (by omega : j = 0 ∨ j = 1 ∨ j = 2 ∨ j = 3) with rfl | rfl | rfl | rfl <;> rfl
    have B7 : Below w.heap.size w w7 := by rw [← hw7]; exact HDR.out nq
    have S4 := four_put (T := ⟨#[]⟩) (I := ⟨#[]⟩) (s := .slice none 0 0) (au := 0) hsm
    have B4 : Below w.heap.size w (put4 w7 (w.heap.size + 1 + 1) ⟨#[]⟩ ⟨#[]⟩ (.slice none 0 0) 0) := below_put4 B7 (by omega)
    change bodyPost _ _ _ _ _ (put4 w7 (w.heap.size + 1 + 1) ⟨#[]⟩ ⟨#[]⟩ (.slice none 0 0) 0)
    generalize put4 w7 (w.heap.size + 1 + 1) ⟨#[]⟩ ⟨#[]⟩ (.slice none 0 0) 0 = w9 at S4 B4 ⊢
    exact bodyPost_ret (results_fld2 rfl _ w9 (w.heap.size + 1 + 1) _ _ _ _ rfl S4.1 S4.2.1 S4.2.2.1 S4.2.2.2) rfl ⟨by rw [HV2.out, HJ2.out]; rfl, B4⟩
  | true =>
    cases F with
    | false =>
      have HJ2 : Hid (J = false) := Lib.hid HJ.out
      have HV2 : Hid (V = .agg #[.string ⟨#[]⟩, .string ⟨#[]⟩, .slice none 0 0, .int .i64 0]) := Lib.hid (by rw [HV.out, HJ2.out]; rfl)
      clear HJ HV
      go_enter Tryd.func38, Tryd.ntmps38
      go_wp2_with fail
      go_quiet (first | (go_at_call 49; exact Calls.quiet_of (HEQ.out _)))
      go_wp2
      (try simp only [Exit.inBlock, Exit.then])
      generalize hw7 : World.drewN _ nq = w7
      have hsm : ∀ j, j < 4 → (w7.cell? ⟨w.heap.size + 1 + 1, j, none⟩).isSome = true := fun j hj => by
        rw [← hw7, cell_drewN, new3_cell]
        rcases (by omega : j = 0 ∨ j = 1 ∨ j = 2 ∨ j = 3) with rfl | rfl | rfl | rfl <;> rfl
      have B7 : Below w.heap.size w w7 := by rw [← hw7]; exact HDR.out nq
      have S4 := four_put (T := ⟨#[]⟩) (I := ⟨#[]⟩) (s := .slice none 0 0) (au := 0) hsm
      have B4 : Below w.heap.size w (put4 w7 (w.heap.size + 1 + 1) ⟨#[]⟩ ⟨#[]⟩ (.slice none 0 0) 0) := below_put4 B7 (by omega)
      change bodyPost _ _ _ _ _ (put4 w7 (w.heap.size + 1 + 1) ⟨#[]⟩ ⟨#[]⟩ (.slice none 0 0) 0)
      generalize put4 w7 (w.heap.size + 1 + 1) ⟨#[]⟩ ⟨#[]⟩ (.slice none 0 0) 0 = w9 at S4 B4 ⊢
      exact bodyPost_ret (results_fld2 rfl _ w9 (w.heap.size + 1 + 1) _ _ _ _ rfl S4.1 S4.2.1 S4.2.2.1 S4.2.2.2) rfl ⟨by rw [HV2.out, HJ2.out]; rfl, B4⟩
    | true =>
      have HJ2 : Hid (J = true) := Lib.hid HJ.out
      have HV2 : Hid (V = .agg #[.string ⟨#[52, 52, 48]⟩, .string I', .slice sb sm gc, .int .i64 ga]) := Lib.hid (by rw [HV.out, HJ2.out]; rfl)
      clear HJ HV
      go_enter Tryd.func38, Tryd.ntmps38
      go_wp2_with fail
      go_quiet (first | (go_at_call 49; exact Calls.quiet_of (HEQ.out _)))
      go_wp2
      (try simp only [Exit.inBlock, Exit.then])
      generalize hw7 : World.drewN _ nq = w7
      have hsm : ∀ j, j < 4 → ((w7.setCell ⟨w.heap.size + 1, 0, none⟩ (.string ⟨#[52, 52, 48]⟩)).cell? ⟨w.heap.size + 1 + 1, j, none⟩).isSome = true := fun j hj => by
        rw [cell_away (by omega), ← hw7, cell_drewN, new3_cell]
        rcases (by omega : j = 0 ∨ j = 1 ∨ j = 2 ∨ j = 3) with rfl | rfl | rfl | rfl <;> rfl
      have B7 : Below w.heap.size w (w7.setCell ⟨w.heap.size + 1, 0, none⟩ (.string ⟨#[52, 52, 48]⟩)) := by
        rw [← hw7]
        exact (HDR.out nq).setCell (p := ⟨w.heap.size + 1, 0, none⟩) (Nat.le_succ _) _
      generalize w7.setCell ⟨w.heap.size + 1, 0, none⟩ (.string ⟨#[52, 52, 48]⟩) = w8 at hsm B7 ⊢
      have S4 := four_put (T := ⟨#[52, 52, 48]⟩) (I := I') (s := .slice sb sm gc) (au := ga) hsm
      have B4 : Below w.heap.size w (put4 w8 (w.heap.size + 1 + 1) ⟨#[52, 52, 48]⟩ I' (.slice sb sm gc) ga) := below_put4 B7 (by omega)
      change bodyPost _ _ _ _ _ (put4 w8 (w.heap.size + 1 + 1) ⟨#[52, 52, 48]⟩ I' (.slice sb sm gc) ga)
      generalize put4 w8 (w.heap.size + 1 + 1) ⟨#[52, 52, 48]⟩ I' (.slice sb sm gc) ga = w9 at S4 B4 ⊢
      exact bodyPost_ret (results_fld2 rfl _ w9 (w.heap.size + 1 + 1) _ _ _ _ rfl S4.1 S4.2.1 S4.2.2.1 S4.2.2.2) rfl ⟨by rw [HV2.out, HJ2.out]; rfl, B4⟩
end Go.Proofs.YtimecccphbgdeaaDoor
