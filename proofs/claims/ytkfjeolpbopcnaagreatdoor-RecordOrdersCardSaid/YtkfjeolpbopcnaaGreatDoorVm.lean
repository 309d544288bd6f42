/- Sorting fields (layer 08): the walk of symMerge where one of the runs has one text. -/
import Derived.Test.YtkfjeolpbopcnaaGreatDoorVi
namespace Go.Proofs.YtkfjeolpbopcnaaGreatDoor
open Go Go.RowKit

theorem kcmp_le_lt (m : Nat) {x y z : Fld} (h : kle m x y) (k : kcmp m y z < 0) : kcmp m x z < 0 := (kcmp_trans m x y z h (by omega)).2 (.inr k)
theorem kcmp_lt_le (m : Nat) {x y z : Fld} (h : kcmp m x y < 0) (k : kle m y z) : kcmp m x z < 0 := (kcmp_trans m x y z (by omega) k).2 (.inl h)
/-- Two places of a list in order. -/
theorem sorted_at (m : Nat) {l : List Fld} (h : SortedK m l) {i j : Nat} {x y : Fld} (hx : l[i]? = some x) (hy : l[j]? = some y) (hij : i ≤ j) : kle m x y := by
  rcases Nat.eq_or_lt_of_le hij with rfl | hlt
  · rw [hx] at hy; cases hy; exact kle_refl m x
  · obtain ⟨h1, rfl⟩ := List.getElem?_eq_some_iff.1 hx
    obtain ⟨h2, rfl⟩ := List.getElem?_eq_some_iff.1 hy
    exact List.pairwise_iff_getElem.1 h i j h1 h2 hlt
theorem mem_take_at {l : List Fld} {i : Nat} {z : Fld} (h : z ∈ l.take i) : ∃ t, t < i ∧ l[t]? = some z := by
  obtain ⟨t, ht⟩ := List.getElem?_of_mem h
  have hlt : t < i := by have := (List.getElem?_eq_some_iff.1 ht).1; simp at this; omega
  rw [List.getElem?_take_of_lt hlt] at ht
  exact ⟨t, hlt, ht⟩
theorem mem_drop_at {l : List Fld} {i : Nat} {z : Fld} (h : z ∈ l.drop i) : ∃ t, i ≤ t ∧ l[t]? = some z := by
  obtain ⟨t, ht⟩ := List.getElem?_of_mem h
  rw [List.getElem?_drop] at ht
  exact ⟨_, by omega, ht⟩
/-- Which texts of v come before e: those ahead of place i do, those from j on do not. -/
def Cut1 (m : Nat) (v : List Fld) (e : Fld) (i j : Nat) : Prop := ∀ t z, v[t]? = some z → (t < i → kcmp m z e < 0) ∧ (j ≤ t → ¬ kcmp m z e < 0)
theorem Cut1.up (m : Nat) {v : List Fld} {e z : Fld} {i j h : Nat} (hv : SortedK m v) (c : Cut1 m v e i j) (hz : v[h]? = some z) (hlt : kcmp m z e < 0) : Cut1 m v e (h + 1) j :=
  fun t y hy => ⟨fun ht => kcmp_le_lt m (sorted_at m hv hy hz (by omega)) hlt, (c t y hy).2⟩
theorem Cut1.down (m : Nat) {v : List Fld} {e z : Fld} {i j h : Nat} (hv : SortedK m v) (c : Cut1 m v e i j) (hz : v[h]? = some z) (hlt : ¬ kcmp m z e < 0) : Cut1 m v e i h :=
  fun t y hy => ⟨(c t y hy).1, fun ht hh => hlt (kcmp_le_lt m (sorted_at m hv hz hy ht) hh)⟩
theorem Cut1.sorted (m : Nat) {v : List Fld} {e : Fld} {i : Nat} (hv : SortedK m v) (c : Cut1 m v e i i) : SortedK m (v.take i ++ e :: v.drop i) := by
  refine sorted_ins m (by rw [List.take_append_drop]; exact hv) ?_ ?_
  · intro z hz
    obtain ⟨t, hlt, ht⟩ := mem_take_at hz
    exact kle_of_lt m ((c t z ht).1 hlt)
  · intro z hz
    obtain ⟨t, hle, ht⟩ := mem_drop_at hz
    exact kle_of_not m ((c t z ht).2 hle)
/-- Which texts of u stand ahead of e, which comes from the right. -/
def Cut2 (m : Nat) (u : List Fld) (e : Fld) (i j : Nat) : Prop := ∀ t z, u[t]? = some z → (t < i → ¬ kcmp m e z < 0) ∧ (j ≤ t → kcmp m e z < 0)
theorem Cut2.up (m : Nat) {v : List Fld} {e z : Fld} {i j h : Nat} (hv : SortedK m v) (c : Cut2 m v e i j) (hz : v[h]? = some z) (hlt : ¬ kcmp m e z < 0) : Cut2 m v e (h + 1) j :=
  fun t y hy => ⟨fun ht hh => hlt (kcmp_lt_le m hh (sorted_at m hv hy hz (by omega))), (c t y hy).2⟩
theorem Cut2.down (m : Nat) {v : List Fld} {e z : Fld} {i j h : Nat} (hv : SortedK m v) (c : Cut2 m v e i j) (hz : v[h]? = some z) (hlt : kcmp m e z < 0) : Cut2 m v e i h :=
  fun t y hy => ⟨(c t y hy).1, fun ht => kcmp_lt_le m hlt (sorted_at m hv hz hy ht)⟩
theorem Cut2.sorted (m : Nat) {v : List Fld} {e : Fld} {i : Nat} (hv : SortedK m v) (c : Cut2 m v e i i) : SortedK m (v.take i ++ e :: v.drop i) := by
  refine sorted_ins m (by rw [List.take_append_drop]; exact hv) ?_ ?_
  · intro z hz
    obtain ⟨t, hlt, ht⟩ := mem_take_at hz
    exact kle_of_not m ((c t z ht).1 hlt)
  · intro z hz
    obtain ⟨t, hle, ht⟩ := mem_drop_at hz
    exact kle_of_lt m ((c t z ht).2 hle)
theorem Cut1.stab (m : Nat) {v : List Fld} {e : Fld} {i j : Nat} (c : Cut1 m v e i j) : (v.take i ++ e :: v.drop i).Stab (e :: v) := by
  have h := (stab_comm (a := v.take i) (b := [e]) (by
    intro x hx y hy
    rw [List.mem_singleton.1 hy]
    obtain ⟨t, hlt, ht⟩ := mem_take_at hx
    exact kcmp_tag m ((c t x ht).1 hlt))).append_right (v.drop i)
  simpa using h
theorem Cut2.stab (m : Nat) {v : List Fld} {e : Fld} {i : Nat} (c : Cut2 m v e i i) : (v.take i ++ e :: v.drop i).Stab (v ++ [e]) := by
  have h := List.Stab.append_left (v.take i) (stab_comm (a := [e]) (b := v.drop i) (by
    intro x hx y hy
    rw [List.mem_singleton.1 hx]
    obtain ⟨t, hle, ht⟩ := mem_drop_at hy
    exact kcmp_tag m ((c t y ht).2 hle)))
  rw [show v.take i ++ (v.drop i ++ [e]) = v ++ [e] by rw [← List.append_assoc, List.take_append_drop]] at h
  exact h

set_option maxRecDepth 100000 in
set_option maxHeartbeats 2000000 in
theorem sMerge1 {w0 w : World} {blk : Nat} {p v s : List Fld} {e : Fld} (h : SInv w0 blk w (p ++ (e :: (v ++ s)))) (hE : Env w0) (hv : SortedK K0 v)
    (n cap a m b : Nat) (hn : n = (p ++ (e :: (v ++ s))).length) (hn2 : n ≤ 1000) (ha : a = p.length) (hm : m = a + 1) (hb : b = m + v.length) :
    Calls Tryz.prog 107 #[.slice (some ⟨blk, 0, none⟩) n cap, .int .i64 a, .int .i64 m, .int .i64 b, .func (.func 50) #[] #[]] w fun e' w' =>
      e' = .returned (.tuple #[]) ∧ ∃ x', SInv w0 blk w' (p ++ (x' ++ s)) ∧ x'.Stab (e :: v) ∧ SortedK K0 x' := by
  have hlen : n = a + 1 + v.length + s.length := by rw [hn]; simp; omega
  have hbn : a < m ∧ m ≤ a + 1 ∧ m ≤ b ∧ b ≤ n := by omega
  obtain ⟨g, hg⟩ : ∃ g, g = K0 := ⟨_, rfl⟩
  rw [← hg] at hv ⊢
  have HG := Lib.hid hg
  have HI := Lib.hid h
  have HE := Lib.hid hE
  have HV := Lib.hid hv
  have HL := Lib.hid (And.intro hn (And.intro ha (And.intro hm hb)))
  have ge := h.good e (by simp)
  clear hg h hE hv hn ha hb hlen hm
  go_enter Tryz.func107, Tryz.ntmps107
  have hma : ((m : Int) - (a : Int) == 1) = true := by rw [beq_iff_eq]; omega
  go_wp2
  go_loopw [10, 11] (fun vi vj wr => ∃ i j : Nat, vi = .int .i64 i ∧ vj = .int .i64 j ∧ m ≤ i ∧ i ≤ j ∧ j ≤ b ∧ Hid (SInv w0 blk wr (p ++ (e :: (v ++ s)))) ∧ Hid (Cut1 g v e (i - m) (j - m))) (fun vi vj _ => (intOf vj).toNat - (intOf vi).toNat)
  case atStart =>
    refine ⟨m, b, rfl, rfl, by omega, by omega, Nat.le_refl _, HI, Lib.hid fun t z hz => ⟨fun ht => by omega, fun ht => ?_⟩⟩
    obtain ⟨hn, ha, hm, hb⟩ := HL.out
    have := (List.getElem?_eq_some_iff.1 hz).1
    omega
  case round =>
    obtain ⟨i, j, rfl, rfl, hmi, hij, hjb, HK, HC1⟩ := hrel
    by_cases hlt : i < j
    · have hltz : (i : Int) < (j : Int) := by omega
      go_wp2_with fail
      obtain ⟨h, hh⟩ : ∃ h : Nat, ((i : Int) + (j : Int)) / 2 = (h : Int) := ⟨(i + j) / 2, by omega⟩
      have hih : i ≤ h ∧ h < j := by omega
      rw [hh]
      clear hh
      obtain ⟨z, hz⟩ : ∃ z, v[h - m]? = some z := ⟨_, List.getElem?_eq_getElem (by obtain ⟨hn, ha, hm, hb⟩ := HL.out; omega)⟩
      have gz := HK.out.good z (List.mem_append.2 (.inr (List.mem_cons_of_mem _ (List.mem_append.2 (.inl (List.mem_of_getElem? hz))))))
      have lz : (p ++ (e :: (v ++ s)))[h]? = some z := by
        obtain ⟨hn, ha, hm, hb⟩ := HL.out
        rw [List.getElem?_append_right (by omega), show h - p.length = (h - m) + 1 by omega, List.getElem?_cons_succ, List.getElem?_append_left (List.getElem?_eq_some_iff.1 hz).1]; exact hz
      have le : (p ++ (e :: (v ++ s)))[a]? = some e := by
        obtain ⟨hn, ha, hm, hb⟩ := HL.out
        rw [ha]; simp
      have hn1 : (h : Int) < (n : Int) := by omega
      have hn3 : (a : Int) < (n : Int) := by omega
      obtain ⟨C, hC⟩ : ∃ C : World → Prop, C = fun w' => SInv w0 blk w' (p ++ (e :: (v ++ s))) := ⟨_, rfl⟩
      have hcells : ∀ w', C w' → w'.cell? ⟨blk, h * 4, none⟩ = some (.string (lb z.tag)) ∧ w'.cell? ⟨blk, h * 4 + 1, none⟩ = some (.string (lb z.ind)) ∧ w'.cell? ⟨blk, h * 4 + 2, none⟩ = some (.slice z.sa z.subs.length z.sc) ∧ w'.cell? ⟨blk, h * 4 + 3, none⟩ = some (.int .i64 z.auth) ∧ w'.cell? ⟨blk, a * 4, none⟩ = some (.string (lb e.tag)) ∧ w'.cell? ⟨blk, a * 4 + 1, none⟩ = some (.string (lb e.ind)) ∧ w'.cell? ⟨blk, a * 4 + 2, none⟩ = some (.slice e.sa e.subs.length e.sc) ∧ w'.cell? ⟨blk, a * 4 + 3, none⟩ = some (.int .i64 e.auth) := by
        intro w' hw'
        rw [hC] at hw'
        obtain ⟨a0, a1, a2, a3⟩ := hw'.hold h z lz
        obtain ⟨b0, b1, b2, b3⟩ := hw'.hold a e le
        exact ⟨a0, a1, a2, a3, b0, b1, b2, b3⟩
      have hcall : ∀ w', C w' → Calls Tryz.prog 50 #[.agg #[.string (lb z.tag), .string (lb z.ind), .slice z.sa z.subs.length z.sc, .int .i64 z.auth], .agg #[.string (lb e.tag), .string (lb e.ind), .slice e.sa e.subs.length e.sc, .int .i64 e.auth]] w' fun e' w'' => e' = .returned (.int .i64 (kcmp g z e)) ∧ Below w'.heap.size w' w'' := by
        intro w' hw'
        rw [hC] at hw'
        rw [HG.out]
        exact sCmp hw' HE.out z e gz ge
      have hstep : ∀ w' w'', C w' → Below w'.heap.size w' w'' → C w'' := by
        intro w' w'' hw' hb
        rw [hC] at hw' ⊢
        exact hw'.step hb
      have hC0 : C { wr with drawn := wr.drawn + 1 } := by rw [hC]; exact HK.out.drew
      have HC := Lib.hid hC
      obtain ⟨kc, hkc⟩ : ∃ kc, kc = kcmp g z e := ⟨_, rfl⟩
      rw [← hkc] at hcall
      have HKC := Lib.hid (And.intro hkc hz)
      clear hkc hz lz le hC HK gz
      by_cases hlv : kc < 0
      · refine wp_region_quiet (C := C) (by kernel_rfl) (by kernel_rfl) hC0 ?_
        show wpQuiet _ _ _ _ [_, _, _, _, _, _, _, _, _, _, _] _
        repeat
          refine wpQuiet_step (fun K hK => ?_)
          go_simp
          first
            | (refine hK _ ?_; clear hK K)
            | (apply Exists.intro
               refine ⟨fun w' hw' => ?_, hK _ ?_⟩
               · first
                 | with_reducible rfl
                 | (obtain ⟨q0, q1, q2, q3, q4, q5, q6, q7⟩ := hcells w' hw'; go_simp; with_reducible rfl)
                 | ((first
                     | with_reducible refine (hcall w' hw').mono ?_)
                    exact fun e w'' ⟨he, hb⟩ => ⟨he, hstep w' w'' hw' hb⟩)
               clear hK K)
        refine wpQuiet_nil ?_
        intro w2 hw2
        have HO : Hid (Cut1 g v e (h + 1 - m) (j - m)) := Lib.hid (by
          have := HC1.out.up g HV.out HKC.out.2 (by rw [← HKC.out.1]; omega)
          rw [show h + 1 - m = h - m + 1 by omega]
          exact this)
        have HS : Hid (SInv w0 blk w2 (p ++ (e :: (v ++ s)))) := Lib.hid (by have := hw2; rw [HC.out] at this; exact this)
        clear hcells hcall hstep hC0 hw2
        go_wp2
        go_roundw
        case rel => exact ⟨h + 1, j, by go_num, rfl, by omega, by omega, hjb, HS, HO⟩
        case measure => simp [intOf]; omega
      · refine wp_region_quiet (C := C) (by kernel_rfl) (by kernel_rfl) hC0 ?_
        show wpQuiet _ _ _ _ [_, _, _, _, _, _, _, _, _, _, _] _
        repeat
          refine wpQuiet_step (fun K hK => ?_)
          go_simp
          first
            | (refine hK _ ?_; clear hK K)
            | (apply Exists.intro
               refine ⟨fun w' hw' => ?_, hK _ ?_⟩
               · first
                 | with_reducible rfl
                 | (obtain ⟨q0, q1, q2, q3, q4, q5, q6, q7⟩ := hcells w' hw'; go_simp; with_reducible rfl)
                 | ((first
                     | with_reducible refine (hcall w' hw').mono ?_)
                    exact fun e w'' ⟨he, hb⟩ => ⟨he, hstep w' w'' hw' hb⟩)
               clear hK K)
        refine wpQuiet_nil ?_
        intro w2 hw2
        have HO : Hid (Cut1 g v e (i - m) (h - m)) := Lib.hid (HC1.out.down g HV.out HKC.out.2 (by rw [← HKC.out.1]; omega))
        have HS : Hid (SInv w0 blk w2 (p ++ (e :: (v ++ s)))) := Lib.hid (by have := hw2; rw [HC.out] at this; exact this)
        clear hcells hcall hstep hC0 hw2
        go_wp2
        go_roundw
        case rel => exact ⟨i, h, rfl, rfl, hmi, by omega, by omega, HS, HO⟩
        case measure => simp [intOf]; omega
    · have hltz : ¬ (i : Int) < (j : Int) := by omega
      obtain rfl : i = j := by omega
      go_wp2
      go_loopw [13] (fun vk wr2 => ∃ k : Nat, vk = .int .i64 k ∧ a ≤ k ∧ k + 1 ≤ i ∧ Hid (SInv w0 blk wr2 (p ++ (v.take (k - a) ++ (e :: (v.drop (k - a) ++ s)))))) (fun vk _ => i - (intOf vk).toNat)
      case atStart => exact ⟨a, rfl, Nat.le_refl _, by omega, Lib.hid (HK.out.eq (by simp))⟩
      case round =>
        obtain ⟨k, rfl, hak, hki, HS⟩ := hrel
        by_cases hlt2 : k + 1 < i
        · have hltz2 : (k : Int) < (i : Int) - 1 := by omega
          obtain ⟨z, hz⟩ : ∃ z, v[k - a]? = some z := ⟨_, List.getElem?_eq_getElem (by obtain ⟨hn, ha, hm, hb⟩ := HL.out; omega)⟩
          have dk : v.drop (k - a) = z :: v.drop (k - a + 1) := by obtain ⟨h', rfl⟩ := List.getElem?_eq_some_iff.1 hz; exact List.drop_eq_getElem_cons h'
          have tk : v.take (k - a + 1) = v.take (k - a) ++ [z] := by rw [List.take_add_one, hz]; rfl
          have hkl : k = (p ++ v.take (k - a)).length := by
            obtain ⟨hn, ha, hm, hb⟩ := HL.out
            have := (List.getElem?_eq_some_iff.1 hz).1
            simp
            omega
          have hS := HS.out.eq (show _ = (p ++ v.take (k - a)) ++ e :: ([] ++ z :: (v.drop (k - a + 1) ++ s)) by rw [dk]; simp)
          obtain ⟨c10, c11, c12, c13⟩ := hS.at rfl hkl
          obtain ⟨c20, c21, c22, c23⟩ := hS.at (A := (p ++ v.take (k - a)) ++ [e]) (x := z) (C := v.drop (k - a + 1) ++ s) (by simp) (i := k + 1) (by have := hkl; simp at this ⊢; omega)
          have fz := hS.frz
          have HX := Lib.hid (And.intro hS (And.intro hkl tk))
          have hk1 : (k : Int) + 1 < (n : Int) := by omega
          have hk2 : (k : Int) < (n : Int) := by omega
          have e0 : ((k : Int) + 1).toNat = k + 1 := by omega
          obtain ⟨j1, hj1⟩ : ∃ j1, j1 = k + 1 := ⟨_, rfl⟩
          rw [← hj1] at c20 c21 c22 c23 e0
          have f10 := fz (k * 4)
          have f20 := fz (j1 * 4)
          have f11 := fz (k * 4 + 1)
          have f21 := fz (j1 * 4 + 1)
          have f12 := fz (k * 4 + 2)
          have f22 := fz (j1 * 4 + 2)
          have f13 := fz (k * 4 + 3)
          have f23 := fz (j1 * 4 + 3)
          clear fz
          have J1 := Lib.hid hj1
          clear hj1 dk tk hkl hS hz HS
          go_wp2_with fail
          go_region
          all_goals go_wp2
          go_roundw
          case rel =>
            obtain ⟨hS, hkl, tk⟩ := HX.out
            refine ⟨k + 1, by go_num, by omega, by omega, Lib.hid ?_⟩
            rw [J1.out, show k + 1 - a = k - a + 1 by omega, tk]
            have hsw := (hS.swap (i := k) (j := k + 1) hkl (by have := hkl; simp at this ⊢; omega)).drew
            exact SInv.eq hsw (by simp)
          case measure => simp [intOf]; omega
        · have hltz2 : ¬ (k : Int) < (i : Int) - 1 := by omega
          go_wp2
          (try simp only [Exit.inBlock, Exit.then]); refine bodyPost_ret (results_none rfl _ _ _) rfl ?_
          refine ⟨rfl, v.take (i - m) ++ e :: v.drop (i - m), ?_, HC1.out.stab g, HC1.out.sorted g HV.out⟩
          obtain ⟨hn, ha, hm, hb⟩ := HL.out
          rw [show i - m = k - a by omega]
          exact HS.out.eq (by simp)

set_option maxRecDepth 100000 in
set_option maxHeartbeats 2000000 in
theorem sMerge2 {w0 w : World} {blk : Nat} {p u s : List Fld} {e : Fld} (h : SInv w0 blk w (p ++ (u ++ (e :: s)))) (hE : Env w0) (hv : SortedK K0 u)
    (n cap a m b : Nat) (hn : n = (p ++ (u ++ (e :: s))).length) (hn2 : n ≤ 1000) (hu2 : 2 ≤ u.length) (ha : a = p.length) (hm : m = a + u.length) (hb : b = m + 1) :
    Calls Tryz.prog 107 #[.slice (some ⟨blk, 0, none⟩) n cap, .int .i64 a, .int .i64 m, .int .i64 b, .func (.func 50) #[] #[]] w fun e' w' =>
      e' = .returned (.tuple #[]) ∧ ∃ x', SInv w0 blk w' (p ++ (x' ++ s)) ∧ x'.Stab (u ++ [e]) ∧ SortedK K0 x' := by
  have hlen : n = a + u.length + 1 + s.length := by rw [hn]; simp; omega
  have hbn : a + 2 ≤ m ∧ m < b ∧ b ≤ m + 1 ∧ b ≤ n := by omega
  obtain ⟨g, hg⟩ : ∃ g, g = K0 := ⟨_, rfl⟩
  rw [← hg] at hv ⊢
  have HG := Lib.hid hg
  have HI := Lib.hid h
  have HE := Lib.hid hE
  have HV := Lib.hid hv
  have HL := Lib.hid (And.intro hn (And.intro ha (And.intro hm hb)))
  have ge := h.good e (by simp)
  clear hg h hE hv hn ha hb hlen hm hu2
  go_enter Tryz.func107, Tryz.ntmps107
  have hma : ((m : Int) - (a : Int) == 1) = false := by rw [beq_eq_false_iff_ne]; omega
  have hbm : ((b : Int) - (m : Int) == 1) = true := by rw [beq_iff_eq]; omega
  go_wp2
  go_loopw [14, 15] (fun vi vj wr => ∃ i j : Nat, vi = .int .i64 i ∧ vj = .int .i64 j ∧ a ≤ i ∧ i ≤ j ∧ j ≤ m ∧ Hid (SInv w0 blk wr (p ++ (u ++ (e :: s)))) ∧ Hid (Cut2 g u e (i - a) (j - a))) (fun vi vj _ => (intOf vj).toNat - (intOf vi).toNat)
  case atStart =>
    refine ⟨a, m, rfl, rfl, by omega, by omega, Nat.le_refl _, HI, Lib.hid fun t z hz => ⟨fun ht => by omega, fun ht => ?_⟩⟩
    obtain ⟨hn, ha, hm, hb⟩ := HL.out
    have := (List.getElem?_eq_some_iff.1 hz).1
    omega
  case round =>
    obtain ⟨i, j, rfl, rfl, hmi, hij, hjb, HK, HC1⟩ := hrel
    by_cases hlt : i < j
    · have hltz : (i : Int) < (j : Int) := by omega
      go_wp2_with fail
      obtain ⟨h, hh⟩ : ∃ h : Nat, ((i : Int) + (j : Int)) / 2 = (h : Int) := ⟨(i + j) / 2, by omega⟩
      have hih : i ≤ h ∧ h < j := by omega
      rw [hh]
      clear hh
      obtain ⟨z, hz⟩ : ∃ z, u[h - a]? = some z := ⟨_, List.getElem?_eq_getElem (by obtain ⟨hn, ha, hm, hb⟩ := HL.out; omega)⟩
      have gz := HK.out.good z (List.mem_append.2 (.inr (List.mem_append.2 (.inl (List.mem_of_getElem? hz)))))
      have lz : (p ++ (u ++ (e :: s)))[h]? = some z := by
        obtain ⟨hn, ha, hm, hb⟩ := HL.out
        rw [List.getElem?_append_right (by omega), show h - p.length = h - a by omega, List.getElem?_append_left (List.getElem?_eq_some_iff.1 hz).1]; exact hz
      have le : (p ++ (u ++ (e :: s)))[m]? = some e := by
        obtain ⟨hn, ha, hm, hb⟩ := HL.out
        rw [List.getElem?_append_right (by omega), show m - p.length = u.length by omega]; simp
      have hn1 : (h : Int) < (n : Int) := by omega
      have hn3 : (m : Int) < (n : Int) := by omega
      obtain ⟨C, hC⟩ : ∃ C : World → Prop, C = fun w' => SInv w0 blk w' (p ++ (u ++ (e :: s))) := ⟨_, rfl⟩
      have hcells : ∀ w', C w' → w'.cell? ⟨blk, h * 4, none⟩ = some (.string (lb z.tag)) ∧ w'.cell? ⟨blk, h * 4 + 1, none⟩ = some (.string (lb z.ind)) ∧ w'.cell? ⟨blk, h * 4 + 2, none⟩ = some (.slice z.sa z.subs.length z.sc) ∧ w'.cell? ⟨blk, h * 4 + 3, none⟩ = some (.int .i64 z.auth) ∧ w'.cell? ⟨blk, m * 4, none⟩ = some (.string (lb e.tag)) ∧ w'.cell? ⟨blk, m * 4 + 1, none⟩ = some (.string (lb e.ind)) ∧ w'.cell? ⟨blk, m * 4 + 2, none⟩ = some (.slice e.sa e.subs.length e.sc) ∧ w'.cell? ⟨blk, m * 4 + 3, none⟩ = some (.int .i64 e.auth) := by
        intro w' hw'
        rw [hC] at hw'
        obtain ⟨a0, a1, a2, a3⟩ := hw'.hold h z lz
        obtain ⟨b0, b1, b2, b3⟩ := hw'.hold m e le
        exact ⟨a0, a1, a2, a3, b0, b1, b2, b3⟩
      have hcall : ∀ w', C w' → Calls Tryz.prog 50 #[.agg #[.string (lb e.tag), .string (lb e.ind), .slice e.sa e.subs.length e.sc, .int .i64 e.auth], .agg #[.string (lb z.tag), .string (lb z.ind), .slice z.sa z.subs.length z.sc, .int .i64 z.auth]] w' fun e' w'' => e' = .returned (.int .i64 (kcmp g e z)) ∧ Below w'.heap.size w' w'' := by
        intro w' hw'
        rw [hC] at hw'
        rw [HG.out]
        exact sCmp hw' HE.out e z ge gz
      have hstep : ∀ w' w'', C w' → Below w'.heap.size w' w'' → C w'' := by
        intro w' w'' hw' hb
        rw [hC] at hw' ⊢
        exact hw'.step hb
      have hC0 : C { wr with drawn := wr.drawn + 1 } := by rw [hC]; exact HK.out.drew
      have HC := Lib.hid hC
      obtain ⟨kc, hkc⟩ : ∃ kc, kc = kcmp g e z := ⟨_, rfl⟩
      rw [← hkc] at hcall
      have HKC := Lib.hid (And.intro hkc hz)
      clear hkc hz lz le hC HK gz
      by_cases hlv : kc < 0
      · refine wp_region_quiet (C := C) (by kernel_rfl) (by kernel_rfl) hC0 ?_
        show wpQuiet _ _ _ _ [_, _, _, _, _, _, _, _, _, _, _, _] _
        repeat
          refine wpQuiet_step (fun K hK => ?_)
          go_simp
          first
            | (refine hK _ ?_; clear hK K)
            | (apply Exists.intro
               refine ⟨fun w' hw' => ?_, hK _ ?_⟩
               · first
                 | with_reducible rfl
                 | (obtain ⟨q0, q1, q2, q3, q4, q5, q6, q7⟩ := hcells w' hw'; go_simp; with_reducible rfl)
                 | ((first
                     | with_reducible refine (hcall w' hw').mono ?_)
                    exact fun e w'' ⟨he, hb⟩ => ⟨he, hstep w' w'' hw' hb⟩)
               clear hK K)
        refine wpQuiet_nil ?_
        intro w2 hw2
        have HO : Hid (Cut2 g u e (i - a) (h - a)) := Lib.hid (HC1.out.down g HV.out HKC.out.2 (by rw [← HKC.out.1]; omega))
        have HS : Hid (SInv w0 blk w2 (p ++ (u ++ (e :: s)))) := Lib.hid (by have := hw2; rw [HC.out] at this; exact this)
        clear hcells hcall hstep hC0 hw2
        go_wp2
        go_roundw
        case rel => exact ⟨i, h, rfl, rfl, hmi, by omega, by omega, HS, HO⟩
        case measure => simp [intOf]; omega
      · refine wp_region_quiet (C := C) (by kernel_rfl) (by kernel_rfl) hC0 ?_
        show wpQuiet _ _ _ _ [_, _, _, _, _, _, _, _, _, _, _, _] _
        repeat
          refine wpQuiet_step (fun K hK => ?_)
          go_simp
          first
            | (refine hK _ ?_; clear hK K)
            | (apply Exists.intro
               refine ⟨fun w' hw' => ?_, hK _ ?_⟩
               · first
                 | with_reducible rfl
                 | (obtain ⟨q0, q1, q2, q3, q4, q5, q6, q7⟩ := hcells w' hw'; go_simp; with_reducible rfl)
                 | ((first
                     | with_reducible refine (hcall w' hw').mono ?_)
                    exact fun e w'' ⟨he, hb⟩ => ⟨he, hstep w' w'' hw' hb⟩)
               clear hK K)
        refine wpQuiet_nil ?_
        intro w2 hw2
        have HO : Hid (Cut2 g u e (h + 1 - a) (j - a)) := Lib.hid (by
          have := HC1.out.up g HV.out HKC.out.2 (by rw [← HKC.out.1]; omega)
          rw [show h + 1 - a = h - a + 1 by omega]
          exact this)
        have HS : Hid (SInv w0 blk w2 (p ++ (u ++ (e :: s)))) := Lib.hid (by have := hw2; rw [HC.out] at this; exact this)
        clear hcells hcall hstep hC0 hw2
        go_wp2
        go_roundw
        case rel => exact ⟨h + 1, j, by go_num, rfl, by omega, by omega, hjb, HS, HO⟩
        case measure => simp [intOf]; omega
    · have hltz : ¬ (i : Int) < (j : Int) := by omega
      obtain rfl : i = j := by omega
      go_wp2
      go_loopw [17] (fun vk wr2 => ∃ k : Nat, vk = .int .i64 k ∧ i ≤ k ∧ k ≤ m ∧ Hid (SInv w0 blk wr2 (p ++ (u.take (k - a) ++ (e :: (u.drop (k - a) ++ s)))))) (fun vk _ => (intOf vk).toNat)
      case atStart =>
        refine ⟨m, rfl, by omega, Nat.le_refl _, Lib.hid (HK.out.eq ?_)⟩
        obtain ⟨hn, ha, hm, hb⟩ := HL.out
        rw [List.take_of_length_le (by omega), List.drop_eq_nil_of_le (by omega)]
        simp
      case round =>
        obtain ⟨k, rfl, hak, hki, HS⟩ := hrel
        by_cases hlt2 : i < k
        · obtain ⟨kp, rfl⟩ : ∃ kp, k = kp + 1 := ⟨k - 1, by omega⟩
          have hltz2 : (i : Int) < (kp : Int) + 1 := by omega
          obtain ⟨z, hz⟩ : ∃ z, u[kp - a]? = some z := ⟨_, List.getElem?_eq_getElem (by obtain ⟨hn, ha, hm, hb⟩ := HL.out; omega)⟩
          have dk : u.drop (kp - a) = z :: u.drop (kp - a + 1) := by obtain ⟨h', rfl⟩ := List.getElem?_eq_some_iff.1 hz; exact List.drop_eq_getElem_cons h'
          have tk : u.take (kp - a + 1) = u.take (kp - a) ++ [z] := by rw [List.take_add_one, hz]; rfl
          have hkl : kp = (p ++ u.take (kp - a)).length := by
            obtain ⟨hn, ha, hm, hb⟩ := HL.out
            have := (List.getElem?_eq_some_iff.1 hz).1
            simp
            omega
          have hS := HS.out.eq (show _ = (p ++ u.take (kp - a)) ++ z :: ([] ++ e :: (u.drop (kp - a + 1) ++ s)) by rw [show kp + 1 - a = kp - a + 1 by omega, tk]; simp)
          obtain ⟨c10, c11, c12, c13⟩ := hS.at rfl hkl
          obtain ⟨c20, c21, c22, c23⟩ := hS.at (A := (p ++ u.take (kp - a)) ++ [z]) (x := e) (C := u.drop (kp - a + 1) ++ s) (by simp) (i := kp + 1) (by have := hkl; simp at this ⊢; omega)
          have fz := hS.frz
          have HX := Lib.hid (And.intro hS (And.intro hkl dk))
          have hk1 : (kp : Int) + 1 < (n : Int) := by omega
          have hk2 : (kp : Int) < (n : Int) := by omega
          have hk3 : (0 : Int) ≤ (kp : Int) + 1 := by omega
          have hwp : IntKind.i64.wrap (kp : Int) = (kp : Int) := by rw [IntKind.wrap_i64]; omega
          have e0 : ((kp : Int) + 1).toNat = kp + 1 := by omega
          obtain ⟨j1, hj1⟩ : ∃ j1, j1 = kp + 1 := ⟨_, rfl⟩
          rw [← hj1] at c20 c21 c22 c23 e0
          have f10 := fz (kp * 4)
          have f20 := fz (j1 * 4)
          have f11 := fz (kp * 4 + 1)
          have f21 := fz (j1 * 4 + 1)
          have f12 := fz (kp * 4 + 2)
          have f22 := fz (j1 * 4 + 2)
          have f13 := fz (kp * 4 + 3)
          have f23 := fz (j1 * 4 + 3)
          clear fz
          have J1 := Lib.hid hj1
          clear hj1 dk tk hkl hS hz HS
          go_wp2_with fail
          go_region
          all_goals go_wp2
          go_roundw
          case rel =>
            obtain ⟨hS, hkl, dk⟩ := HX.out
            refine ⟨kp, by go_num, by omega, by omega, Lib.hid ?_⟩
            rw [J1.out, dk]
            have hsw := (hS.swap' (i := kp) (j := kp + 1) hkl (by have := hkl; simp at this ⊢; omega)).drew
            exact SInv.eq hsw (by simp)
          case measure => simp [intOf]
        · have hltz2 : ¬ (i : Int) < (k : Int) := by omega
          obtain rfl : i = k := by omega
          go_wp2
          (try simp only [Exit.inBlock, Exit.then]); refine bodyPost_ret (results_none rfl _ _ _) rfl ?_
          exact ⟨rfl, u.take (i - a) ++ e :: u.drop (i - a), HS.out.eq (by simp), HC1.out.stab g, HC1.out.sorted g HV.out⟩
end Go.Proofs.YtkfjeolpbopcnaaGreatDoor
