/- The walks of the statements CollateSorts and CollatePermutes (layer 2), and of the list functions that they use. -/
import Derived.Test.YtieapjdkbigejaaDoorQv
import Derived.Test.YtieapjdkbigejaaDoorKla
namespace Go.Proofs.YtieapjdkbigejaaDoor
open Go Go.RowKit

/-- Small lists are lists of texts. -/
theorem smalls_texts : ∀ xs : List ByteArray, smalls xs = true → ∃ l, xs = tbs l ∧ Good l
  | [], _ => ⟨[], rfl, by intro x hx; cases hx⟩
  | x :: xs, h => by
    unfold smalls at h
    rw [List.all_cons, Bool.and_eq_true] at h
    obtain ⟨cs, hok, rfl, hsz⟩ := small_text h.1
    obtain ⟨l, rfl, hg⟩ := smalls_texts xs h.2
    refine ⟨cs :: l, rfl, ?_⟩
    intro y hy
    rcases List.mem_cons.1 hy with rfl | hy
    · exact ⟨hok, hsz⟩
    · exact hg y hy

def cnt (xs : List ByteArray) (s : ByteArray) : Nat := xs.countP fun x => x.toList == s.toList
set_option maxRecDepth 100000 in
set_option maxHeartbeats 1000000 in
theorem lcount (v : Value) (xs : List ByteArray) (s : ByteArray) (w : World) (hv : Strs w v xs) (h40 : xs.length ≤ 1000) :
    Calls Tryd.prog 25 #[v, .string s] w fun e w' => e = .returned (.int .i64 (cnt xs s)) ∧ w' = w := by
  obtain ⟨p, c, rfl, hc, hcells⟩ := hv
  obtain ⟨A, hA⟩ : ∃ A, A = cnt xs s := ⟨_, rfl⟩
  rw [← hA]
  obtain ⟨n, hnn⟩ : ∃ n, n = xs.length := ⟨_, rfl⟩
  rw [← hnn] at h40 hc ⊢
  have HA := Lib.hid hA
  have HN := Lib.hid hnn
  have HC := Lib.hid hcells
  clear hA hnn hcells
  go_enter Tryd.func25, Tryd.ntmps25
  go_wp2
  go_loop [5, 9] (fun q i => ∃ k z : Nat, i = .int .i64 k ∧ q = .int .i64 z ∧ k ≤ n ∧ z ≤ k ∧ Hid (A = z + cnt (xs.drop k) s)) (fun _ i => n - (intOf i).toNat)
  case atStart => exact ⟨0, 0, rfl, rfl, by omega, by omega, Lib.hid (by rw [HA.out]; simp)⟩
  case round =>
    obtain ⟨k, z, rfl, rfl, hk, hz, HK⟩ := hrel
    by_cases hlt : k < n
    · have hltz : (k : Int) < (n : Int) := by omega
      obtain ⟨x, hx⟩ : ∃ x, xs[k]? = some x := ⟨_, List.getElem?_eq_getElem (by have := HN.out; omega)⟩
      rcases HC.out with h0 | ⟨b, o, rfl, hblt, hcells⟩
      · rw [h0] at hx; cases hx
      have hcell := hcells k x hx
      have hd : xs.drop k = x :: xs.drop (k + 1) := by
        obtain ⟨h', rfl⟩ := List.getElem?_eq_some_iff.1 hx
        exact List.drop_eq_getElem_cons h'
      have hst : cnt (xs.drop k) s = cnt (xs.drop (k + 1)) s + if x.toList == s.toList then 1 else 0 := by rw [hd]; exact List.countP_cons
      have hcell0 : k = 0 → w.cell? ⟨b, o, none⟩ = some (.string x) := fun h => by subst h; simpa using hcell
      clear hcells hx hd
      cases hxw : (x.toList == s.toList) with
      | true =>
        have HT : Hid (A = (z + 1) + cnt (xs.drop (k + 1)) s) := Lib.hid (by rw [HK.out, hst, hxw, if_pos rfl]; omega)
        clear hst HK HA
        go_wp2
        go_round
        case rel => exact ⟨k + 1, z + 1, by go_num, by go_num, by omega, by omega, HT⟩
        case measure => simp [intOf]; omega
      | false =>
        have HT : Hid (A = z + cnt (xs.drop (k + 1)) s) := Lib.hid (by rw [HK.out, hst, hxw]; rfl)
        clear hst HK HA
        go_wp2
        go_round
        case rel => exact ⟨k + 1, z, by go_num, rfl, by omega, by omega, HT⟩
        case measure => simp [intOf]; omega
    · have hltz : ¬ (k : Int) < (n : Int) := by omega
      have HT : Hid (A = z) := Lib.hid (by
        rw [HK.out, List.drop_eq_nil_of_le (by have := HN.out; omega)]
        rfl)
      clear HK HA
      go_wp2
      go_ret
      exact ⟨by rw [HT.out]; rfl, rfl⟩

set_option maxRecDepth 100000 in
set_option maxHeartbeats 1000000 in
theorem lsame (va vb : Value) (xs : List ByteArray) (w : World) (ha : Strs w va xs) (hb : Strs w vb xs) (h40 : xs.length ≤ 1000) :
    Calls Tryd.prog 22 #[va, vb] w fun e w' => e = .returned (.bool true) ∧ Dr w w' := by
  obtain ⟨pa, ca, rfl, hca, hcellsa⟩ := ha
  obtain ⟨pb, cb, rfl, hcb, hcellsb⟩ := hb
  obtain ⟨n, hnn⟩ : ∃ n, n = xs.length := ⟨_, rfl⟩
  rw [← hnn] at h40 hca hcb ⊢
  have HN := Lib.hid hnn
  have HA := Lib.hid hcellsa
  have HB := Lib.hid hcellsb
  clear hnn hcellsa hcellsb
  go_enter Tryd.func22, Tryd.ntmps22
  go_wp2
  go_loopw [13] (fun i wr => ∃ k : Nat, i = .int .i64 k ∧ k ≤ n ∧ Hid (Dr w wr)) (fun i _ => n - (intOf i).toNat)
  case atStart => exact ⟨0, rfl, by omega, Lib.hid (Dr.refl _)⟩
  case round =>
    obtain ⟨k, rfl, hk, HD⟩ := hrel
    by_cases hlt : k < n
    · have hltz : (k : Int) < (n : Int) := by omega
      obtain ⟨x, hx⟩ : ∃ x, xs[k]? = some x := ⟨_, List.getElem?_eq_getElem (by have := HN.out; omega)⟩
      rcases HA.out with h0 | ⟨b, o, rfl, hb1, hcells1⟩
      · rw [h0] at hx; cases hx
      rcases HB.out with h0 | ⟨b', o', rfl, hb2, hcells2⟩
      · rw [h0] at hx; cases hx
      have hc1 : wr.cell? ⟨b, o + k, none⟩ = some (.string x) := ((HD.out.below w.heap.size).cell (p := ⟨b, o + k, none⟩) hb1).trans (hcells1 k x hx)
      have hc2 : wr.cell? ⟨b', o' + k, none⟩ = some (.string x) := ((HD.out.below w.heap.size).cell (p := ⟨b', o' + k, none⟩) hb2).trans (hcells2 k x hx)
      have hxx : (x.toList == x.toList) = true := by simp
      have HD2 : Hid (Dr w wr.drew) := Lib.hid HD.out.drew
      clear hcells1 hcells2 hx HD
      go_wp2_with fail
      go_region
      all_goals go_wp2
      go_roundw
      case rel => exact ⟨k + 1, by go_num, by omega, HD2⟩
      case measure => simp [intOf]; omega
    · have hltz : ¬ (k : Int) < (n : Int) := by omega
      go_wp2
      go_ret
      exact ⟨rfl, HD.out⟩

set_option maxRecDepth 100000 in
set_option maxHeartbeats 2000000 in
theorem law_CollateSorts (lang : ByteArray) (v : Value) (xs : List ByteArray) (w : World) (hE : Env w) (_hl : lang.size ≤ 9223372036854775807) (hv : Strs w v xs) (hn : xs.length ≤ 9223372036854775807) (hx : ∀ x ∈ xs, x.size ≤ 9223372036854775807) :
    Calls Tryd.prog 9 #[.string lang, v] w fun e w' => e = .returned (.bool true) ∧ Below w.heap.size w w' := by
  have h1 := rSmall v xs w hv hn hx
  cases hs : (decide (xs.length ≤ 40) && smalls xs) with
  | false =>
    rw [hs] at h1
    have H1 := Lib.hid h1
    clear h1 hs
    go_enter Tryd.func9, Tryd.ntmps9
    go_wp2_with fail
    refine H1.out.mono ?_
    rintro e w1 ⟨rfl, d1⟩
    go_wp2_with fail
    refine (alive_any _ (hE.below (d1.below _))).mono ?_
    rintro e w2 ⟨rfl, b2⟩
    go_wp2
    go_ret
    exact ⟨rfl, (d1.below _).bt b2⟩
  | true =>
    rw [hs] at h1
    rw [Bool.and_eq_true, decide_eq_true_eq] at hs
    obtain ⟨l, rfl, hg⟩ := smalls_texts xs hs.2
    have h40 : l.length ≤ 40 := by have := hs.1; rwa [tbs_len] at this
    have H1 := Lib.hid h1
    have HV := Lib.hid hv
    have HG := Lib.hid hg
    clear h1 hs hv hn hx hg
    go_enter Tryd.func9, Tryd.ntmps9
    go_wp2_with fail
    refine H1.out.mono ?_
    rintro e w1 ⟨rfl, d1⟩
    have b1 := d1.below w.heap.size
    go_wp2_with fail
    refine (pSort lang v l _ (hE.below b1) (HV.out.dr d1) HG.out h40).mono ?_
    rintro e w2 ⟨l1, ⟨v1, rfl, hv1, c2⟩, hp1, hs1⟩
    have b2 := b1.bt c2
    have HV1 := Lib.hid (And.intro hv1 (And.intro hp1 hs1))
    clear hv1 hp1 hs1
    go_wp2_with fail
    refine (rSort lang v l _ ((HV.out.below b2 (Nat.le_refl _))) HG.out h40).mono ?_
    rintro e w3 ⟨l2, ⟨v2, rfl, hv2, c3⟩, hp2, hs2⟩
    have b3 := b2.bt c3
    obtain ⟨hv1, hp1, hs1⟩ := HV1.out
    obtain rfl : l2 = l1 := sorted_unique _ l2 l1 (fun x hx => (HG.out x (hp2.subset hx)).1) (hp2.trans hp1.symm) hs2 hs1
    have HC := Lib.hid (lsame v1 v2 (tbs l2) w3 (hv1.below c3 (Nat.le_refl _)) hv2 (by rw [tbs_len, hp2.length_eq]; omega))
    clear hv1 hv2 hp1 hs1 hp2 hs2 HV1
    go_wp2_with fail
    refine HC.out.mono ?_
    rintro e w4 ⟨rfl, d4⟩
    have b4 := b3.bt (d4.below w3.heap.size)
    clear HC
    go_wp2_with fail
    refine (alive_any _ (hE.below b4)).mono ?_
    rintro e w5 ⟨rfl, b5⟩
    go_wp2
    go_ret
    exact ⟨rfl, b4.bt b5⟩
set_option maxRecDepth 100000 in
set_option maxHeartbeats 4000000 in
theorem law_CollatePermutes (lang : ByteArray) (v : Value) (xs : List ByteArray) (w : World) (hE : Env w) (_hl : lang.size ≤ 9223372036854775807) (hv : Strs w v xs) (hn : xs.length ≤ 9223372036854775807) (hx : ∀ x ∈ xs, x.size ≤ 9223372036854775807) :
    Calls Tryd.prog 10 #[.string lang, v] w fun e w' => e = .returned (.bool true) ∧ Below w.heap.size w w' := by
  have h1 := rSmall v xs w hv hn hx
  cases hs : (decide (xs.length ≤ 40) && smalls xs) with
  | false =>
    rw [hs] at h1
    have H1 := Lib.hid h1
    clear h1 hs
    go_enter Tryd.func10, Tryd.ntmps10
    go_wp2_with fail
    refine H1.out.mono ?_
    rintro e w1 ⟨rfl, d1⟩
    go_wp2_with fail
    refine (alive_any _ (hE.below (d1.below _))).mono ?_
    rintro e w2 ⟨rfl, b2⟩
    go_wp2
    go_ret
    exact ⟨rfl, (d1.below _).bt b2⟩
  | true =>
    rw [hs] at h1
    rw [Bool.and_eq_true, decide_eq_true_eq] at hs
    obtain ⟨l, rfl, hg⟩ := smalls_texts xs hs.2
    have h40 : l.length ≤ 40 := by have := hs.1; rwa [tbs_len] at this
    obtain ⟨pa, ca, rfl, hca, hcells⟩ := hv
    rw [tbs_len] at hca h1 ⊢
    have H1 := Lib.hid h1
    have HV : Hid (Strs w (.slice pa l.length ca) (tbs l)) := Lib.hid ⟨pa, ca, by rw [tbs_len], by rw [tbs_len]; exact hca, hcells⟩
    have HG := Lib.hid hg
    obtain ⟨n, hnl⟩ : ∃ n, n = l.length := ⟨_, rfl⟩
    rw [← hnl] at h40 hca H1 HV ⊢
    have HNL := Lib.hid hnl
    clear h1 hs hn hx hg hcells hnl
    go_enter Tryd.func10, Tryd.ntmps10
    go_wp2_with fail
    refine H1.out.mono ?_
    rintro e w1 ⟨rfl, d1⟩
    have b1 := d1.below w.heap.size
    go_wp2_with fail
    refine (pSort lang _ l _ (hE.below b1) (HV.out.dr d1) HG.out (by rw [← HNL.out]; exact h40)).mono ?_
    rintro e w2 ⟨l1, ⟨v1, rfl, hv1, c2⟩, hp1, hs1⟩
    have b2 := b1.bt c2
    obtain ⟨p1, k1, rfl, hk1, hcells1⟩ := hv1
    have hl1 : l1.length = n := by rw [hp1.length_eq]; exact HNL.out.symm
    rw [tbs_len, hl1] at hk1 ⊢
    have HV1 : Hid (Strs w2 (.slice p1 n k1) (tbs l1) ∧ l1.Perm l ∧ SortedK (lcode lang) l1 ∧ l1.length = n) := Lib.hid ⟨⟨p1, k1, by rw [tbs_len, hl1], by rw [tbs_len, hl1]; exact hk1, hcells1⟩, hp1, hs1, hl1⟩
    have HC1 := Lib.hid hcells1
    clear hp1 hs1 hl1 hcells1
    go_wp2_with fail
    refine (pSort lang _ l1 _ (hE.below b2) HV1.out.1 (HG.out.perm HV1.out.2.1) (by rw [HV1.out.2.2.2]; exact h40)).mono ?_
    rintro e w3 ⟨l2, ⟨v2, rfl, hv2, c3⟩, hp2, hs2⟩
    have b3 := b2.bt c3
    obtain rfl : l2 = l1 := sorted_unique _ l2 l1 (fun x hx => (HG.out x (HV1.out.2.1.subset (hp2.subset hx))).1) hp2 hs2 HV1.out.2.2.1
    have HC := Lib.hid (lsame v2 (.slice p1 n k1) (tbs l2) w3 hv2 (HV1.out.1.below c3 (Nat.le_refl _)) (by rw [tbs_len, HV1.out.2.2.2]; omega))
    clear hv2 hp2 hs2
    go_wp2_with fail
    refine HC.out.mono ?_
    rintro e w4 ⟨rfl, d4⟩
    have c4 : Below w2.heap.size w2 w4 := c3.bt (d4.below w3.heap.size)
    have b4 := b2.bt c4
    have HB4 := Lib.hid (And.intro b4 c4)
    have hsw : w.heap.size ≤ w4.heap.size := b4.size
    clear HC d4 c3 b3 c2 d1 b1
    go_wp2
    go_loopw [29] (fun vi wr => ∃ i : Nat, vi = .int .i64 i ∧ i ≤ n ∧ Hid (Below w4.heap.size w4 wr)) (fun vi _ => n - (intOf vi).toNat)
    case atStart => exact ⟨0, rfl, by omega, Lib.hid (Below.refl _ _)⟩
    case round =>
      obtain ⟨i, rfl, hin, HW⟩ := hrel
      by_cases hlt : i < n
      · have hltz : (i : Int) < (n : Int) := by omega
        obtain ⟨x, hx⟩ : ∃ x, l2[i]? = some x := ⟨_, List.getElem?_eq_getElem (by have := HV1.out.2.2.2; omega)⟩
        rcases HC1.out with h0 | ⟨b, o, rfl, hbl, hcl⟩
        · rw [show l2 = [] by simpa [tbs] using h0] at hx; cases hx
        obtain ⟨C, hC⟩ : ∃ C : World → Prop, C = fun w' => Below w4.heap.size w4 w' := ⟨_, rfl⟩
        have hC2 : ∀ w', C w' → Below w2.heap.size w2 w' := fun w' h => by rw [hC] at h; exact HB4.out.2.bt h
        have hCw : ∀ w', C w' → Below w.heap.size w w' := fun w' h => by rw [hC] at h; exact HB4.out.1.bt h
        have hstep : ∀ w' w'', C w' → Below w'.heap.size w' w'' → C w'' := by
          intro w' w'' hw' hb
          rw [hC] at hw' ⊢
          exact hw'.bt hb
        have hC0 : C { wr with drawn := wr.drawn + 1 } := by rw [hC]; exact HW.out.drew
        obtain ⟨cn, hcn⟩ : ∃ cn, cn = cnt (tbs l) (bs x) := ⟨_, rfl⟩
        have hcn2 : cn = cnt (tbs l2) (bs x) := by rw [hcn]; exact ((HV1.out.2.1.map bs).countP_eq _).symm
        have hc1 : ∀ w', C w' → Calls Tryd.prog 25 #[.slice (some ⟨b, o, none⟩) n k1, .string (bs x)] w' fun e' w'' => e' = .returned (.int .i64 cn) ∧ Below w'.heap.size w' w'' := by
          intro w' hw'
          refine (lcount _ (tbs l2) (bs x) w' (HV1.out.1.below (hC2 w' hw') (Nat.le_refl _)) (by rw [tbs_len, HV1.out.2.2.2]; omega)).mono ?_
          rintro e' w'' ⟨rfl, rfl⟩
          exact ⟨by rw [hcn2], Below.refl _ _⟩
        have hc2 : ∀ w', C w' → Calls Tryd.prog 25 #[.slice pa n ca, .string (bs x)] w' fun e' w'' => e' = .returned (.int .i64 cn) ∧ Below w'.heap.size w' w'' := by
          intro w' hw'
          refine (lcount _ (tbs l) (bs x) w' (HV.out.below (hCw w' hw') (Nat.le_refl _)) (by rw [tbs_len, ← HNL.out]; omega)).mono ?_
          rintro e' w'' ⟨rfl, rfl⟩
          exact ⟨by rw [hcn], Below.refl _ _⟩
        have HC2 := Lib.hid hC
        have gx := HG.out x (HV1.out.2.1.subset (List.mem_of_getElem? hx))
        obtain ⟨XX, hXX⟩ : ∃ XX, XX = bs x := ⟨_, rfl⟩
        by_cases hi0 : 0 < i
        · obtain ⟨ip, rfl⟩ : ∃ ip, i = ip + 1 := ⟨i - 1, by omega⟩
          obtain ⟨y, hy⟩ : ∃ y, l2[ip]? = some y := ⟨_, List.getElem?_eq_getElem (by have := HV1.out.2.2.2; omega)⟩
          have gy := HG.out y (HV1.out.2.1.subset (List.mem_of_getElem? hy))
          obtain ⟨kc, hkc⟩ : ∃ kc, kc = kcmp (lcode lang) y x := ⟨_, rfl⟩
          have hkc0 : kc ≤ 0 := by rw [hkc]; exact sorted_at _ HV1.out.2.2.1 hy hx (by omega)
          have hkc1 : ¬ 0 < kc := by omega
          have hc3 : ∀ w', C w' → Calls Tryd.prog 19 #[.string lang, .string (bs y), .string (bs x)] w' fun e' w'' => e' = .returned (.int .i64 kc) ∧ Below w'.heap.size w' w'' := by
            intro w' hw'
            rw [hkc]
            exact pCompare lang y x w' (hE.below (hCw w' hw')) gy.1 gx.1 (by have := gy.2; omega) (by have := gx.2; omega)
          have hcells : ∀ w', C w' → w'.cell? ⟨b, o + ip, none⟩ = some (.string (bs y)) ∧ w'.cell? ⟨b, o + (ip + 1), none⟩ = some (.string (bs x)) := by
            intro w' hw'
            exact ⟨((hC2 w' hw').cell (p := ⟨b, o + ip, none⟩) hbl).trans (hcl ip _ (tbs_at hy)), ((hC2 w' hw').cell (p := ⟨b, o + (ip + 1), none⟩) hbl).trans (hcl (ip + 1) _ (tbs_at hx))⟩
          obtain ⟨YY, hYY⟩ : ∃ YY, YY = bs y := ⟨_, rfl⟩
          rw [← hXX] at hc1 hc2 hc3 hcells
          rw [← hYY] at hc3 hcells
          have hwp : IntKind.i64.wrap (ip : Int) = (ip : Int) := by rw [IntKind.wrap_i64]; omega
          have hi1 : (ip : Int) < (n : Int) := by omega
          have hi2 : (0 : Int) < (ip : Int) + 1 := by omega
          have hi3 : (0 : Int) ≤ (ip : Int) + 1 := by omega
          have e0 : ((ip : Int) + 1).toNat = ip + 1 := by omega
          clear hC hC2 hCw hcn hcn2 hXX hYY hkc gx gy hcl hx hy hkc0
          go_wp2_with fail
          refine wp_region_quiet (C := C) (by kernel_rfl) (by kernel_rfl) hC0 ?_
          show wpQuiet _ _ _ _ [_, _, _, _, _, _, _, _, _, _, _, _, _, _, _, _, _, _, _, _, _, _, _, _, _, _, _, _, _, _, _] _
          repeat
            with_reducible refine wpQuiet_step (fun K hK => ?_)
            go_simp
            first
              | (with_reducible refine hK _ ?_; clear hK K)
              | (apply Exists.intro
                 with_reducible refine ⟨fun w' hw' => ?_, hK _ ?_⟩
                 · first
                   | with_reducible rfl
                   | (obtain ⟨q0, q1⟩ := hcells w' hw'; go_simp; with_reducible rfl)
                   | ((first
                       | with_reducible refine (hc1 w' hw').mono ?_
                       | with_reducible refine (hc2 w' hw').mono ?_
                       | with_reducible refine (hc3 w' hw').mono ?_)
                      exact fun e w'' ⟨he, hb⟩ => ⟨he, hstep w' w'' hw' hb⟩)
                 clear hK K)
          refine wpQuiet_nil ?_
          intro w2_ hw2
          have HW2 : Hid (Below w4.heap.size w4 w2_) := Lib.hid (by have := hw2; rw [HC2.out] at this; exact this)
          clear hc1 hc2 hc3 hcells hstep hC0 hw2
          go_wp2
          go_roundw
          case rel => exact ⟨ip + 1 + 1, by go_num, by omega, HW2⟩
          case measure => simp [intOf]; omega
        · obtain rfl : i = 0 := by omega
          have hcells : ∀ w', C w' → w'.cell? ⟨b, o, none⟩ = some (.string (bs x)) ∧ True := by
            intro w' hw'
            have := ((hC2 w' hw').cell (p := ⟨b, o + 0, none⟩) hbl).trans (hcl 0 _ (tbs_at hx))
            exact ⟨this, trivial⟩
          rw [← hXX] at hc1 hc2 hcells
          clear hC hC2 hCw hcn hcn2 hXX gx hcl hx
          go_wp2_with fail
          refine wp_region_quiet (C := C) (by kernel_rfl) (by kernel_rfl) hC0 ?_
          show wpQuiet _ _ _ _ [_, _, _, _, _, _, _, _, _, _, _, _, _, _, _, _, _, _, _, _, _, _, _, _, _, _, _, _, _, _, _] _
          repeat
            with_reducible refine wpQuiet_step (fun K hK => ?_)
            go_simp
            first
              | (with_reducible refine hK _ ?_; clear hK K)
              | (apply Exists.intro
                 with_reducible refine ⟨fun w' hw' => ?_, hK _ ?_⟩
                 · first
                   | with_reducible rfl
                   | (obtain ⟨q0, q1⟩ := hcells w' hw'; go_simp; with_reducible rfl)
                   | ((first
                       | with_reducible refine (hc1 w' hw').mono ?_
                       | with_reducible refine (hc2 w' hw').mono ?_)
                      exact fun e w'' ⟨he, hb⟩ => ⟨he, hstep w' w'' hw' hb⟩)
                 clear hK K)
          refine wpQuiet_nil ?_
          intro w2_ hw2
          have HW2 : Hid (Below w4.heap.size w4 w2_) := Lib.hid (by have := hw2; rw [HC2.out] at this; exact this)
          clear hc1 hc2 hcells hstep hC0 hw2
          go_wp2
          go_roundw
          case rel => exact ⟨1, by go_num, by omega, HW2⟩
          case measure => simp [intOf]; omega
      · have hltz : ¬ (i : Int) < (n : Int) := by omega
        have hbr : Below w.heap.size w wr := HB4.out.1.bt HW.out
        have HBR := Lib.hid hbr
        clear hbr
        go_wp2_with fail
        refine (alive_any _ (hE.below HBR.out)).mono ?_
        rintro e w5 ⟨rfl, b5⟩
        go_wp2
        go_ret
        exact ⟨rfl, HBR.out.bt b5⟩
end Go.Proofs.YtieapjdkbigejaaDoor
