/- The walk of the statement PatronBack (layer 28): it returns true, and what was there before stays. -/
import Derived.Test.YtlpeppigebbfkaaDoorNly
namespace Go.Proofs.YtlpeppigebbfkaaDoor
open Go Go.RowKit

set_option maxRecDepth 100000 in
set_option maxHeartbeats 4000000 in
theorem law_PatronBack (v : Value) (l : List Pat) (p : Pat) (w : World) (hE : Env w) (hv : Pats w v l) (hl : l.length ≤ maxLen) (_ : ∀ p ∈ l, p.fits) (hpf : p.fits) :
    Calls Tryd.prog 8 #[v, .agg #[.int .i64 p.id, .int .i64 p.kind, .int .i64 p.branch, .int .i64 p.till, .bool p.stop, .string p.name]] w fun e w' => e = .returned (.bool true) ∧ Below w.heap.size w w' := by
  obtain ⟨F, hF⟩ := form_dec
  obtain ⟨G, hG⟩ := words_dec
  obtain ⟨W0, hW0⟩ : ∃ W0, W0 = w.alloc (.cells #[.int .i64 p.id, .int .i64 p.kind, .int .i64 p.branch, .int .i64 p.till, .bool p.stop, .string p.name] 28) := ⟨_, rfl⟩
  have hb0 : Below w.heap.size w W0 := by rw [hW0]; exact (Below.refl _ _).alloc (Nat.le_refl _) _
  have hs0 : w.heap.size < W0.heap.size := by rw [hW0, World.size_alloc]; exact Nat.lt_succ_self _
  have h60 : Six W0 w.heap.size 0 p := by
    rw [hW0]
    refine ⟨?_, ?_, ?_, ?_, ?_, ?_⟩ <;> (rw [Lib.cell_of_heap (heap_alloc_new w _)]; rfl)
  have hE0 := hE.below hb0
  have hv0 := hv.below hb0 (Nat.le_refl _)
  have HW0 := Lib.hid hW0
  have HB0 := Lib.hid hb0
  have H60 := Lib.hid h60
  have HE0 := Lib.hid hE0
  have HV0 := Lib.hid hv0
  have HAL := Lib.hid (alive_any W0 hE0)
  have hva := fun W (hW : Below W0.heap.size W0 W) => lvalid hF v l W (hv0.below hW (Nat.le_refl _)) (by unfold maxLen at hl; omega)
  cases h : ((decide (l.length ≤ 60) && smallP l) && decide (right F l = 0)) with
  | false =>
    rw [h] at hva
    have HVA := Lib.hid hva
    clear hva h hv hE hl hF hW0 hb0 h60 hE0 hv0 hpf hG
    go_enter Tryd.func8, Tryd.ntmps8
    go_wp2_with fail
    rw [← HW0.out]
    refine HAL.out.mono ?_
    rintro e w1 ⟨rfl, b1⟩
    have HB1 := Lib.hid b1
    clear b1
    go_wp2_with fail
    refine (HVA.out w1 HB1.out).mono ?_
    rintro e w2 ⟨rfl, b2⟩
    have HB2 := Lib.hid (HB1.out.bt b2)
    clear b2
    go_wp2
    go_ret
    exact ⟨rfl, HB0.out.bt HB2.out⟩
  | true =>
    rw [h] at hva
    have HVA := Lib.hid hva
    simp only [Bool.and_eq_true, decide_eq_true_eq] at h
    obtain ⟨⟨h60', hsm⟩, hr⟩ := h
    have hn : ∀ q ∈ l, q.name.size ≤ 1000000 := fun q hq => by have := smallP_names hsm q hq; omega
    have hsz9 := hpf.name
    by_cases hs1 : p.name.size ≤ 1000
    · have hsz : ((p.name.size : Nat) : Int) ≤ 1000 := by omega
      have hpa := fun W (hW : Below W0.heap.size W0 W) => pAdd hF v l p W (hE0.below hW) (hv0.below hW (Nat.le_refl _)) (by omega) hn (by omega)
      by_cases hok : (addL F l p).2 = 0
      · obtain ⟨hat, hm1, hrm⟩ := add_ok hok
        rw [hok, hm1] at hpa
        have hlm := insP_len p l
        have hnot := at64_notin hat
        obtain ⟨m, hm⟩ : ∃ m, m = insP p l := ⟨_, rfl⟩
        have hgt : getPat m p.id = (p, true) := by rw [hm]; exact get_insP hnot
        have hrv : removeL m p.id = (l, 0) := by rw [hm]; exact remove_insP hnot
        have hpm : p ∈ m := by rw [hm]; exact mem_insP p l
        rw [← hm] at hpa hlm hrm
        have hnm := names_of hF hrm
        obtain ⟨-, cs, hcs, hnc⟩ := hnm p hpm
        have hfound := found_self G p m hpm
        have hgw : G p.name = (words cs).map bs := by rw [hnc]; exact hG cs hcs
        have hlx := search_len G (G p.name) m
        have hpg := fun W (vm : Value) (hvm : Pats W vm m) => pGet vm m p.id W hvm (by omega)
        rw [hgt] at hpg
        simp only [Pat.agg] at hpg
        have hpr := fun W (vm : Value) (hvm : Pats W vm m) => pRemove vm m p.id W hvm (by omega)
        rw [hrv] at hpr
        have hps := fun W (hW : Env W) (vm : Value) (hvm : Pats W vm m) => pSearch hG vm m cs W hW hvm (by omega) hnm hcs (by rw [← hnc]; omega)
        have hpq := fun W (hW : Env W) (vm : Value) (hvm : Pats W vm m) => pRight hF vm m W hW hvm (by omega) (fun q hq => Nat.le_trans (hnm q hq).1 (by decide))
        rw [hrm] at hpq
        have hrw := fun W => rWords cs W hcs (by rw [← hnc]; omega)
        rw [← hgw, ← hnc] at hps
        rw [← hgw, ← hnc] at hrw
        obtain ⟨X, hX⟩ : ∃ X, X = searchL G (G p.name) m := ⟨_, rfl⟩
        rw [← hX] at hps hfound hlx
        obtain ⟨WS, hWS⟩ : ∃ WS, WS = G p.name := ⟨_, rfl⟩
        rw [← hWS] at hrw hfound
        have hll : l.length ≤ 1000000 := by omega
        obtain ⟨n, hnn⟩ : ∃ n, n = X.length := ⟨_, rfl⟩
        rw [← hnn] at hlx
        have hn1 : n ≤ 1000 := by omega
        have HFD := Lib.hid hfound
        have HPA := Lib.hid hpa
        have HPG := Lib.hid hpg
        have HPR := Lib.hid hpr
        have HPS := Lib.hid hps
        have HPQ := Lib.hid hpq
        have HRW := Lib.hid hrw
        have HLL := Lib.hid hll
        have HLM := Lib.hid hlm
        have HNN := Lib.hid hnn
        obtain ⟨mn, hmn⟩ : ∃ mn, mn = m.length := ⟨_, rfl⟩
        have HMN := Lib.hid hmn
        obtain ⟨pa, pc, rfl, hpc, -⟩ := id hv
        obtain ⟨ln, hln⟩ : ∃ ln, ln = l.length := ⟨_, rfl⟩
        have hlm2 : (mn : Int) = (ln : Int) + 1 := by omega
        have HLM2 := Lib.hid hlm2
        have hln100 : ln ≤ 100 := by omega
        have HLN := Lib.hid hln
        rw [← hln] at hpc HV0 HVA HPA ⊢
        clear hva hv hE hl hF hW0 hb0 h60 hE0 hv0 hpf hn hsm hr h60' hsz9 hs1 hG hpa hok hat hm1 hrm hlm hnot hm hgt hrv hpm hnm hcs hnc hfound hgw hlx hpg hpr hps hpq hrw hX hWS hll hnn hmn hlm2 hln
        go_enter Tryd.func8, Tryd.ntmps8
        go_wp2_with fail
        rw [← HW0.out]
        refine HAL.out.mono ?_
        rintro e w1 ⟨rfl, b1⟩
        have HB1 := Lib.hid b1
        clear b1
        go_wp2_with fail
        refine (HVA.out w1 HB1.out).mono ?_
        rintro e w2 ⟨rfl, b2⟩
        have hb2 := HB1.out.bt b2
        have HB2 := Lib.hid hb2
        obtain ⟨q0, q1, q2, q3, q4, q5⟩ := H60.out.below hb2 hs0
        simp only [Nat.zero_add] at q0 q1 q2 q3 q4 q5
        clear b2 hb2
        go_wp2_with fail
        refine (HPA.out w2 HB2.out).mono ?_
        rintro e w3 ⟨vm, rfl, p3, b3⟩
        obtain ⟨ma, mc, rfl, hmc, -⟩ := id p3
        rw [← HMN.out] at p3 hmc ⊢
        have hb3 := HB2.out.bt b3
        have HB3 := Lib.hid hb3
        have HM3 := Lib.hid p3
        clear q0 q1 q2 q3 q4 q5
        obtain ⟨q0, q1, q2, q3, q4, q5⟩ := H60.out.below hb3 hs0
        simp only [Nat.zero_add] at q0 q1 q2 q3 q4 q5
        clear hb3 b3 p3
        go_wp2_with fail
        refine (HPG.out w3 _ HM3.out).mono ?_
        rintro e w4 ⟨rfl, b4⟩
        have hb4 := HB3.out.bt b4
        have HB4 := Lib.hid hb4
        have HM4 := Lib.hid (HM3.out.below b4 (Nat.le_refl _))
        clear q0 q1 q2 q3 q4 q5
        obtain ⟨q0, q1, q2, q3, q4, q5⟩ := H60.out.below hb4 hs0
        simp only [Nat.zero_add] at q0 q1 q2 q3 q4 q5
        have hgl4 : w.heap.size < w4.heap.size := Nat.lt_of_lt_of_le hs0 hb4.size
        clear hb4 b4
        go_wp2_with fail
        have s5 := six_new w4 p 28
        have b5 := (Below.refl w4.heap.size w4).alloc (Nat.le_refl _) (.cells #[.int .i64 p.id, .int .i64 p.kind, .int .i64 p.branch, .int .i64 p.till, .bool p.stop, .string p.name] 28)
        obtain ⟨w5, hw5⟩ : ∃ w5, w5 = w4.alloc (.cells #[.int .i64 p.id, .int .i64 p.kind, .int .i64 p.branch, .int .i64 p.till, .bool p.stop, .string p.name] 28) := ⟨_, rfl⟩
        rw [← hw5]
        rw [← hw5] at s5 b5
        have z5 : w4.heap.size < w5.heap.size := by rw [hw5, World.size_alloc]; exact Nat.lt_succ_self _
        have HB5 := Lib.hid (HB4.out.bt b5)
        have HM5 := Lib.hid (HM4.out.below b5 (Nat.le_refl _))
        obtain ⟨g, hg⟩ : ∃ g, g = w4.heap.size := ⟨_, rfl⟩
        rw [← hg] at s5 z5 ⊢
        have HG5 := Lib.hid (And.intro s5 z5)
        clear s5 b5 z5 hg hw5 q0 q1 q2 q3 q4 q5 hgl4
        refine (HPR.out w5 _ HM5.out).mono ?_
        rintro e w6 ⟨vn, rfl, p6, b6⟩
        have hb6 := HB5.out.bt b6
        have HB6 := Lib.hid hb6
        have HM6 := Lib.hid (HM5.out.below b6 (Nat.le_refl _))
        have HN6 := Lib.hid p6
        have HG6 := Lib.hid (And.intro (HG5.out.1.below b6 HG5.out.2) (Nat.lt_of_lt_of_le HG5.out.2 b6.size))
        obtain ⟨q0, q1, q2, q3, q4, q5⟩ := H60.out.below hb6 hs0
        simp only [Nat.zero_add] at q0 q1 q2 q3 q4 q5
        clear hb6 b6 p6
        go_wp2_with fail
        refine (HPS.out w6 (HE0.out.below HB6.out) _ HM6.out).mono ?_
        rintro e w7 ⟨vi, rfl, i7, b7⟩
        have hb7 := HB6.out.bt b7
        have HB7 := Lib.hid hb7
        have HM7 := Lib.hid (HM6.out.below b7 (Nat.le_refl _))
        have HN7 := Lib.hid (HN6.out.below b7 (Nat.le_refl _))
        have HG7 := Lib.hid (And.intro (HG6.out.1.below b7 HG6.out.2) (Nat.lt_of_lt_of_le HG6.out.2 b7.size))
        obtain ⟨ia, ic, rfl, hic, hicells⟩ := i7
        rw [← HNN.out] at hic ⊢
        have HIC := Lib.hid hicells
        clear q0 q1 q2 q3 q4 q5 b7 hb7 hicells
        go_wp2_with fail
        go_loopw [11, 13] (fun fv iv wr => ∃ k : Nat, fv = .bool ((X.take k).any (fun x => decide (x = p.id))) ∧ iv = .int .i64 k ∧ k ≤ n ∧ Hid (Dr w7 wr)) (fun _ iv _ => n - (intOf iv).toNat)
        case atStart => exact ⟨0, rfl, rfl, by omega, Lib.hid (Dr.refl _)⟩
        case round =>
          obtain ⟨k, rfl, rfl, hk, HD⟩ := hrel
          obtain ⟨fb, hfb⟩ : ∃ fb, fb = (X.take k).any (fun x => decide (x = p.id)) := ⟨_, rfl⟩
          rw [← hfb]
          have HFB := Lib.hid hfb
          clear hfb
          have hbr : Below W0.heap.size W0 wr := HB7.out.bt (HD.out.below _)
          obtain ⟨q0, q1, q2, q3, q4, q5⟩ := H60.out.below hbr hs0
          simp only [Nat.zero_add] at q0 q1 q2 q3 q4 q5
          by_cases hlt : k < n
          · have hltz : (k : Int) < (n : Int) := by omega
            obtain ⟨x, hx⟩ : ∃ x, X[k]? = some x := ⟨_, List.getElem?_eq_getElem (by have := HNN.out; omega)⟩
            rcases HIC.out with h0 | ⟨b, o, rfl, hbl, hcl⟩
            · rw [h0] at hx; cases hx
            have hc1 : wr.cell? ⟨b, o + k, none⟩ = some (.int .i64 x) := ((HD.out.below w7.heap.size).cell (p := ⟨b, o + k, none⟩) hbl).trans (hcl k x hx)
            have HNX : Hid ((X.take (k + 1)).any (fun x => decide (x = p.id)) = (fb || decide (x = p.id))) := Lib.hid (by
              rw [List.take_add_one, List.any_append, ← HFB.out, hx]
              simp)
            clear hx hcl hbr
            cases fb with
            | true =>
              go_wp2_with fail
              go_quiet (fail)
              go_wp2
              go_roundw
              case rel => exact ⟨k + 1, by rw [HNX.out]; rfl, by go_num, by omega, Lib.hid (HD.out.trans ⟨_, rfl⟩)⟩
              case measure => simp [intOf]; omega
            | false =>
              go_wp2_with fail
              go_quiet (fail)
              go_wp2
              go_roundw
              case rel => exact ⟨k + 1, by rw [HNX.out]; rfl, by go_num, by omega, Lib.hid (HD.out.trans ⟨_, rfl⟩)⟩
              case measure => simp [intOf]; omega
          · have hltz : ¬ (k : Int) < (n : Int) := by omega
            have HFE : Hid (fb = !WS.isEmpty) := Lib.hid (by rw [HFB.out, List.take_of_length_le (by have := HNN.out; omega), HFD.out])
            have b8 := HD.out.below w7.heap.size
            have HB8 := Lib.hid hbr
            have HM8 := Lib.hid (HM7.out.below b8 (Nat.le_refl _))
            have HN8 := Lib.hid (HN7.out.below b8 (Nat.le_refl _))
            have HG8 := Lib.hid (And.intro (HG7.out.1.below b8 HG7.out.2) (Nat.lt_of_lt_of_le HG7.out.2 b8.size))
            clear b8 hbr HFB
            go_wp2_with fail
            refine (HPQ.out wr (HE0.out.below HB8.out) _ HM8.out).mono ?_
            rintro e w9 ⟨rfl, b9⟩
            have hb9 := HB8.out.bt b9
            have HB9 := Lib.hid hb9
            have HN9 := Lib.hid (HN8.out.below b9 (Nat.le_refl _))
            have HV9 := Lib.hid (HV0.out.below hb9 (Nat.le_refl _))
            obtain ⟨g0, g1, g2, g3, g4, g5⟩ := HG8.out.1.below b9 HG8.out.2
            simp only [Nat.zero_add] at g0 g1 g2 g3 g4 g5
            clear q0 q1 q2 q3 q4 q5
            obtain ⟨q0, q1, q2, q3, q4, q5⟩ := H60.out.below hb9 hs0
            simp only [Nat.zero_add] at q0 q1 q2 q3 q4 q5
            have hlz := HLM2.out
            have hwz : IntKind.i64.wrap ((ln : Int) + 1) = (mn : Int) := by rw [IntKind.wrap_i64]; omega
            clear hb9 b9
            go_wp2_with fail
            refine (rSameP _ _ l w9 HN9.out HV9.out HLL.out).mono ?_
            rintro e w10 ⟨rfl, d10⟩
            have b10 := d10.below w9.heap.size
            have hb10 := HB9.out.bt b10
            have HB10 := Lib.hid hb10
            clear q0 q1 q2 q3 q4 q5 g0 g1 g2 g3 g4 g5
            obtain ⟨q0, q1, q2, q3, q4, q5⟩ := H60.out.below hb10 hs0
            simp only [Nat.zero_add] at q0 q1 q2 q3 q4 q5
            clear d10 b10 hb10
            go_wp2_with fail
            refine (HRW.out w10).mono ?_
            rintro e w11 ⟨vw, rfl, s11, b11⟩
            have HB11 := Lib.hid (HB10.out.bt b11)
            obtain ⟨wa, wc, rfl, -, -⟩ := s11
            clear b11 q0 q1 q2 q3 q4 q5
            have HFL : Hid (fb = decide ((0 : Int) < (WS.length : Int))) := Lib.hid (by rw [HFE.out]; cases WS <;> simp <;> omega)
            go_wp2
            go_ret
            exact ⟨by rw [HFL.out]; simp, HB0.out.bt HB11.out⟩
      · have hbad := add_bad hok
        rw [hbad] at hpa
        obtain ⟨er, her⟩ : ∃ er, er = (addL F l p).2 := ⟨_, rfl⟩
        rw [← her] at hpa hok
        have hne : (er == 0) = false := by simpa using hok
        have HPA := Lib.hid hpa
        clear hva hv hE hl hF hW0 hb0 h60 hE0 hv0 hpf hn hsm hr h60' hsz9 hs1 hG hpa hbad her
        go_enter Tryd.func8, Tryd.ntmps8
        go_wp2_with fail
        rw [← HW0.out]
        refine HAL.out.mono ?_
        rintro e w1 ⟨rfl, b1⟩
        have HB1 := Lib.hid b1
        clear b1
        go_wp2_with fail
        refine (HVA.out w1 HB1.out).mono ?_
        rintro e w2 ⟨rfl, b2⟩
        have hb2 := HB1.out.bt b2
        have HB2 := Lib.hid hb2
        obtain ⟨q0, q1, q2, q3, q4, q5⟩ := H60.out.below hb2 hs0
        simp only [Nat.zero_add] at q0 q1 q2 q3 q4 q5
        clear b2 hb2
        go_wp2_with fail
        refine (HPA.out w2 HB2.out).mono ?_
        rintro e w3 ⟨vm, rfl, p3, b3⟩
        have HB3 := Lib.hid (HB2.out.bt b3)
        obtain ⟨ia, ic, rfl, -, -⟩ := p3
        simp only [List.length_nil]
        clear b3 q0 q1 q2 q3 q4 q5
        go_wp2
        go_ret
        exact ⟨rfl, HB0.out.bt HB3.out⟩
    · have hsz : (1000 : Int) < ((p.name.size : Nat) : Int) := by omega
      clear hva hv hE hl hF hW0 hb0 h60 hE0 hv0 hpf hn hsm hr h60' hsz9 hs1 hG
      go_enter Tryd.func8, Tryd.ntmps8
      go_wp2_with fail
      rw [← HW0.out]
      refine HAL.out.mono ?_
      rintro e w1 ⟨rfl, b1⟩
      have HB1 := Lib.hid b1
      clear b1
      go_wp2_with fail
      refine (HVA.out w1 HB1.out).mono ?_
      rintro e w2 ⟨rfl, b2⟩
      have hb2 := HB1.out.bt b2
      have HB2 := Lib.hid hb2
      obtain ⟨q0, q1, q2, q3, q4, q5⟩ := H60.out.below hb2 hs0
      simp only [Nat.zero_add] at q0 q1 q2 q3 q4 q5
      clear b2 hb2
      go_wp2
      go_ret
      exact ⟨rfl, HB0.out.bt HB2.out⟩
end Go.Proofs.YtlpeppigebbfkaaDoor
