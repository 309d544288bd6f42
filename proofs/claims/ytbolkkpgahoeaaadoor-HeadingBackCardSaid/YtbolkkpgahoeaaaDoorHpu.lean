/- The walk of the reference's Plain (layer 12). -/
import Derived.Test.YtbolkkpgahoeaaaDoorHpt
namespace Go.Proofs.YtbolkkpgahoeaaaDoor
open Go Go.RowKit

theorem byte_head (S : ByteArray) (h : 0 < S.size) : (S.data.toList.head? == some 45) = decide ((S[0].toNat : Int) = 45) := by
  have h0 : S.data.toList[0]? = some S[0] := by
    rw [List.getElem?_eq_getElem (by rw [len_data]; exact h)]; rfl
  rw [List.head?_eq_getElem?, h0, Bool.eq_iff_iff]
  simp only [beq_iff_eq, Option.some.injEq, decide_eq_true_eq]
  constructor
  · intro e; rw [e]; rfl
  · intro e
    have : S[0].toNat = 45 := by omega
    exact UInt8.toNat_inj.1 this
theorem byte_last (S : ByteArray) (h : 0 < S.size) : (S.data.toList.getLast? == some 45) = decide ((S[S.size - 1].toNat : Int) = 45) := by
  have hl := len_data S
  have h0 : S.data.toList[S.data.toList.length - 1]? = some S[S.size - 1] := by
    rw [List.getElem?_eq_getElem (by omega)]
    simp only [hl]
    rfl
  rw [List.getLast?_eq_getElem?, h0, Bool.eq_iff_iff]
  simp only [beq_iff_eq, Option.some.injEq, decide_eq_true_eq]
  constructor
  · intro e; rw [e]; rfl
  · intro e
    have : S[S.size - 1].toNat = 45 := by omega
    exact UInt8.toNat_inj.1 this

set_option maxRecDepth 100000 in
set_option maxHeartbeats 1000000 in
theorem rPlain {P : ByteArray → Bool} (hP : ∀ s, P s = true ↔ ∃ cs, okt cs = true ∧ s = bs cs ∧ plainP cs = true) (s : ByteArray) (w : World) (h0 : s.size ≠ 0) (hs : s.size ≤ 4000000000) :
    Calls Tryd.prog 39 #[.string s] w fun e w' => e = .returned (.bool (P s)) ∧ Below w.heap.size w w' := by
  obtain ⟨R, hR⟩ : ∃ R, R = P s := ⟨_, rfl⟩
  rw [← hR]
  cases ht : isText s.data.toList with
  | false =>
    rw [part_bad hP s ht] at hR
    have HR := Lib.hid hR
    have HV := Lib.hid (rValid_false s w ht hs)
    clear hR h0 ht
    go_enter Tryd.func39, Tryd.ntmps39
    go_wp2_with fail
    refine HV.out.mono ?_
    rintro e w1 ⟨rfl, d1⟩
    have HB1 := Lib.hid (d1.below w.heap.size)
    clear d1
    go_wp2
    go_ret
    exact ⟨by rw [HR.out]; rfl, HB1.out⟩
  | true =>
    obtain ⟨cs, hok, rfl⟩ := text_bs s ht
    have hne : cs ≠ [] := by
      intro e
      rw [e] at h0
      exact h0 rfl
    rw [part_text hP cs hok, plainP_eq hne] at hR
    have HV := Lib.hid (rValid_true cs w hok hs)
    have HCN := Lib.hid (fun W => rClean cs W hok hs)
    have HSP := Lib.hid (fun W => rSplit (bs cs) ⟨#[45, 45]⟩ W (by decide) (by decide) hs)
    have hq := bytes_eq (clean_okt cs hok) hok
    have hmk : (((split (⟨#[45, 45]⟩ : ByteArray).data.toList (bs cs).data.toList).map ba).length : Nat) = (split mark cs).length := by
      have e : (⟨#[45, 45]⟩ : ByteArray) = bs mark := rfl
      rw [e, map_ba_enc mark_ne mark_ascii cs hok, List.length_map]
    have hh := enc_head cs hok
    have hl := enc_last cs hok
    have hpos : 0 < (bs cs).size := by omega
    obtain ⟨c1, h1⟩ : ∃ c1, c1 = decide (clean cs = cs) := ⟨_, rfl⟩
    obtain ⟨k, h2⟩ : ∃ k, k = (split mark cs).length := ⟨_, rfl⟩
    have hnm : noMark cs = decide (k ≤ 1) := by rw [h2]; rfl
    obtain ⟨C, hC⟩ : ∃ C, C = bs (clean cs) := ⟨_, rfl⟩
    obtain ⟨S, hS⟩ : ∃ S, S = bs cs := ⟨_, rfl⟩
    rw [← hC] at hq
    rw [← h1] at hq hR
    rw [hnm] at hR
    rw [← h2] at hmk
    have HCN2 : Hid (∀ W, Calls Tryd.prog 33 #[.string S] W fun e w' => e = .returned (.string C) ∧ Dr W w') := Lib.hid (by rw [hC, hS]; exact HCN.out)
    rw [← hS] at hq HV hpos HSP hmk hs ⊢
    have hSe : S.data.toList = enc cs := by rw [hS, bs_data]
    rw [← hh, ← hl, ← hSe] at hR
    have HR := Lib.hid hR
    have HMK := Lib.hid hmk
    clear hR h1 h2 hC HCN hne ht h0 hok hnm hmk hh hl hSe hS
    cases c1 with
    | false =>
      go_enter Tryd.func39, Tryd.ntmps39
      go_wp2_with fail
      refine HV.out.mono ?_
      rintro e w1 ⟨rfl, d1⟩
      have HB1 := Lib.hid (d1.below w.heap.size)
      clear d1
      go_wp2_with fail
      refine (HCN2.out w1).mono ?_
      rintro e w2 ⟨rfl, d2⟩
      have HB2 := Lib.hid (HB1.out.bt (d2.below _))
      clear d2
      go_wp2
      go_ret
      exact ⟨by rw [HR.out]; rfl, HB2.out⟩
    | true =>
      by_cases hk : k ≤ 1
      · have hkz : (k : Int) ≤ 1 := by omega
        have HF : Hid (R = (!decide ((S[0].toNat : Int) = 45) && !decide ((S[S.size - 1].toNat : Int) = 45))) := Lib.hid (by
          rw [HR.out, byte_head S hpos, byte_last S hpos, decide_eq_true hk]; simp)
        clear HR
        by_cases hb : (S[0].toNat : Int) = 45
        · rw [decide_eq_true hb] at HF
          go_enter Tryd.func39, Tryd.ntmps39
          go_wp2_with fail
          refine HV.out.mono ?_
          rintro e w1 ⟨rfl, d1⟩
          have HB1 := Lib.hid (d1.below w.heap.size)
          clear d1
          go_wp2_with fail
          refine (HCN2.out w1).mono ?_
          rintro e w2 ⟨rfl, d2⟩
          have HB2 := Lib.hid (HB1.out.bt (d2.below _))
          clear d2
          go_wp2_with fail
          refine (HSP.out w2).mono ?_
          rintro e w3 ⟨v3, rfl, s3, b3⟩
          have HB3 := Lib.hid (HB2.out.bt b3)
          obtain ⟨sa, sc, rfl, -, -⟩ := s3
          rw [HMK.out]
          clear b3
          go_wp2
          go_ret
          exact ⟨by rw [HF.out]; rfl, HB3.out⟩
        · rw [decide_eq_false hb] at HF
          by_cases hc : (S[S.size - 1].toNat : Int) = 45
          · rw [decide_eq_true hc] at HF
            go_enter Tryd.func39, Tryd.ntmps39
            go_wp2_with fail
            refine HV.out.mono ?_
            rintro e w1 ⟨rfl, d1⟩
            have HB1 := Lib.hid (d1.below w.heap.size)
            clear d1
            go_wp2_with fail
            refine (HCN2.out w1).mono ?_
            rintro e w2 ⟨rfl, d2⟩
            have HB2 := Lib.hid (HB1.out.bt (d2.below _))
            clear d2
            go_wp2_with fail
            refine (HSP.out w2).mono ?_
            rintro e w3 ⟨v3, rfl, s3, b3⟩
            have HB3 := Lib.hid (HB2.out.bt b3)
            obtain ⟨sa, sc, rfl, -, -⟩ := s3
            rw [HMK.out]
            clear b3
            go_wp2
            go_ret
            exact ⟨by rw [HF.out]; simp, HB3.out⟩
          · rw [decide_eq_false hc] at HF
            go_enter Tryd.func39, Tryd.ntmps39
            go_wp2_with fail
            refine HV.out.mono ?_
            rintro e w1 ⟨rfl, d1⟩
            have HB1 := Lib.hid (d1.below w.heap.size)
            clear d1
            go_wp2_with fail
            refine (HCN2.out w1).mono ?_
            rintro e w2 ⟨rfl, d2⟩
            have HB2 := Lib.hid (HB1.out.bt (d2.below _))
            clear d2
            go_wp2_with fail
            refine (HSP.out w2).mono ?_
            rintro e w3 ⟨v3, rfl, s3, b3⟩
            have HB3 := Lib.hid (HB2.out.bt b3)
            obtain ⟨sa, sc, rfl, -, -⟩ := s3
            rw [HMK.out]
            clear b3
            go_wp2
            go_ret
            exact ⟨by rw [HF.out]; simp [hb, hc], HB3.out⟩
      · have hkz : (1 : Int) < (k : Int) := by omega
        go_enter Tryd.func39, Tryd.ntmps39
        go_wp2_with fail
        refine HV.out.mono ?_
        rintro e w1 ⟨rfl, d1⟩
        have HB1 := Lib.hid (d1.below w.heap.size)
        clear d1
        go_wp2_with fail
        refine (HCN2.out w1).mono ?_
        rintro e w2 ⟨rfl, d2⟩
        have HB2 := Lib.hid (HB1.out.bt (d2.below _))
        clear d2
        go_wp2_with fail
        refine (HSP.out w2).mono ?_
        rintro e w3 ⟨v3, rfl, s3, b3⟩
        have HB3 := Lib.hid (HB2.out.bt b3)
        obtain ⟨sa, sc, rfl, -, -⟩ := s3
        rw [HMK.out]
        clear b3
        go_wp2
        go_ret
        exact ⟨by rw [HR.out, decide_eq_false hk]; rfl, HB3.out⟩
end Go.Proofs.YtbolkkpgahoeaaaDoor
