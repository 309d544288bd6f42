/- The walk of the reference's Skip (layer 2). -/
import Derived.Test.YtieapjdkbigejaaDoorKrs
namespace Go.Proofs.YtieapjdkbigejaaDoor
open Go Go.RowKit

theorem get_bs (cs : List Nat) (k : Nat) (h : k < (bs cs).size) : (enc cs)[k]? = some (bs cs)[k] := by
  rw [← bs_data, Array.getElem?_toList]
  exact Array.getElem?_eq_getElem h
/-- A text in three: up to the first blank, the blanks, the rest. -/
theorem three (cs : List Nat) (_hok : okt cs = true) : ∃ B : List UInt8, enc cs = enc (hdc cs) ++ (B ++ enc (rsc cs)) ∧ (∀ x ∈ B, x = 32) ∧ (tlc cs ≠ [] → B ≠ []) := by
  have e : tlc cs = (tlc cs).takeWhile (· == 32) ++ rsc cs := List.takeWhile_append_dropWhile.symm
  refine ⟨enc ((tlc cs).takeWhile (· == 32)), ?_, ?_, ?_⟩
  · rw [← enc_append, ← e, ← enc_append, hd_tl]
  · intro x hx
    simp only [enc, List.mem_flatMap] at hx
    obtain ⟨c, hc, hx⟩ := hx
    have := List.all_eq_true.1 (List.all_takeWhile (p := fun x : Nat => x == 32) (l := tlc cs)) c hc
    have : c = 32 := by simpa using this
    subst this
    simpa [enc1] using hx
  · intro h hB
    have h2 := enc_eq_nil hB
    rcases tlc_cases cs with ht | ⟨r, ht⟩
    · exact h ht
    · rw [ht, List.takeWhile_cons_of_pos rfl] at h2
      cases h2
theorem rsc_head (cs : List Nat) (hok : okt cs = true) (b : UInt8) (h : (enc (rsc cs))[0]? = some b) : b ≠ 32 := by
  have ho := okt_rs cs hok
  cases hr : rsc cs with
  | nil => rw [hr] at h; simp [enc_nil] at h
  | cons c r =>
    have hc : c ≠ 32 := by
      have := List.head?_dropWhile_not (fun x : Nat => x == 32) (tlc cs)
      have e : (tlc cs).dropWhile (fun x : Nat => x == 32) = c :: r := hr
      rw [e] at this
      simpa using this
    rw [hr] at h ho
    simp only [okt, List.all_cons, Bool.and_eq_true] at ho
    rw [enc_cons] at h
    cases he : enc1 c with
    | nil => exact absurd he (enc1_ne c)
    | cons x t =>
      rw [he] at h
      simp at h
      subst h
      exact enc1_no32 c hc (okc_small ho.1).2 x (by rw [he]; simp)
theorem extract_front (s : ByteArray) (a b : List UInt8) (h : s.data.toList = a ++ b) : s.extract 0 a.length = ⟨a.toArray⟩ := by
  apply ba_ext
  simp [ByteArray.data_extract, h]
theorem extract_back (s : ByteArray) (a b : List UInt8) (h : s.data.toList = a ++ b) (n : Nat) (hn : n = s.size) : s.extract a.length n = ⟨b.toArray⟩ := by
  have : s.data.toList.length = n := by rw [hn, len_data]
  apply ba_ext
  rw [h, List.length_append] at this
  simp [ByteArray.data_extract, h, ← this]

set_option maxRecDepth 100000 in
set_option maxHeartbeats 2000000 in
theorem rSkip (lang : ByteArray) (cs : List Nat) (w : World) (hok : okt cs = true) (hs : (bs cs).size ≤ 1000000) :
    Calls Tryd.prog 16 #[.string lang, .string (bs cs)] w fun e w' => e = .returned (.string (bs (skip (lcode lang) cs))) ∧ Below w.heap.size w w' := by
  obtain ⟨B, hB, h32, hne⟩ := three cs hok
  have no := enc_no32 _ (okt_hd cs hok).1 (hdc_no cs)
  have hsz := bs_size cs
  have hh := rsc_head cs hok
  have get := get_bs cs
  have ext1 := extract_front (bs cs) (enc (hdc cs)) (B ++ enc (rsc cs)) (by rw [bs_data, hB])
  have ext2 := extract_back (bs cs) (enc (hdc cs) ++ B) (enc (rsc cs)) (by rw [bs_data, hB, List.append_assoc]) _ rfl
  have hart := rArticle lang (bs (fold (hdc cs)))
  rw [isart_S] at hart
  have hsa : (bs (hdc cs)).size ≤ 1000000 := by
    rw [bs_size] at hs ⊢
    rw [hB, List.length_append] at hs
    omega
  have hfd := fun W => rFold (hdc cs) W (okt_hd cs hok).1 (by omega)
  have hst : (bs cs).size = (enc (hdc cs)).length + (B.length + (enc (rsc cs)).length) := by rw [hsz, hB, List.length_append, List.length_append]
  have hR : skip (lcode lang) cs = if isart (lcode lang) (fold (hdc cs)) = true ∧ rsc cs ≠ [] then rsc cs else cs := rfl
  obtain ⟨R, hRe⟩ : ∃ R, R = skip (lcode lang) cs := ⟨_, rfl⟩
  rw [← hRe] at hR ⊢
  have hq : rsc cs = [] ↔ (enc (rsc cs)).length = 0 := by rw [List.length_eq_zero_iff]; exact ⟨fun h => by rw [h]; rfl, enc_eq_nil⟩
  have hlen2 : (enc (hdc cs) ++ B).length = (enc (hdc cs)).length + B.length := List.length_append
  rw [hlen2] at ext2
  obtain ⟨n1, hn1⟩ : ∃ n1 : Nat, n1 = (enc (hdc cs)).length := ⟨_, rfl⟩
  obtain ⟨m, hm⟩ : ∃ m : Nat, m = B.length := ⟨_, rfl⟩
  obtain ⟨z, hz⟩ : ∃ z : Nat, z = (enc (rsc cs)).length := ⟨_, rfl⟩
  -- the bytes
  obtain ⟨s, hsd⟩ : ∃ s, s = bs cs := ⟨_, rfl⟩
  have f2 : ∀ k, k < n1 → ∀ h : k < s.size, ((s[k].toNat : Int) != 32) = true := by
    subst hsd
    intro k hk h
    have := get k h
    rw [hB, List.getElem?_append_left (by omega)] at this
    have hx := no _ (List.mem_of_getElem? this)
    have : (bs cs)[k].toNat ≠ 32 := fun e => hx (UInt8.toNat_inj.1 e)
    rw [bne_iff_ne]
    omega
  have f3 : ∀ k, n1 ≤ k → k < n1 + m → ∀ h : k < s.size, s[k].toNat = 32 := by
    subst hsd
    intro k hk hk2 h
    have := get k h
    rw [hB, List.getElem?_append_right (by omega), List.getElem?_append_left (by omega)] at this
    rw [h32 _ (List.mem_of_getElem? this)]
    rfl
  have f4 : ∀ h : n1 + m < s.size, s[n1 + m].toNat ≠ 32 := by
    subst hsd
    intro h
    have := get _ h
    rw [hB, List.getElem?_append_right (by omega), List.getElem?_append_right (by omega), show n1 + m - (enc (hdc cs)).length - B.length = 0 by omega] at this
    exact fun e => hh _ this (UInt8.toNat_inj.1 e)
  have f5 : n1 < (bs cs).size → 0 < m := by
    intro h
    have : tlc cs ≠ [] := by
      intro e
      have e2 := hd_tl cs
      rw [e, List.append_nil] at e2
      rw [hn1, e2, ← bs_size] at h
      omega
    have := hne this
    cases B with
    | nil => exact absurd rfl this
    | cons => rw [hm]; simp
  rw [← hn1, ← hm, ← hz] at hst
  rw [← hz] at hq
  rw [← hn1] at ext1
  rw [← hn1, ← hm] at ext2
  have hRs : (isart (lcode lang) (fold (hdc cs)) = true ∧ z ≠ 0 → bs R = bs (rsc cs)) ∧ (¬ (isart (lcode lang) (fold (hdc cs)) = true ∧ z ≠ 0) → bs R = s) := by
    rw [hR]
    constructor
    · rintro ⟨h1, h2⟩; rw [if_pos ⟨h1, fun e => h2 (hq.1 e)⟩]
    · intro h; rw [if_neg (fun g => h ⟨g.1, fun e => g.2 (hq.2 e)⟩), hsd]
  obtain ⟨q, hqs⟩ : ∃ q, q = bs (rsc cs) := ⟨_, rfl⟩
  have ext2' : (bs cs).extract (n1 + m) (bs cs).size = q := by rw [ext2, hqs]; rfl
  obtain ⟨RB, hRB⟩ : ∃ RB, RB = bs R := ⟨_, rfl⟩
  obtain ⟨i, hi⟩ : ∃ i, i = isart (lcode lang) (fold (hdc cs)) := ⟨_, rfl⟩
  obtain ⟨a, ha⟩ : ∃ a, a = bs (hdc cs) := ⟨_, rfl⟩
  obtain ⟨fa, hfa⟩ : ∃ fa, fa = bs (fold (hdc cs)) := ⟨_, rfl⟩
  have ext1' : (bs cs).extract 0 n1 = a := by rw [ext1, ha]; rfl
  rw [← hi, ← hfa] at hart
  rw [← ha, ← hfa] at hfd
  rw [← hi, ← hqs, ← hRB] at hRs
  rw [← hRB]
  rw [← ha] at hsa
  rw [← hsd] at ext1' ext2' hst hs f5 ⊢
  have hst1 := Nat.le_of_eq hst
  have hst2 := Nat.le_of_eq hst.symm
  clear hst
  have F2 := Lib.hid f2
  have F3 := Lib.hid f3
  have F4 := Lib.hid f4
  have F5 := Lib.hid f5
  have X1 := Lib.hid ext1'
  have X2 := Lib.hid ext2'
  have HF := Lib.hid hfd
  have HA := Lib.hid hart
  have HR := Lib.hid hRs
  clear f2 f3 f4 f5 ext1' ext2' hfd hart hRs hR hRe hq hqs hRB hi ha hfa hsd ext1 ext2 hlen2 hn1 hm hz get hh no hsz hB h32 hne hok
  go_enter Tryd.func16, Tryd.ntmps16
  go_wp2
  go_loop [5] (fun i => ∃ k : Nat, i = .int .i64 k ∧ k ≤ n1) (fun i => n1 - (intOf i).toNat)
  case atStart => exact ⟨0, rfl, by omega⟩
  case round =>
    obtain ⟨k, rfl, hk⟩ := hrel
    by_cases hlt : k < n1
    · have hks : k < s.size := by omega
      have hb := F2.out k hlt hks
      go_wp2
      go_round
      case rel => exact ⟨k + 1, by go_num, by omega⟩
      case measure => simp [intOf]; omega
    · obtain rfl : k = n1 := by omega
      have hex : s.size ≤ k ∨ (∃ h : k < s.size, ((s[k].toNat : Int) != 32) = false) := by
        by_cases h : k < s.size
        · refine .inr ⟨h, ?_⟩
          rw [F3.out k (Nat.le_refl _) (by have := F5.out h; omega) h]
          rfl
        · exact .inl (by omega)
      clear F2
      rcases hex with he | ⟨he, hb⟩
      all_goals
        go_wp2_with fail
        rw [X1.out]
        refine (HF.out _).mono ?_
        rintro e w1 ⟨rfl, d1⟩
        go_wp2_with fail
        refine (HA.out _).mono ?_
        rintro e w2 ⟨rfl, b2⟩
        have b12 := (d1.below w.heap.size).bt b2
        try clear hb
        clear X1 HF HA d1 b2
        cases i with
        | false =>
          go_wp2
          go_ret
          exact ⟨by rw [HR.out.2 (by simp)]; rfl, b12⟩
        | true =>
          go_wp2
          go_loop [5] (fun i => ∃ j : Nat, i = .int .i64 j ∧ k ≤ j ∧ j ≤ k + m) (fun i => k + m - (intOf i).toNat)
          case atStart => exact ⟨k, rfl, by omega, by omega⟩
          case round =>
            obtain ⟨j, rfl, hj1, hj2⟩ := hrel
            by_cases hjl : j < k + m
            · have hjs : j < s.size := by omega
              have hb : ((s[j].toNat : Int) == 32) = true := by rw [F3.out j hj1 hjl hjs]; rfl
              go_wp2
              go_round
              case rel => exact ⟨j + 1, by go_num, by omega, by omega⟩
              case measure => simp [intOf]; omega
            · obtain rfl : j = k + m := by omega
              by_cases hz0 : z = 0
              · have hend : s.size ≤ k + m := by omega
                have HX := Lib.hid (HR.out.2 (fun h => h.2 hz0))
                go_wp2
                go_ret
                exact ⟨by rw [HX.out]; rfl, b12⟩
              · have hlt2 : k + m < s.size := by omega
                have hb : ((s[k + m].toNat : Int) == 32) = false := by
                  have := F4.out hlt2
                  rw [beq_eq_false_iff_ne]
                  omega
                have HX := Lib.hid (HR.out.1 (by first | exact ⟨rfl, hz0⟩ | exact ⟨trivial, hz0⟩ | simpa using hz0))
                go_wp2
                all_goals
                  go_ret
                  exact ⟨by rw [HX.out, ← X2.out]; rfl, b12⟩
end Go.Proofs.YtieapjdkbigejaaDoor
