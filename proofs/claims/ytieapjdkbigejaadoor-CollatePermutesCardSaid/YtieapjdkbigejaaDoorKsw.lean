/- The walk of package collate's Skip (layer 2). -/
import Derived.Test.YtieapjdkbigejaaDoorKmp
import Derived.Test.YtieapjdkbigejaaDoorKsp
namespace Go.Proofs.YtieapjdkbigejaaDoor
open Go Go.RowKit

theorem index_has : ∀ l : List UInt8, 32 ∈ l → 0 ≤ Lib.index l [32]
  | [], h => absurd h (by simp)
  | b :: l, h => by
    by_cases hb : b = 32
    · subst hb; exact Int.le_of_eq (by rfl)
    · have : (32 : UInt8) ∈ l := by
        rcases List.mem_cons.1 h with e | e
        · exact absurd e.symm hb
        · exact e
      exact (index_skip b l [32] (prefix_no b l [] hb)).1.2 (index_has l this)
theorem artA_data (k : Nat) (w : List UInt8) (hw : ∀ x ∈ w, x ≠ 32) : Lib.contains (artA k).data.toList (32 :: (w ++ [32])) = decide (w ∈ artL k) := by
  have h := contains_word w hw (artL k) (artL_no32 k)
  rw [← h]
  unfold artA artL at *
  repeat' split
  all_goals try rfl
  rename_i h1 h2 h3 h4
  rw [if_neg h1, if_neg h2, if_neg h3, if_neg h4] at h
  show Lib.contains [] _ = Lib.contains (blanked []) _
  unfold Lib.contains blanked
  cases w <;> simp [Lib.index, List.isPrefixOf]
/-- strings.Contains at these strings. -/
theorem contains_at (s sub : ByteArray) (w : World) (hE : Env w) (hs : s.size < 4294967281) :
    Calls Tryd.prog 31 #[.string s, .string sub] w fun e w' => e = .returned (.bool (Lib.contains s.data.toList sub.data.toList)) ∧ w' = w := by
  obtain ⟨m, hm⟩ := hE.max
  exact Tryd.strings_Contains s sub m w hs hm
theorem cut_at (s : ByteArray) (a b : List UInt8) (ok : Bool) (w : World) (hE : Env w) (hs : s.size < 4294967281) (hc : Lib.cut s.data.toList [32] = (a, b, ok)) :
    Calls Tryd.prog 28 #[.string s, .string ⟨#[32]⟩] w fun e w' => e = .returned (.tuple #[.string ⟨a.toArray⟩, .string ⟨b.toArray⟩, .bool ok]) ∧ Below w.heap.size w w' := by
  obtain ⟨m, hm⟩ := hE.max
  refine (Tryd.strings_Cut s ⟨#[32]⟩ m w hs hm).mono ?_
  rintro e w' ⟨rfl, hd⟩
  refine ⟨?_, Dr.below hd _⟩
  rw [show (⟨#[32]⟩ : ByteArray).data.toList = [32] from rfl, hc]

set_option maxRecDepth 100000 in
set_option maxHeartbeats 2000000 in
theorem pSkip (lang : ByteArray) (cs : List Nat) (w : World) (hE : Env w) (hl : lang.size ≤ 9223372036854775807) (hok : okt cs = true) (hs : (bs cs).size ≤ 1000000) :
    Calls Tryd.prog 15 #[.string lang, .string (bs cs)] w fun e w' => e = .returned (.string (bs (skip (lcode lang) cs))) ∧ Below w.heap.size w w' := by
  obtain ⟨R, hR⟩ : ∃ R, R = skip (lcode lang) cs := ⟨_, rfl⟩
  rw [← hR]
  obtain ⟨oa, ot⟩ := okt_hd cs hok
  have hht := hd_tl cs
  have no := enc_no32 _ oa (hdc_no cs)
  have hsd : (bs cs).data.toList = enc cs := bs_data cs
  rcases tlc_cases cs with ht | ⟨r, ht⟩
  · -- no blank
    have hRc : R = cs := by rw [hR]; unfold skip; rw [if_neg (by intro h; exact h.2 (by unfold rsc; rw [ht]; rfl))]
    have hcut := cut_at (bs cs) (enc cs) [] false w hE (by omega) (by
      rw [hsd]; rw [ht, List.append_nil] at hht; rw [← hht]; exact cut_none _ no)
    have HC := Lib.hid hcut
    have HR := Lib.hid hRc
    clear hcut hRc hR no hht ht
    go_enter Tryd.func15, Tryd.ntmps15
    go_wp2_with fail
    refine HC.out.mono ?_
    rintro e w1 ⟨rfl, b1⟩
    go_wp2
    go_ret
    exact ⟨by rw [HR.out]; rfl, b1⟩
  · have hsplit : enc cs = enc (hdc cs) ++ 32 :: enc r := by
      conv => lhs; rw [← hht]
      rw [ht, enc_append, enc_cons]; rfl
    have hcut := cut_at (bs cs) (enc (hdc cs)) (enc r) true w hE (by omega) (by rw [hsd, hsplit]; exact cut_some _ _ no)
    have hrs : rsc cs = r.dropWhile (· == 32) := by unfold rsc; rw [ht, List.dropWhile_cons_of_pos rfl]
    have okr : okt r = true := by
      rw [ht] at ot
      simp only [okt, List.all_cons, Bool.and_eq_true] at ot
      exact ot.2
    have htrim : (Lib.trimLeftB (⟨(enc r).toArray⟩ : ByteArray).data.toList 32) = enc (rsc cs) := by
      rw [hrs, ← enc_drop32 r okr]; unfold Lib.trimLeftB; rfl
    have hsa : (bs (hdc cs)).size ≤ 1000000 := by
      rw [bs_size] at hs ⊢
      rw [hsplit, List.length_append] at hs
      omega
    have hfl := fold_len _ oa
    have hfo := fold_okt _ oa
    obtain ⟨a, ha⟩ : ∃ a, a = hdc cs := ⟨_, rfl⟩
    obtain ⟨q, hq⟩ : ∃ q, q = rsc cs := ⟨_, rfl⟩
    unfold skip at hR
    rw [← ha] at hcut hR hsa oa hfl hfo
    rw [← hq] at hR htrim
    have HC := Lib.hid hcut
    have HT := Lib.hid htrim
    clear hcut htrim hsplit hrs no hht ha hq ht ot okr
    cases hea : (bs a).toList.isEmpty with
    | true =>
      have ha0 := bs_empty hea
      have hRc : R = cs := by
        rw [hR, if_neg]
        intro h
        rw [ha0] at h
        exact art_ne _ _ h.1 rfl
      have HR := Lib.hid hRc
      clear hR hRc ha0
      have hea2 : (enc a).isEmpty = true := by rw [← bs_toList]; exact hea
      go_enter Tryd.func15, Tryd.ntmps15
      go_wp2_with fail
      refine HC.out.mono ?_
      rintro e w1 ⟨rfl, b1⟩
      go_wp2
      go_ret
      exact ⟨by rw [HR.out]; rfl, b1⟩
    | false =>
      obtain ⟨m, hm⟩ : ∃ m, m = lcode lang := ⟨_, rfl⟩
      obtain ⟨W, hW⟩ : ∃ W, W = fold a := ⟨_, rfl⟩
      rw [← hm, ← hW] at hR
      rw [← hW] at hfl hfo
      have HW := Lib.hid hW
      have HM := Lib.hid hm
      clear hW hm
      have pf := fun (W' : World) (h : Env W') => pFold a W' h oa (by omega)
      rw [← HW.out] at pf
      have PF := Lib.hid pf
      clear pf
      have hea2 : (enc a).isEmpty = false := by rw [← bs_toList]; exact hea
      have hWd : (bs W).data.toList = enc W := bs_data W
      cases heq : (bs q).toList.isEmpty with
      | true =>
        have hq0 := bs_empty heq
        have hRc : R = cs := by rw [hR, if_neg]; exact fun h => h.2 hq0
        have HR := Lib.hid hRc
        have heq2 : (enc q).isEmpty = true := by rw [← bs_toList]; exact heq
        clear hR hRc hq0
        go_enter Tryd.func15, Tryd.ntmps15
        go_wp2_with fail
        refine HC.out.mono ?_
        rintro e w1 ⟨rfl, b1⟩
        go_wp2_with fail
        refine (Tryd.strings_TrimLeft_one _ 32 (by decide) _).mono ?_
        rw [HT.out]
        rintro e w2 ⟨rfl, rfl⟩
        go_wp2_with fail
        refine (PF.out _ (hE.below b1)).mono ?_
        rintro e w3 ⟨rfl, b3⟩
        go_wp2
        go_ret
        exact ⟨by rw [HR.out]; rfl, b1.bt b3⟩
      | false =>
        have heq2 : (enc q).isEmpty = false := by rw [← bs_toList]; exact heq
        have hqn := bs_full heq
        by_cases hb : ∀ x ∈ enc W, x ≠ 32
        · have h1 : Lib.contains (bs W).data.toList (⟨#[32]⟩ : ByteArray).data.toList = false := by
            rw [hWd]
            unfold Lib.contains
            exact decide_eq_false (index_none _ hb)
          have h2 : Lib.contains (artA m).data.toList ((⟨#[32]⟩ : ByteArray) ++ bs W ++ (⟨#[32]⟩ : ByteArray)).data.toList = isart m W := by
            rw [ByteArray.data_append, ByteArray.data_append, Array.toList_append, Array.toList_append, hWd]
            exact artA_data m _ hb
          have hasz : (artA m).size < 4294967281 := by
            unfold artA
            repeat' split
            all_goals decide
          cases hi : isart m W with
          | true =>
            have hRc : R = q := by rw [hR, if_pos ⟨hi, hqn⟩]
            rw [hi] at h2
            have HR := Lib.hid hRc
            have H1 := Lib.hid h1
            have H2 := Lib.hid h2
            clear hR hRc hqn h1 h2 hb hi
            go_enter Tryd.func15, Tryd.ntmps15
            go_wp2_with fail
            refine HC.out.mono ?_
            rintro e w1 ⟨rfl, b1⟩
            go_wp2_with fail
            refine (Tryd.strings_TrimLeft_one _ 32 (by decide) _).mono ?_
            rw [HT.out]
            rintro e w2 ⟨rfl, rfl⟩
            go_wp2_with fail
            refine (PF.out _ (hE.below b1)).mono ?_
            rintro e w3 ⟨rfl, b3⟩
            have b13 := b1.bt b3
            have E3 := hE.below b13
            go_wp2_with fail
            refine (contains_at _ _ _ E3 (by omega)).mono ?_
            rw [H1.out]
            rintro e w4 ⟨rfl, rfl⟩
            go_wp2_with fail
            refine (pArticles _).mono ?_
            rintro e w5 ⟨rfl, b5, lk⟩
            have hlk := (lk lang hl).1
            rw [← HM.out] at hlk
            clear lk
            have b15 := b13.bt b5
            have E5 := hE.below b15
            go_wp2_with fail
            refine (contains_at _ _ _ E5 hasz).mono ?_
            rw [H2.out]
            rintro e w6 ⟨rfl, rfl⟩
            go_wp2
            go_ret
            exact ⟨by rw [HR.out]; rfl, b15⟩
          | false =>
            have hRc : R = cs := by rw [hR, if_neg]; intro h; rw [hi] at h; exact absurd h.1 (by decide)
            rw [hi] at h2
            have HR := Lib.hid hRc
            have H1 := Lib.hid h1
            have H2 := Lib.hid h2
            clear hR hRc hqn h1 h2 hb hi
            go_enter Tryd.func15, Tryd.ntmps15
            go_wp2_with fail
            refine HC.out.mono ?_
            rintro e w1 ⟨rfl, b1⟩
            go_wp2_with fail
            refine (Tryd.strings_TrimLeft_one _ 32 (by decide) _).mono ?_
            rw [HT.out]
            rintro e w2 ⟨rfl, rfl⟩
            go_wp2_with fail
            refine (PF.out _ (hE.below b1)).mono ?_
            rintro e w3 ⟨rfl, b3⟩
            have b13 := b1.bt b3
            have E3 := hE.below b13
            go_wp2_with fail
            refine (contains_at _ _ _ E3 (by omega)).mono ?_
            rw [H1.out]
            rintro e w4 ⟨rfl, rfl⟩
            go_wp2_with fail
            refine (pArticles _).mono ?_
            rintro e w5 ⟨rfl, b5, lk⟩
            have hlk := (lk lang hl).1
            rw [← HM.out] at hlk
            clear lk
            have b15 := b13.bt b5
            have E5 := hE.below b15
            go_wp2_with fail
            refine (contains_at _ _ _ E5 hasz).mono ?_
            rw [H2.out]
            rintro e w6 ⟨rfl, rfl⟩
            go_wp2
            go_ret
            exact ⟨by rw [HR.out]; rfl, b15⟩
        · have h1 : Lib.contains (bs W).data.toList (⟨#[32]⟩ : ByteArray).data.toList = true := by
            rw [hWd]
            unfold Lib.contains
            refine decide_eq_true (index_has _ ?_)
            by_cases h32 : (32 : UInt8) ∈ enc W
            · exact h32
            · exact absurd (fun x hx (e : x = 32) => h32 (by rw [← e]; exact hx)) hb
          have hRc : R = cs := by rw [hR, if_neg]; exact fun h => hb (art_no32 _ _ h.1)
          have HR := Lib.hid hRc
          have H1 := Lib.hid h1
          clear hR hRc hqn h1 hb
          go_enter Tryd.func15, Tryd.ntmps15
          go_wp2_with fail
          refine HC.out.mono ?_
          rintro e w1 ⟨rfl, b1⟩
          go_wp2_with fail
          refine (Tryd.strings_TrimLeft_one _ 32 (by decide) _).mono ?_
          rw [HT.out]
          rintro e w2 ⟨rfl, rfl⟩
          go_wp2_with fail
          refine (PF.out _ (hE.below b1)).mono ?_
          rintro e w3 ⟨rfl, b3⟩
          have b13 := b1.bt b3
          have E3 := hE.below b13
          go_wp2_with fail
          refine (contains_at _ _ _ E3 (by omega)).mono ?_
          rw [H1.out]
          rintro e w4 ⟨rfl, rfl⟩
          go_wp2
          go_ret
          exact ⟨by rw [HR.out]; rfl, b13⟩
end Go.Proofs.YtieapjdkbigejaaDoor
