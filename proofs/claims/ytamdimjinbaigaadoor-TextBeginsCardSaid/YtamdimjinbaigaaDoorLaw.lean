/- Walks of the six statements about layer 1 (text): each returns true, and what was there before stays. -/
import Derived.Test.YtamdimjinbaigaaDoorAlv
import Derived.Test.YtamdimjinbaigaaDoorRefg
import Derived.OpenShut
namespace Go.Proofs.YtamdimjinbaigaaDoor
open Go Go.RowKit

set_option maxRecDepth 100000 in
set_option maxHeartbeats 1000000 in
theorem law_TextValid (s : ByteArray) (w : World) (hE : Env w) (hs : s.size ≤ 9223372036854775807) :
    Calls Tryd.prog 3 #[.string s] w fun e w' => e = .returned (.bool true) ∧ Below w.heap.size w w' := by
  by_cases hl : 1000 < s.size
  · go_enter Tryd.func3, Tryd.ntmps3
    go_wp2_with (go_at_call 9; refine (alive_any _ hE).mono ?_; rintro e w1 ⟨rfl, b1⟩)
    go_ret
    exact ⟨rfl, b1⟩
  · have hl2 : s.size ≤ 1000 := by omega
    go_enter Tryd.func3, Tryd.ntmps3
    go_wp2_with fail
    refine (alive_any _ hE).mono ?_
    rintro e w1 ⟨rfl, b1⟩
    go_wp2_with fail
    refine (pValid s _ (hE.below b1) (by omega)).mono ?_
    rintro e w2 ⟨rfl, b2⟩
    go_wp2_with fail
    refine (rValid s _ (by omega)).mono ?_
    rintro e w3 ⟨rfl, b3⟩
    go_wp2
    go_ret
    exact ⟨rfl, (b1.bt b2).bt (b3.below _)⟩
theorem words_len (cs : List Nat) (hok : okt cs = true) : (words cs).length ≤ (bs cs).size := by
  have h1 := (fields_sum noletter (fold cs)).2
  have h2 := fold_len cs hok
  unfold words
  omega
theorem rValid_true (cs : List Nat) (w : World) (hok : okt cs = true) (hs : (bs cs).size ≤ 4000000000) :
    Calls Tryd.prog 11 #[.string (bs cs)] w fun e w' => e = .returned (.bool true) ∧ Dr w w' := by
  have := rValid (bs cs) w (by omega)
  rw [isText_bs cs hok] at this
  exact this
theorem pValid_true (cs : List Nat) (w : World) (hE : Env w) (hok : okt cs = true) (hs : (bs cs).size ≤ 4000000000) :
    Calls Tryd.prog 10 #[.string (bs cs)] w fun e w' => e = .returned (.bool true) ∧ Below w.heap.size w w' := by
  have := pValid (bs cs) w hE hs
  rw [isText_bs cs hok] at this
  exact this
theorem rValid_false (s : ByteArray) (w : World) (hn : isText s.data.toList = false) (hs : s.size ≤ 4000000000) :
    Calls Tryd.prog 11 #[.string s] w fun e w' => e = .returned (.bool false) ∧ Dr w w' := by
  have := rValid s w (by omega)
  rw [hn] at this
  exact this
theorem pValid_false (s : ByteArray) (w : World) (hE : Env w) (hn : isText s.data.toList = false) (hs : s.size ≤ 4000000000) :
    Calls Tryd.prog 10 #[.string s] w fun e w' => e = .returned (.bool false) ∧ Below w.heap.size w w' := by
  have := pValid s w hE hs
  rw [hn] at this
  exact this

set_option maxRecDepth 100000 in
set_option maxHeartbeats 1000000 in
theorem law_TextClips (s : ByteArray) (n : Int) (w : World) (hE : Env w) (hs : s.size ≤ 9223372036854775807) (hn : (Lit.int .i64 n).wf = true) :
    Calls Tryd.prog 4 #[.string s, .int .i64 n] w fun e w' => e = .returned (.bool true) ∧ Below w.heap.size w w' := by
  have hb := Go.bounds_i64 hn
  by_cases hl : 1000 < s.size
  · go_enter Tryd.func4, Tryd.ntmps4
    go_wp2_with (go_at_call 9; refine (alive_any _ hE).mono ?_; rintro e w1 ⟨rfl, b1⟩)
    go_ret
    exact ⟨rfl, b1⟩
  · have hl2 : s.size ≤ 1000 := by omega
    clear hl hs
    cases ht : isText s.data.toList with
    | false =>
      have HT := Lib.hid ht
      clear ht
      go_enter Tryd.func4, Tryd.ntmps4
      go_wp2_with (first | (go_at_call 9; refine (alive_any _ hE).mono ?_; rintro e w1 ⟨rfl, b1⟩) | (go_at_call 11; refine (rValid_false s _ HT.out (by omega)).mono ?_; rintro e w2 ⟨rfl, b2⟩))
      go_ret
      exact ⟨rfl, b1.bt (b2.below _)⟩
    | true =>
      obtain ⟨cs, hok, rfl⟩ := text_bs s ht
      clear ht
      go_enter Tryd.func4, Tryd.ntmps4
      go_wp2_with (first | (go_at_call 9; refine (alive_any _ hE).mono ?_; rintro e w1 ⟨rfl, b1⟩) | (go_at_call 11; refine (rValid_true cs _ hok (by omega)).mono ?_; rintro e w2 ⟨rfl, b2⟩) | (go_at_call 12; refine (pRunes cs _ hok (by omega)).mono ?_; rintro e w3 ⟨rfl, b3⟩) | (go_at_call 13; refine (rRunes cs _ hok (by omega)).mono ?_; rintro e w4 ⟨rfl, b4⟩) | (go_at_call 14; refine (pClip cs n _ hb.1 hb.2 hok (by omega)).mono ?_; rintro e w5 ⟨rfl, b5⟩) | (go_at_call 15; refine (rClip cs n _ hb.1 hb.2 hok (by omega)).mono ?_; rintro e w6 ⟨rfl, b6⟩))
      go_ret
      exact ⟨rfl, ((b1.bt (b2.below _)).bt b3).bt ((b4.below _).bt (b5.bt (b6.below _)))⟩

set_option maxRecDepth 100000 in
set_option maxHeartbeats 1000000 in
theorem law_TextCleans (s : ByteArray) (w : World) (hE : Env w) (hs : s.size ≤ 9223372036854775807) :
    Calls Tryd.prog 7 #[.string s] w fun e w' => e = .returned (.bool true) ∧ Below w.heap.size w w' := by
  by_cases hl : 1000 < s.size
  · go_enter Tryd.func7, Tryd.ntmps7
    go_wp2_with (go_at_call 9; refine (alive_any _ hE).mono ?_; rintro e w1 ⟨rfl, b1⟩)
    go_ret
    exact ⟨rfl, b1⟩
  · have hl2 : s.size ≤ 1000 := by omega
    clear hl hs
    cases ht : isText s.data.toList with
    | false =>
      have HT := Lib.hid ht
      clear ht
      go_enter Tryd.func7, Tryd.ntmps7
      go_wp2_with (first | (go_at_call 9; refine (alive_any _ hE).mono ?_; rintro e w1 ⟨rfl, b1⟩) | (go_at_call 11; refine (rValid_false s _ HT.out (by omega)).mono ?_; rintro e w2 ⟨rfl, b2⟩))
      go_ret
      exact ⟨rfl, b1.bt (b2.below _)⟩
    | true =>
      obtain ⟨cs, hok, rfl⟩ := text_bs s ht
      clear ht
      go_enter Tryd.func7, Tryd.ntmps7
      go_wp2_with (first | (go_at_call 9; refine (alive_any _ hE).mono ?_; rintro e w1 ⟨rfl, b1⟩) | (go_at_call 11; refine (rValid_true cs _ hok (by omega)).mono ?_; rintro e w2 ⟨rfl, b2⟩) | (go_at_call 21; refine (pClean cs _ hok (by omega)).mono ?_; rintro e w3 ⟨rfl, b3⟩) | (go_at_call 23; refine (rClean cs _ hok (by omega)).mono ?_; rintro e w4 ⟨rfl, b4⟩) | (go_at_call 24; refine (pSpace cs _ hok (by omega)).mono ?_; rintro e w5 ⟨rfl, b5⟩) | (go_at_call 25; refine (rSpace cs _ hok (by omega)).mono ?_; rintro e w6 ⟨rfl, b6⟩))
      go_ret
      exact ⟨retb (by simp), ((b1.bt (b2.below _)).bt b3).bt ((b4.below _).bt (b5.bt (b6.below _)))⟩

set_option maxRecDepth 100000 in
set_option maxHeartbeats 1000000 in
theorem law_TextFolds (s : ByteArray) (w : World) (hE : Env w) (hs : s.size ≤ 9223372036854775807) :
    Calls Tryd.prog 5 #[.string s] w fun e w' => e = .returned (.bool true) ∧ Below w.heap.size w w' := by
  by_cases hl : 1000 < s.size
  · go_enter Tryd.func5, Tryd.ntmps5
    go_wp2_with (go_at_call 9; refine (alive_any _ hE).mono ?_; rintro e w1 ⟨rfl, b1⟩)
    go_ret
    exact ⟨rfl, b1⟩
  · have hl2 : s.size ≤ 1000 := by omega
    clear hl hs
    cases ht : isText s.data.toList with
    | false =>
      have HT := Lib.hid ht
      clear ht
      go_enter Tryd.func5, Tryd.ntmps5
      go_wp2_with (first | (go_at_call 9; refine (alive_any _ hE).mono ?_; rintro e w1 ⟨rfl, b1⟩) | (go_at_call 11; refine (rValid_false s _ HT.out (by omega)).mono ?_; rintro e w2 ⟨rfl, b2⟩))
      go_ret
      exact ⟨rfl, b1.bt (b2.below _)⟩
    | true =>
      obtain ⟨cs, hok, rfl⟩ := text_bs s ht
      clear ht
      have hwl := words_len cs hok
      go_enter Tryd.func5, Tryd.ntmps5
      go_wp2_with fail
      refine (alive_any _ hE).mono ?_
      rintro e w1 ⟨rfl, b1⟩
      have E1 := hE.below b1
      go_wp2_with fail
      refine (rValid_true cs _ hok (by omega)).mono ?_
      rintro e w2 ⟨rfl, b2⟩
      have E2 := E1.dr b2
      go_wp2_with fail
      refine (pFold cs _ E2 hok (by omega)).mono ?_
      rintro e w3 ⟨rfl, b3⟩
      have E3 := E2.below b3
      go_wp2_with fail
      refine (rFold cs _ hok (by omega)).mono ?_
      rintro e w4 ⟨rfl, b4⟩
      have E4 := E3.dr b4
      go_wp2_with fail
      refine (pWords cs _ E4 hok (by omega)).mono ?_
      rintro e w5 ⟨v1, rfl, s1, b5⟩
      go_wp2_with fail
      refine (rWords cs _ hok (by omega)).mono ?_
      rintro e w6 ⟨v2, rfl, s2, b6⟩
      have s1b := s1.below b6 (Nat.le_refl _)
      go_wp2_with fail
      refine (rTexts _ _ v1 v2 _ s1b s2 (by rw [List.length_map]; omega)).mono ?_
      rw [decide_eq_true rfl]
      rintro e w7 ⟨rfl, b7⟩
      go_wp2
      go_ret
      exact ⟨rfl, ((b1.bt (b2.below _)).bt b3).bt ((b4.below _).bt (b5.bt (b6.bt (b7.below _))))⟩

set_option maxRecDepth 100000 in
set_option maxHeartbeats 1000000 in
theorem law_TextStays (s : ByteArray) (w : World) (hE : Env w) (hs : s.size ≤ 9223372036854775807) :
    Calls Tryd.prog 6 #[.string s] w fun e w' => e = .returned (.bool true) ∧ Below w.heap.size w w' := by
  by_cases hl : 1000 < s.size
  · go_enter Tryd.func6, Tryd.ntmps6
    go_wp2_with (go_at_call 9; refine (alive_any _ hE).mono ?_; rintro e w1 ⟨rfl, b1⟩)
    go_ret
    exact ⟨rfl, b1⟩
  · have hl2 : s.size ≤ 1000 := by omega
    clear hl hs
    cases ht : isText s.data.toList with
    | false =>
      have HT := Lib.hid ht
      clear ht
      go_enter Tryd.func6, Tryd.ntmps6
      go_wp2_with fail
      refine (alive_any _ hE).mono ?_
      rintro e w1 ⟨rfl, b1⟩
      have E1 := hE.below b1
      go_wp2_with fail
      refine (pValid_false s _ E1 HT.out (by omega)).mono ?_
      rintro e w2 ⟨rfl, b2⟩
      go_wp2
      go_ret
      exact ⟨rfl, b1.bt b2⟩
    | true =>
      obtain ⟨cs, hok, rfl⟩ := text_bs s ht
      clear ht
      have hwl := words_len cs hok
      have hcz : (bs (clean cs)).size ≤ (bs cs).size := (fields_sum blank cs).1
      have hfz := fold_len cs hok
      have hgz := (fields_sum noletter (fold cs)).1
      have hco := clean_okt cs hok
      have hfo := fold_okt cs hok
      have hgo := glue_okt (words cs) (words_okt cs hok)
      have hgz2 : (bs (glue (words cs))).size ≤ (bs cs).size := Nat.le_trans hgz hfz
      have HCC := Lib.hid (clean_clean cs)
      have HFF := Lib.hid (fold_fold cs)
      have HWC := Lib.hid (words_clean cs)
      have HWF := Lib.hid (words_fold cs)
      have HWG := Lib.hid (words_glue cs)
      clear hgz
      go_enter Tryd.func6, Tryd.ntmps6
      go_wp2_with fail
      refine (alive_any _ hE).mono ?_
      rintro e w1 ⟨rfl, b1⟩
      have E1 := hE.below b1
      go_wp2_with fail
      refine (pValid_true cs _ E1 hok (by omega)).mono ?_
      rintro e w2 ⟨rfl, b2⟩
      have E2 := E1.below b2
      go_wp2_with fail
      refine (pClean cs _ hok (by omega)).mono ?_
      rintro e w3 ⟨rfl, b3⟩
      have E3 := E2.below b3
      go_wp2_with fail
      refine (pFold cs _ E3 hok (by omega)).mono ?_
      rintro e w4 ⟨rfl, b4⟩
      have E4 := E3.below b4
      go_wp2_with fail
      refine (pClean (clean cs) _ hco (by omega)).mono ?_
      rw [HCC.out]
      rintro e w5 ⟨rfl, b5⟩
      have E5 := E4.below b5
      go_wp2_with fail
      refine (pFold (fold cs) _ E5 hfo (by omega)).mono ?_
      rw [HFF.out]
      rintro e w6 ⟨rfl, b6⟩
      have E6 := E5.below b6
      go_wp2_with fail
      refine (pValid_true (clean cs) _ E6 hco (by omega)).mono ?_
      rintro e w7 ⟨rfl, b7⟩
      have E7 := E6.below b7
      go_wp2_with fail
      refine (pValid_true (fold cs) _ E7 hfo (by omega)).mono ?_
      rintro e w8 ⟨rfl, b8⟩
      have E8 := E7.below b8
      go_wp2_with fail
      refine (pWords cs _ E8 hok (by omega)).mono ?_
      rintro e w9 ⟨v, rfl, sv, b9⟩
      have E9 := E8.below b9
      go_wp2_with fail
      refine (pWords (clean cs) _ E9 hco (by omega)).mono ?_
      rw [HWC.out]
      rintro e w10 ⟨v1, rfl, sv1, b10⟩
      have E10 := E9.below b10
      have sv10 := sv.below b10 (Nat.le_refl _)
      go_wp2_with fail
      refine (rTexts _ _ v1 v _ sv1 sv10 (by rw [List.length_map]; omega)).mono ?_
      rw [decide_eq_true rfl]
      rintro e w11 ⟨rfl, b11⟩
      have E11 := E10.dr b11
      have sv11 := sv10.dr b11
      go_wp2_with fail
      refine (pWords (fold cs) _ E11 hfo (by omega)).mono ?_
      rw [HWF.out]
      rintro e w12 ⟨v2, rfl, sv2, b12⟩
      have E12 := E11.below b12
      have sv12 := sv11.below b12 (Nat.le_refl _)
      go_wp2_with fail
      refine (rTexts _ _ v2 v _ sv2 sv12 (by rw [List.length_map]; omega)).mono ?_
      rw [decide_eq_true rfl]
      rintro e w13 ⟨rfl, b13⟩
      have E13 := E12.dr b13
      have sv13 := sv12.dr b13
      go_wp2_with fail
      refine (rJoin (words cs) v _ sv13 (by omega) (by omega)).mono ?_
      rintro e w14 ⟨rfl, rfl⟩
      go_wp2_with fail
      refine (pWords (glue (words cs)) _ E13 hgo (by omega)).mono ?_
      rw [HWG.out]
      rintro e w15 ⟨v3, rfl, sv3, b15⟩
      have sv15 := sv13.below b15 (Nat.le_refl _)
      go_wp2_with fail
      refine (rTexts _ _ v3 v _ sv3 sv15 (by rw [List.length_map]; omega)).mono ?_
      rw [decide_eq_true rfl]
      rintro e w16 ⟨rfl, b16⟩
      go_wp2
      go_ret
      exact ⟨rfl, (((((((b1.bt b2).bt b3).bt b4).bt b5).bt b6).bt b7).bt b8).bt (b9.bt (b10.bt ((b11.below _).bt (b12.bt ((b13.below _).bt (b15.bt (b16.below _)))))))⟩

theorem take_front (cs : List Nat) (m : Nat) : (bs (cs.take m)).size ≤ (bs cs).size ∧ (bs cs).extract 0 (bs (cs.take m)).size = bs (cs.take m) := by
  have hat : At cs (enc (cs.take m)).length (cs.drop m) := ⟨cs.take m, (List.take_append_drop m cs).symm, rfl⟩
  have h1 := hat.le
  have h2 := hat.front
  rw [← bs_size] at h1 h2
  refine ⟨by omega, h2.trans ?_⟩
  congr 1
  rw [List.length_drop]
  by_cases h : m ≤ cs.length
  · congr 1; omega
  · rw [List.take_of_length_le (by omega), List.take_of_length_le (by omega)]
theorem bs_isEmpty (cs : List Nat) : (bs cs).toList.isEmpty = cs.isEmpty := by
  cases cs with
  | nil => rw [bs_toList]; rfl
  | cons c r => exact bs_full' (by simp)

set_option maxRecDepth 100000 in
set_option maxHeartbeats 1000000 in
theorem law_TextBegins (s : ByteArray) (n : Int) (w : World) (hE : Env w) (hs : s.size ≤ 9223372036854775807) (hn : (Lit.int .i64 n).wf = true) :
    Calls Tryd.prog 8 #[.string s, .int .i64 n] w fun e w' => e = .returned (.bool true) ∧ Below w.heap.size w w' := by
  have hb := Go.bounds_i64 hn
  by_cases hl : 1000 < s.size
  · go_enter Tryd.func8, Tryd.ntmps8
    go_wp2_with (go_at_call 9; refine (alive_any _ hE).mono ?_; rintro e w1 ⟨rfl, b1⟩)
    go_ret
    exact ⟨rfl, b1⟩
  · have hl2 : s.size ≤ 1000 := by omega
    clear hl hs
    cases ht : isText s.data.toList with
    | false =>
      have HT := Lib.hid ht
      clear ht
      go_enter Tryd.func8, Tryd.ntmps8
      go_wp2_with fail
      refine (alive_any _ hE).mono ?_
      rintro e w1 ⟨rfl, b1⟩
      have E1 := hE.below b1
      go_wp2_with fail
      refine (pValid_false s _ E1 HT.out (by omega)).mono ?_
      rintro e w2 ⟨rfl, b2⟩
      go_wp2
      go_ret
      exact ⟨rfl, b1.bt b2⟩
    | true =>
      obtain ⟨cs, hok, rfl⟩ := text_bs s ht
      clear ht
      obtain ⟨htz, htf⟩ := take_front cs n.toNat
      have hto := okt_take cs n.toNat hok
      have HTF := Lib.hid htf
      have htt : (cs.take n.toNat).take n.toNat = cs.take n.toNat := by rw [List.take_take, Nat.min_self]
      have HTT := Lib.hid htt
      have hle := len_le_enc cs
      rw [← bs_size] at hle
      have HE := Lib.hid (bs_isEmpty (clean cs))
      have HLN : Hid ((cs.take n.toNat).length = min n.toNat cs.length) := Lib.hid (List.length_take)
      have hcz : cs.length ≤ 1000 := by omega
      clear htf htt
      obtain ⟨T, hT⟩ : ∃ T, T = cs.take n.toNat := ⟨_, rfl⟩
      rw [← hT] at htz hto HTF HTT HLN
      have HTE := Lib.hid hT
      clear hT
      go_enter Tryd.func8, Tryd.ntmps8
      go_wp2_with fail
      refine (alive_any _ hE).mono ?_
      rintro e w1 ⟨rfl, b1⟩
      have E1 := hE.below b1
      go_wp2_with fail
      refine (pValid_true cs _ E1 hok (by omega)).mono ?_
      rintro e w2 ⟨rfl, b2⟩
      have E2 := E1.below b2
      go_wp2_with fail
      refine (pClip cs n _ hb.1 hb.2 hok (by omega)).mono ?_
      rw [← HTE.out]
      rintro e w3 ⟨rfl, b3⟩
      have E3 := E2.below b3
      have htf := HTF.out
      go_wp2_with fail
      clear htf
      refine (pClip T n _ hb.1 hb.2 hto (by omega)).mono ?_
      rw [HTT.out]
      rintro e w4 ⟨rfl, b4⟩
      have E4 := E3.below b4
      go_wp2_with fail
      refine (pValid_true T _ E4 hto (by omega)).mono ?_
      rintro e w5 ⟨rfl, b5⟩
      have E5 := E4.below b5
      have HB5 := Lib.hid ((((b1.bt b2).bt b3).bt b4).bt b5)
      clear b1 b2 b3 b4 b5
      have fin : ∀ (m : Int), (T.length : Int) = m → (((T.length : Nat) : Int) == m) = true := fun m h => by rw [beq_iff_eq]; exact h
      rcases (by omega : n < 0 ∨ (0 ≤ n ∧ n ≤ (cs.length : Int)) ∨ (cs.length : Int) < n) with g | ⟨g1, g2⟩ | g
      · have hf : ((T.length : Nat) : Int) = 0 := by have := HLN.out; omega
        have HF := Lib.hid (fin 0 hf)
        clear hf fin
        go_wp2_with fail
        refine (pRunes cs _ hok (by omega)).mono ?_
        rintro e w6 ⟨rfl, b6⟩
        go_wp2_with fail
        refine (pRunes T _ hto (by omega)).mono ?_
        rintro e w7 ⟨rfl, b7⟩
        have hf := HF.out
        go_wp2_with (first | (go_at_call 24; refine (pSpace cs _ hok (by omega)).mono ?_; rintro e w8 ⟨rfl, b8⟩) | (go_at_call 21; refine (pClean cs _ hok (by omega)).mono ?_; rintro e w9 ⟨rfl, b9⟩))
        go_ret
        exact ⟨retb (by rw [HE.out]; simp), HB5.out.bt (b6.bt (b7.bt (b8.bt b9)))⟩
      · have hf : ((T.length : Nat) : Int) = n := by have := HLN.out; omega
        have HF := Lib.hid (fin n hf)
        clear hf fin
        go_wp2_with fail
        refine (pRunes cs _ hok (by omega)).mono ?_
        rintro e w6 ⟨rfl, b6⟩
        go_wp2_with fail
        refine (pRunes T _ hto (by omega)).mono ?_
        rintro e w7 ⟨rfl, b7⟩
        have hf := HF.out
        go_wp2_with (first | (go_at_call 24; refine (pSpace cs _ hok (by omega)).mono ?_; rintro e w8 ⟨rfl, b8⟩) | (go_at_call 21; refine (pClean cs _ hok (by omega)).mono ?_; rintro e w9 ⟨rfl, b9⟩))
        go_ret
        exact ⟨retb (by rw [HE.out]; simp), HB5.out.bt (b6.bt (b7.bt (b8.bt b9)))⟩
      · have hf : ((T.length : Nat) : Int) = ((cs.length : Nat) : Int) := by have := HLN.out; omega
        have hf2 : T.length = cs.length := by omega
        have HF := Lib.hid (fin _ hf)
        have HF2 := Lib.hid hf2
        clear hf fin hf2
        go_wp2_with fail
        refine (pRunes cs _ hok (by omega)).mono ?_
        rintro e w6 ⟨rfl, b6⟩
        go_wp2_with fail
        refine (pRunes cs _ hok (by omega)).mono ?_
        rintro e w7 ⟨rfl, b7⟩
        go_wp2_with fail
        refine (pRunes T _ hto (by omega)).mono ?_
        rw [HF2.out]
        rintro e w7' ⟨rfl, b7'⟩
        go_wp2_with (first | (go_at_call 24; refine (pSpace cs _ hok (by omega)).mono ?_; rintro e w8 ⟨rfl, b8⟩) | (go_at_call 21; refine (pClean cs _ hok (by omega)).mono ?_; rintro e w9 ⟨rfl, b9⟩))
        go_ret
        exact ⟨retb (by rw [HE.out]; simp), HB5.out.bt (b6.bt (b7.bt (b7'.bt (b8.bt b9))))⟩
end Go.Proofs.YtamdimjinbaigaaDoor
