/- Walks of the reference's functions on texts (layer 1), at texts given by their characters. -/
import Derived.Test.YtamdimjinbaigaaDoorRef
import Derived.Test.YtamdimjinbaigaaDoorStrs
namespace Go.Proofs.YtamdimjinbaigaaDoor
open Go Go.RowKit

theorem decode_text (cs : List Nat) (k c : Nat) (r : List Nat) (w : World) (hok : okt cs = true) (hs : (bs cs).size ≤ 4000000000) (hk : At cs k (c :: r)) :
    Calls Tryd.prog 27 #[.string (bs cs), .int .i64 k] w fun e w' => e = .returned (.tuple #[.int .i64 c, .int .i64 (enc1 c).length]) ∧ Dr w w' := by
  refine (decode_any (bs cs) k w (by omega) hk.lt.2).mono fun e w' ⟨he, hw⟩ => ?_
  rw [hk.rdec hok] at he
  exact ⟨he, hw⟩

set_option maxRecDepth 100000 in
set_option maxHeartbeats 1000000 in
theorem size_text (cs : List Nat) (k c : Nat) (r : List Nat) (w : World) (hok : okt cs = true) (hs : (bs cs).size ≤ 4000000000) (hk : At cs k (c :: r)) :
    Calls Tryd.prog 29 #[.string (bs cs), .int .i64 k] w fun e w' => e = .returned (.int .i64 (enc1 c).length) ∧ Dr w w' := by
  have h1 := enc1_len c
  go_enter Tryd.func29, Tryd.ntmps29
  go_wp2_with (go_at_call 27; refine (decode_text cs k c r _ hok hs hk).mono ?_; rintro e w' ⟨rfl, hw⟩)
  go_ret
  exact ⟨ret1i (by omega), hw⟩

set_option maxRecDepth 100000 in
set_option maxHeartbeats 1000000 in
theorem rValid (s : ByteArray) (w : World) (hs : s.size ≤ 9223372036854775800) :
    Calls Tryd.prog 11 #[.string s] w fun e w' => e = .returned (.bool (isText s.data.toList)) ∧ Dr w w' := by
  obtain ⟨A, hA⟩ : ∃ A, A = isText s.data.toList := ⟨_, rfl⟩
  rw [← hA]
  have HA := Lib.hid hA; clear hA
  go_enter Tryd.func11, Tryd.ntmps11
  go_wp2
  go_loopw [3, 4, 5] (fun i _ _ wr => ∃ k : Nat, i = .int .i64 k ∧ k ≤ s.size ∧ Hid (A = isText (s.data.toList.drop k)) ∧ Dr w wr) (fun i _ _ _ => s.size - (intOf i).toNat)
  case atStart => exact ⟨0, rfl, by omega, HA, Dr.refl _⟩
  case round =>
    obtain ⟨k, rfl, hk, HK, hd⟩ := hrel
    by_cases hlt : k < s.size
    · have hne : s.data.toList.drop k ≠ [] := by
        intro e
        have := congrArg List.length e
        rw [List.length_drop, len_data, List.length_nil] at this
        omega
      have hst := isText_step _ hne
      by_cases h0 : (rdec (s.data.toList.drop k)).2 = 0
      · rw [if_pos h0] at hst
        have H : Hid (A = false) := Lib.hid (HK.out.trans hst)
        have H0 := Lib.hid h0
        clear h0 hst HK HA
        go_wp2_with (go_at_call 27; refine (decode_any s k _ hs hlt).mono ?_; rw [H0.out]; rintro e w' ⟨rfl, hw⟩)
        go_ret
        exact ⟨by first | (rw [H.out]; done) | (rw [H.out]; rfl), hd.trans hw⟩
      · rw [if_neg h0] at hst
        obtain ⟨_, hlen, hl⟩ := rdec_inv _ hne h0
        have hle : k + (rdec (s.data.toList.drop k)).2 ≤ s.size := by
          have := congrArg List.length hl
          rw [List.length_append, List.length_drop, List.length_drop, len_data, ← hlen] at this
          omega
        obtain ⟨n, hn⟩ : ∃ n, n = (rdec (s.data.toList.drop k)).2 := ⟨_, rfl⟩
        rw [← hn] at hle h0 hst
        rw [List.drop_drop] at hst
        have H : Hid (A = isText (s.data.toList.drop (k + n))) := Lib.hid (HK.out.trans hst)
        have Hn := Lib.hid hn
        have hb : ((n : Int) == 0) = false := by
          rw [beq_eq_false_iff_ne]; omega
        have hpos : 1 ≤ n := by omega
        clear hst HK HA hlen hl hne hn h0
        go_wp2_with (go_at_call 27; refine (decode_any s k _ hs hlt).mono ?_; rw [← Hn.out]; rintro e w' ⟨rfl, hw⟩)
        go_roundw
        case rel => exact ⟨k + n, by go_num, hle, H, hd.trans hw⟩
        case measure => simp [intOf]; omega
    · have hz : s.data.toList.drop k = [] := List.drop_eq_nil_of_le (by rw [len_data]; omega)
      have H : Hid (A = true) := Lib.hid (by rw [HK.out, hz]; rfl)
      clear hz HK HA
      go_wp2
      go_ret
      exact ⟨by first | (rw [H.out]; done) | (rw [H.out]; rfl), hd⟩

set_option maxRecDepth 100000 in
set_option maxHeartbeats 1000000 in
theorem rRunes (cs : List Nat) (w : World) (hok : okt cs = true) (hs : (bs cs).size ≤ 4000000000) :
    Calls Tryd.prog 13 #[.string (bs cs)] w fun e w' => e = .returned (.int .i64 cs.length) ∧ Dr w w' := by
  have hl := len_le_enc cs
  rw [← bs_size] at hl
  go_enter Tryd.func13, Tryd.ntmps13
  go_wp2
  go_loopw [3, 4] (fun n i wr => ∃ (k : Nat) (r : List Nat) (m : Nat), i = .int .i64 k ∧ At cs k r ∧ n = .int .i64 m ∧ Hid (m + r.length = cs.length) ∧ m ≤ cs.length ∧ Dr w wr) (fun _ i _ => (bs cs).size - (intOf i).toNat)
  case atStart => exact ⟨0, cs, 0, rfl, At.start cs, rfl, Lib.hid (by omega), by omega, Dr.refl _⟩
  case round =>
    obtain ⟨k, r, m, rfl, hat, rfl, HM, hm, hd⟩ := hrel
    cases r with
    | nil =>
      have hk := hat.le
      rw [enc_nil, List.length_nil] at hk
      have hkz : (bs cs).size ≤ k := by omega
      have H : Hid (m = cs.length) := Lib.hid (by have := HM.out; simpa using this)
      clear hk HM
      go_wp2
      go_ret
      exact ⟨by first | (rw [H.out]; done) | (rw [H.out]; rfl), hd⟩
    | cons c r =>
      obtain ⟨h1, h2⟩ := hat.lt
      have h3 := enc1_len c
      have hm2 : m + 1 ≤ cs.length := by have := HM.out; simp at this; omega
      go_wp2_with (go_at_call 29; refine (size_text cs k c r _ hok hs hat).mono ?_; rintro e w' ⟨rfl, hw⟩)
      go_roundw
      case rel => exact ⟨k + (enc1 c).length, r, m + 1, by go_num, hat.next, by go_num, Lib.hid (by have := HM.out; simp at this; omega), hm2, hd.trans hw⟩
      case measure => simp [intOf]; omega

set_option maxRecDepth 100000 in
set_option maxHeartbeats 1000000 in
theorem rClip (cs : List Nat) (n : Int) (w : World) (hn : -9223372036854775808 ≤ n) (hn2 : n ≤ 9223372036854775807) (hok : okt cs = true) (hs : (bs cs).size ≤ 4000000000) :
    Calls Tryd.prog 15 #[.string (bs cs), .int .i64 n] w fun e w' => e = .returned (.string (bs (cs.take n.toNat))) ∧ Dr w w' := by
  obtain ⟨A, hA⟩ : ∃ A, A = bs (cs.take n.toNat) := ⟨_, rfl⟩
  rw [← hA]
  have HA := Lib.hid hA; clear hA
  go_enter Tryd.func15, Tryd.ntmps15
  go_wp2
  go_loopw [1, 5] (fun v i wr => ∃ (k : Nat) (r : List Nat) (m : Int), i = .int .i64 k ∧ At cs k r ∧ v = .int .i64 m ∧ m ≤ n ∧ (m = n ∨ 0 ≤ m) ∧ Hid ((cs.length - r.length) + m.toNat = n.toNat) ∧ r.length ≤ cs.length ∧ Dr w wr) (fun _ i _ => (bs cs).size - (intOf i).toNat)
  case atStart => exact ⟨0, cs, n, rfl, At.start cs, rfl, by omega, .inl rfl, Lib.hid (by omega), by omega, Dr.refl _⟩
  case round =>
    obtain ⟨k, r, m, rfl, hat, rfl, hm, hm2, HM, hr, hd⟩ := hrel
    have hmlo : -9223372036854775808 ≤ m := by rcases hm2 with rfl | h <;> omega
    clear hm2
    have hfr := hat.front
    have hfin : (r = [] ∨ m ≤ 0) → A = (bs cs).extract 0 k := by
      intro h
      rw [hfr, HA.out]
      have e := HM.out
      congr 1
      rcases h with rfl | h
      · rw [List.take_of_length_le (by simp at e; omega), List.take_of_length_le (by simp)]
      · congr 1; omega
    have HF := Lib.hid hfin
    clear hfr hfin
    have hkle := hat.le
    have hkl : k ≤ (bs cs).size := by omega
    clear hkle
    cases r with
    | nil =>
      have hk := hat.le
      rw [enc_nil, List.length_nil] at hk
      have hkz : (bs cs).size ≤ k := by omega
      have H : Hid (A = (bs cs).extract 0 k) := Lib.hid (HF.out (.inl rfl))
      clear hk HM HF HA
      go_wp2
      go_ret
      exact ⟨by first | (rw [H.out]; done) | (rw [H.out]; rfl), hd⟩
    | cons c r =>
      obtain ⟨h1, h2⟩ := hat.lt
      have h3 := enc1_len c
      by_cases hpos : 0 < m
      · go_wp2_with (go_at_call 29; refine (size_text cs k c r _ hok hs hat).mono ?_; rintro e w' ⟨rfl, hw⟩)
        go_roundw
        case rel => exact ⟨k + (enc1 c).length, r, m - 1, by go_num, hat.next, rfl, by omega, .inr (by omega), Lib.hid (by have := HM.out; simp at this hr; omega), by simp at hr; omega, hd.trans hw⟩
        case measure => simp [intOf]; omega
      · have H : Hid (A = (bs cs).extract 0 k) := Lib.hid (HF.out (.inr (by omega)))
        have hle : m ≤ 0 := by omega
        clear HM HF HA
        go_wp2
        go_ret
        exact ⟨by first | (rw [H.out]; done) | (rw [H.out]; rfl), hd⟩
end Go.Proofs.YtamdimjinbaigaaDoor
