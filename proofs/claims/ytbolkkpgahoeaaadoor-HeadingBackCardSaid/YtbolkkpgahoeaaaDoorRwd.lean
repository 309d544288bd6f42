/- Walks of the reference's letter and Words (layer 1). -/
import Derived.Test.YtbolkkpgahoeaaaDoorRfd
namespace Go.Proofs.YtbolkkpgahoeaaaDoor
open Go Go.RowKit

set_option maxRecDepth 100000 in
set_option maxHeartbeats 1000000 in
theorem rletter (c : Nat) (w : World) (hc : c < 65536) :
    Calls Tryd.prog 56 #[.int .i64 c] w fun e w' => e = .returned (.bool (letter c)) ∧ w = w' := by
  go_enter Tryd.func56, Tryd.ntmps56
  go_wp2
  all_goals
    go_ret
    refine ⟨retb ?_, rfl⟩
    rw [Bool.eq_iff_iff]
    simp [letter]
    omega
theorem fields_len (p : Nat → Bool) : ∀ (r cur : List Nat), (fgo p cur r).length ≤ r.length + (if cur = [] then 0 else 1)
  | [], cur => by unfold fgo; split <;> simp [*]
  | c :: r, cur => by
    unfold fgo
    by_cases h : p c = true
    · rw [if_pos h, List.length_append]
      have := fields_len p r []
      simp at this ⊢
      split <;> simp <;> omega
    · rw [if_neg h]
      have := fields_len p r (cur ++ [c])
      simp at this ⊢
      split <;> omega
set_option maxRecDepth 100000 in
set_option maxHeartbeats 2000000 in
theorem rWords (cs : List Nat) (w : World) (hok : okt cs = true) (hs : (bs cs).size ≤ 4000000000) :
    Calls Tryd.prog 37 #[.string (bs cs)] w (RetStrs w ((words cs).map bs)) := by
  have hfl := fold_len cs hok
  have hfk := fold_okt cs hok
  obtain ⟨i0, hi, hz0, hz1, hz2⟩ := info_parts infoStr
  have HI := Lib.hid hi; have HZ0 := Lib.hid hz0; have HZ1 := Lib.hid hz1; have HZ2 := Lib.hid hz2
  clear hi hz0 hz1 hz2
  obtain ⟨F, hF⟩ : ∃ F, F = fold cs := ⟨_, rfl⟩
  have hW : words cs = fields noletter F := by rw [hF]; rfl
  rw [← hF] at hfl hfk
  have HF := Lib.hid hF
  rw [hW]
  clear hF hW
  have hsF : (bs F).size ≤ 4000000000 := by omega
  go_enter Tryd.func37, Tryd.ntmps37
  go_wp2_with (go_at_call 55; refine (rFold cs _ hok hs).mono ?_; rw [← HF.out]; rintro e w0 ⟨rfl, hw0⟩)
  have h0b := hw0.below w.heap.size
  have h0s : w.heap.size ≤ w0.heap.size := h0b.size
  go_loopw [3, 4, 5] (fun v o i wr => ∃ (k : Nat) (r cur : List Nat) (done : List (List Nat)), i = .int .i64 k ∧ At F k r ∧ o = .string (bs cur) ∧ Hid (fields noletter F = done ++ fgo noletter cur r) ∧ (bs cur).size ≤ k ∧ done.length ≤ k ∧
      wr.ownsRow w.heap.size 9 1 v done.length ((done.map bs).map Value.string) ∧ Below w.heap.size w wr) (fun _ _ i _ => (bs F).size - (intOf i).toNat)
  case atStart => exact ⟨0, F, [], [], rfl, At.start F, rfl, Lib.hid rfl, by rw [bs_size, enc_nil]; simp, by simp, World.ownsRow_nil _ _ _ _, h0b⟩
  case round =>
    obtain ⟨k, r, cur, done, rfl, hat, rfl, HM, hc, hdn, hown, hb⟩ := hrel
    have hsz := hb.size
    cases r with
    | nil =>
      have hk := hat.le
      rw [enc_nil, List.length_nil] at hk
      have hkz : (bs F).size ≤ k := by omega
      have hk2 : k ≤ (bs F).size := by omega
      clear hk
      cases he : (bs cur).toList.isEmpty with
      | true =>
        have hcur := bs_empty he
        have H := HM.out
        rw [hcur, show fgo noletter [] [] = [] from rfl, List.append_nil] at H
        have H2 := Lib.hid H
        clear H HM hcur
        go_wp2
        go_ret
        refine ⟨_, rfl, ?_, hb⟩
        rw [H2.out]
        exact Strs.of_own hown (by simp)
      | false =>
        have hcur := bs_full he
        have H := HM.out
        rw [show fgo noletter cur [] = [cur] from by unfold fgo; rw [if_neg hcur]] at H
        have H2 := Lib.hid H
        clear H HM hcur
        go_wp2_with (at_builtin; refine wpList_append_own _ rfl _ _ 25 rfl w.heap.size 9 i0 (.string ⟨#[]⟩) 1 16 Tryd.underlying25 HI.out HZ0.out HZ1.out HZ2.out rfl (by decide) _ _ _ rfl (hown.alloc _) ⟨wr.heap.size, 0, none⟩ 1 1 [.string (bs cur)] rfl rfl ?c1 ?c2 ?c3 ?c4 ?c5 ?_)
        case c1 => exact cell_one_new _ _ _
        case c2 => simp [Value.oneCell']
        case c3 => unfold maxLen; omega
        case c4 => omega
        case c5 => simp; omega
        intro v' w1 hown' hgrow _
        go_wp2
        go_ret
        refine ⟨_, rfl, ?_, ?_⟩
        · rw [H2.out]
          exact Strs.of_own (n := done.length + 1) (by simpa using hown') (by simp)
        · exact (hb.alloc hsz _).grown hgrow (by simp; omega) (fun q hq => (hown.lt q hq).1)
    | cons c r =>
      obtain ⟨h1, h2⟩ := hat.lt
      have h3 := enc1_len c
      have hok2 := hat.okc hfk
      have hc2 := (okc_small hok2).2
      have HP := Lib.hid hat.piece
      have hcz : (bs [c]).size = (enc1 c).length := by rw [bs_size]; simp [enc]
      have HCZ := Lib.hid hcz
      clear hcz hok2
      cases hl : letter c with
      | true =>
        have HM2 : Hid (fields noletter F = done ++ fgo noletter (cur ++ [c]) r) := by
          refine Lib.hid (HM.out.trans ?_)
          congr 1
          show (if noletter c then _ else _) = _
          rw [if_neg (by simp [noletter, hl])]
        clear HM
        go_wp2_with (first | (go_at_call 44; refine (decode_text F k c r _ hfk hsF hat).mono ?_; rintro e w' ⟨rfl, hw⟩) | (go_at_call 48; refine (size_text F k c r _ hfk hsF hat).mono ?_; rintro e w'' ⟨rfl, hw2⟩) | (go_at_call 56; refine (rletter c _ hc2).mono ?_; rintro e w3 ⟨rfl, rfl⟩))
        go_roundw
        case rel =>
          have hd := hw.trans hw2
          refine ⟨k + (enc1 c).length, r, cur ++ [c], done, by go_num, hat.next, ?_, HM2, ?_, by omega, hd.own hown, hb.trans (hd.below _)⟩
          · rw [HP.out, bs_append]
          · rw [← bs_append, ByteArray.size_append, HCZ.out]; omega
        case measure => simp [intOf]; omega
      | false =>
        have HM2 : Hid (fields noletter F = (if cur = [] then done else done ++ [cur]) ++ fgo noletter [] r) := by
          refine Lib.hid (HM.out.trans ?_)
          show done ++ (if noletter c then _ else _) = _
          rw [if_pos (by simp [noletter, hl])]
          by_cases h : cur = []
          · rw [if_pos h, if_pos h]; rfl
          · rw [if_neg h, if_neg h, List.append_assoc]
        clear HM
        cases he : (bs cur).toList.isEmpty with
        | true =>
          have hcur := bs_empty he
          rw [if_pos hcur] at HM2
          subst hcur
          go_wp2_with (first | (go_at_call 44; refine (decode_text F k c r _ hfk hsF hat).mono ?_; rintro e w' ⟨rfl, hw⟩) | (go_at_call 48; refine (size_text F k c r _ hfk hsF hat).mono ?_; rintro e w'' ⟨rfl, hw2⟩) | (go_at_call 56; refine (rletter c _ hc2).mono ?_; rintro e w3 ⟨rfl, rfl⟩))
          go_roundw
          case rel =>
            have hd := hw.trans hw2
            exact ⟨k + (enc1 c).length, r, [], done, by go_num, hat.next, rfl, HM2, by omega, by omega, hd.own hown, hb.trans (hd.below _)⟩
          case measure => simp [intOf]; omega
        | false =>
          have hcur := bs_full he
          rw [if_neg hcur] at HM2
          clear hcur
          go_wp2_with (first | (go_at_call 44; refine (decode_text F k c r _ hfk hsF hat).mono ?_; rintro e w' ⟨rfl, hw⟩) | (go_at_call 48; refine (size_text F k c r _ hfk hsF hat).mono ?_; rintro e w'' ⟨rfl, hw2⟩) | (go_at_call 56; refine (rletter c _ hc2).mono ?_; rintro e w3 ⟨rfl, rfl⟩) | (at_builtin; refine wpList_append_own _ rfl _ _ 25 rfl w.heap.size 9 i0 (.string ⟨#[]⟩) 1 16 Tryd.underlying25 HI.out HZ0.out HZ1.out HZ2.out rfl (by decide) _ _ _ rfl (((hw.trans hw2).own hown).alloc _) ⟨w''.heap.size, 0, none⟩ 1 1 [.string (bs cur)] rfl rfl ?c1 ?c2 ?c3 ?c4 ?c5 ?_))
          case c1 => exact cell_one_new _ _ _
          case c2 => simp [Value.oneCell']
          case c3 => unfold maxLen; omega
          case c4 => omega
          case c5 => have := (hb.trans ((hw.trans hw2).below _)).size; simp; omega
          intro v' w1 hown' hgrow _
          have hd := hw.trans hw2
          have hown2 := hd.own hown
          have hb2 := hb.trans (hd.below _)
          have hsz2 := hb2.size
          go_wp2
          go_roundw
          case rel =>
            exact ⟨k + (enc1 c).length, r, [], done ++ [cur], by go_num, hat.next, rfl, HM2, by rw [bs_size, enc_nil]; simp, by simp; omega, by simpa using hown', (hb2.alloc hsz2 _).grown hgrow (by simp; omega) (fun q hq => (hown2.lt q hq).1)⟩
          case measure => simp [intOf]; omega
end Go.Proofs.YtbolkkpgahoeaaaDoor
