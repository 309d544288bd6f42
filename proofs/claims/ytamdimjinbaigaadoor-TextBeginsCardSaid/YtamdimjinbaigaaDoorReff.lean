/- Walks of the reference's Clean, Space, Join and Texts (layer 1). -/
import Derived.Test.YtamdimjinbaigaaDoorRefe
namespace Go.Proofs.YtamdimjinbaigaaDoor
open Go Go.RowKit

theorem bs_one (c : Nat) : (bs [c]).size = (enc1 c).length := by rw [bs_size]; simp [enc]

set_option maxRecDepth 100000 in
set_option maxHeartbeats 2000000 in
theorem rClean (cs : List Nat) (w : World) (hok : okt cs = true) (hs : (bs cs).size ≤ 4000000000) :
    Calls Tryd.prog 23 #[.string (bs cs)] w fun e w' => e = .returned (.string (bs (clean cs))) ∧ Dr w w' := by
  obtain ⟨A, hA⟩ : ∃ A, A = clean cs := ⟨_, rfl⟩
  rw [← hA]
  have HA : Hid (A = cgo blank [] false cs) := Lib.hid (hA.trans (cgo_eq blank cs false).symm)
  clear hA
  go_enter Tryd.func23, Tryd.ntmps23
  go_wp2
  go_loopw [3, 4, 5] (fun o g i wr => ∃ (k : Nat) (r p : List Nat) (gap : Bool), i = .int .i64 k ∧ At cs k r ∧ o = .string (bs p) ∧ g = .bool gap ∧ Hid (A = cgo blank p gap r) ∧ (bs p).size + gap.toNat ≤ k ∧ Dr w wr) (fun _ _ i _ => (bs cs).size - (intOf i).toNat)
  case atStart => exact ⟨0, cs, [], false, rfl, At.start cs, rfl, rfl, HA, by rw [bs_size, enc_nil]; simp, Dr.refl _⟩
  case round =>
    obtain ⟨k, r, p, gap, rfl, hat, rfl, rfl, HM, hp, hd⟩ := hrel
    clear HA
    cases r with
    | nil =>
      have hk := hat.le
      rw [enc_nil, List.length_nil] at hk
      have hkz : (bs cs).size ≤ k := by omega
      have H : Hid (A = p) := Lib.hid HM.out
      clear hk HM
      go_wp2
      go_ret
      exact ⟨by first | (rw [H.out]; done) | (rw [H.out]; rfl), hd⟩
    | cons c r =>
      obtain ⟨h1, h2⟩ := hat.lt
      have h3 := enc1_len c
      have hok2 := hat.okc hok
      have hc2 := (okc_small hok2).2
      have HP := Lib.hid hat.piece
      have HCZ := Lib.hid (bs_one c)
      clear hok2
      cases hl : blank c with
      | true =>
        have HM2 : Hid (A = cgo blank p true r) := by
          refine Lib.hid (HM.out.trans ?_)
          show (if blank c = true then _ else _) = _
          rw [if_pos hl]
        clear HM
        go_wp2_with (first | (go_at_call 27; refine (decode_text cs k c r _ hok hs hat).mono ?_; rintro e w' ⟨rfl, hw⟩) | (go_at_call 29; refine (size_text cs k c r _ hok hs hat).mono ?_; rintro e w'' ⟨rfl, hw2⟩) | (go_at_call 40; refine (rblank c _ hc2).mono ?_; rintro e w3 ⟨rfl, rfl⟩))
        go_roundw
        case rel =>
          exact ⟨k + (enc1 c).length, r, p, true, by go_num, hat.next, rfl, rfl, HM2, by simp; omega, (hd.trans hw).trans hw2⟩
        case measure => simp [intOf]; omega
      | false =>
        have HM2 : Hid (A = cgo blank ((if gap = true ∧ p ≠ [] then p ++ [32] else p) ++ [c]) false r) := by
          refine Lib.hid (HM.out.trans ?_)
          show (if blank c = true then _ else _) = _
          rw [if_neg (by simp [hl])]
        clear HM
        cases he : (bs p).toList.isEmpty with
        | true =>
          have hcur := bs_empty he
          rw [if_neg (fun h => h.2 hcur)] at HM2
          clear hcur
          cases gap <;>
          · go_wp2_with (first | (go_at_call 27; refine (decode_text cs k c r _ hok hs hat).mono ?_; rintro e w' ⟨rfl, hw⟩) | (go_at_call 29; refine (size_text cs k c r _ hok hs hat).mono ?_; rintro e w'' ⟨rfl, hw2⟩) | (go_at_call 40; refine (rblank c _ hc2).mono ?_; rintro e w3 ⟨rfl, rfl⟩))
            go_roundw
            case rel =>
              refine ⟨k + (enc1 c).length, r, p ++ [c], false, by go_num, hat.next, ?_, rfl, HM2, ?_, (hd.trans hw).trans hw2⟩
              · rw [HP.out, bs_append]
              · rw [← bs_append, ByteArray.size_append, HCZ.out]; simp at hp ⊢; omega
            case measure => simp [intOf]; omega
        | false =>
          have hcur := bs_full he
          cases gap with
          | false =>
            rw [if_neg (by simp)] at HM2
            clear hcur
            go_wp2_with (first | (go_at_call 27; refine (decode_text cs k c r _ hok hs hat).mono ?_; rintro e w' ⟨rfl, hw⟩) | (go_at_call 29; refine (size_text cs k c r _ hok hs hat).mono ?_; rintro e w'' ⟨rfl, hw2⟩) | (go_at_call 40; refine (rblank c _ hc2).mono ?_; rintro e w3 ⟨rfl, rfl⟩))
            go_roundw
            case rel =>
              refine ⟨k + (enc1 c).length, r, p ++ [c], false, by go_num, hat.next, ?_, rfl, HM2, ?_, (hd.trans hw).trans hw2⟩
              · rw [HP.out, bs_append]
              · rw [← bs_append, ByteArray.size_append, HCZ.out]; simp at hp ⊢; omega
            case measure => simp [intOf]; omega
          | true =>
            rw [if_pos ⟨rfl, hcur⟩] at HM2
            clear hcur
            have H32 : Hid (bs p ++ ⟨#[32]⟩ = bs (p ++ [32])) := Lib.hid (bs_append p [32])
            have hz32 : (bs p ++ ⟨#[32]⟩ : ByteArray).size = (bs p).size + 1 := ByteArray.size_append
            have HZ := Lib.hid hz32
            simp at hp
            have hb1 : (bs p).size + 1 ≤ 4000000000 := by omega
            clear hz32
            go_wp2_with (first | (go_at_call 27; refine (decode_text cs k c r _ hok hs hat).mono ?_; rintro e w' ⟨rfl, hw⟩) | (go_at_call 29; refine (size_text cs k c r _ hok hs hat).mono ?_; rintro e w'' ⟨rfl, hw2⟩) | (go_at_call 40; refine (rblank c _ hc2).mono ?_; rintro e w3 ⟨rfl, rfl⟩))
            go_roundw
            case rel =>
              refine ⟨k + (enc1 c).length, r, p ++ [32] ++ [c], false, by go_num, hat.next, ?_, rfl, HM2, ?_, (hd.trans hw).trans hw2⟩
              · rw [HP.out, H32.out, bs_append]
              · rw [← bs_append, ByteArray.size_append, ← H32.out, HZ.out, HCZ.out]; simp; omega
            case measure => simp [intOf]; omega

set_option maxRecDepth 100000 in
set_option maxHeartbeats 1000000 in
theorem rSpace (cs : List Nat) (w : World) (hok : okt cs = true) (hs : (bs cs).size ≤ 4000000000) :
    Calls Tryd.prog 25 #[.string (bs cs)] w fun e w' => e = .returned (.bool (clean cs).isEmpty) ∧ Dr w w' := by
  have e : (bs (clean cs)).toList.isEmpty = (clean cs).isEmpty := by
    cases h : (clean cs) with
    | nil => rw [bs_toList]; rfl
    | cons c r => exact bs_full' (by simp)
  have HE := Lib.hid e
  clear e
  go_enter Tryd.func25, Tryd.ntmps25
  go_wp2_with (go_at_call 23; refine (rClean cs _ hok hs).mono ?_; rintro e w' ⟨rfl, hw⟩)
  go_ret
  exact ⟨retb HE.out, hw⟩

theorem glue_app : ∀ (a b : List (List Nat)), a ≠ [] → b ≠ [] → glue (a ++ b) = glue a ++ 32 :: glue b
  | [], _, h, _ => absurd rfl h
  | [x], b, _, hb => by
    cases b with
    | nil => exact absurd rfl hb
    | cons y r => rfl
  | x :: y :: r, b, _, hb => by
    have := glue_app (y :: r) b (by simp) hb
    simp only [List.cons_append, glue] at this ⊢
    rw [this]; simp
theorem glue_take (ws : List (List Nat)) (i : Nat) (x : List Nat) (h : ws[i]? = some x) : glue (ws.take (i + 1)) = if i = 0 then x else glue (ws.take i) ++ 32 :: x := by
  rw [List.take_add_one, h]
  by_cases h0 : i = 0
  · subst h0; simp [glue]
  · rw [if_neg h0]
    have hne : ws.take i ≠ [] := by
      have hl : i < ws.length := (List.getElem?_eq_some_iff.1 h).1
      intro e
      have := congrArg List.length e
      rw [List.length_take, List.length_nil] at this; omega
    exact glue_app _ [x] hne (by simp)
theorem glue_take_le (ws : List (List Nat)) (i : Nat) : (bs (glue (ws.take i))).size ≤ (bs (glue ws)).size := by
  by_cases h1 : ws.take i = []
  · rw [h1]; simp [glue, bs_size, enc_nil]
  · by_cases h2 : ws.drop i = []
    · have : ws.take i = ws := by
        have := List.take_append_drop i ws
        rw [h2, List.append_nil] at this; exact this
      rw [this]; exact Nat.le_refl _
    · have := glue_app _ _ h1 h2
      rw [List.take_append_drop] at this
      rw [this, bs_size, bs_size, enc_append, List.length_append]; omega

set_option maxRecDepth 100000 in
set_option maxHeartbeats 1000000 in
theorem rJoin (ws : List (List Nat)) (v : Value) (w : World) (hv : Strs w v (ws.map bs)) (hs : (bs (glue ws)).size ≤ 4000000000) (hn : ws.length ≤ 4000000000) :
    Calls Tryd.prog 22 #[v, .string ⟨#[32]⟩] w fun e w' => e = .returned (.string (bs (glue ws))) ∧ w = w' := by
  obtain ⟨a, cap, rfl, hcap, hx⟩ := hv
  obtain ⟨A, hA⟩ : ∃ A, A = glue ws := ⟨_, rfl⟩
  rw [← hA] at hs ⊢
  have HA := Lib.hid hA
  clear hA
  obtain ⟨n, hn2⟩ : ∃ n, n = ws.length := ⟨_, rfl⟩
  have hnm : (ws.map bs).length = n := by rw [List.length_map, hn2]
  rw [hnm] at hcap ⊢
  have HN := Lib.hid hn2
  have hn3 : n ≤ 4000000000 := by omega
  clear hn2 hnm hn
  have HX := Lib.hid hx
  clear hx
  go_enter Tryd.func22, Tryd.ntmps22
  go_wp2
  go_loop [5, 6] (fun o i => ∃ (k : Nat), i = .int .i64 k ∧ k ≤ n ∧ o = .string (bs (glue (ws.take k)))) (fun _ i => n - (intOf i).toNat)
  case atStart => exact ⟨0, rfl, by omega, rfl⟩
  case round =>
    obtain ⟨k, rfl, hk, rfl⟩ := hrel
    by_cases hlt : k < n
    · obtain ⟨x, hx⟩ : ∃ x, ws[k]? = some x := ⟨_, List.getElem?_eq_getElem (by have := HN.out; omega)⟩
      have hx2 : (ws.map bs)[k]? = some (bs x) := by rw [List.getElem?_map, hx]; rfl
      rcases HX.out with h0 | ⟨b, o, rfl, hblt, hcells⟩
      · rw [h0] at hx2; cases hx2
      have hcell := hcells k (bs x) hx2
      have hgt := glue_take ws k x hx
      have hle := glue_take_le ws (k + 1)
      rw [← HA.out] at hle
      clear hcells hx2 hx
      by_cases h0 : k = 0
      · subst h0
        rw [if_pos rfl] at hgt
        have HG := Lib.hid hgt
        rw [hgt] at hle
        have hc0 : w.cell? ⟨b, o, none⟩ = some (.string (bs x)) := by simpa using hcell
        have hz0 : (bs (glue [])).size ≤ 0 := by rw [bs_size]; simp [glue, enc_nil]
        have HE : Hid (bs (glue []) ++ bs x = bs x) := Lib.hid (by rw [bs_append]; rfl)
        clear hgt hcell
        go_wp2
        go_round
        case rel => exact ⟨1, rfl, by omega, by rw [HE.out, HG.out]⟩
        case measure => simp [intOf]; omega
      · rw [if_neg h0] at hgt
        have HG := Lib.hid hgt
        rw [hgt] at hle
        have hz : (bs (glue (ws.take k))).size + 1 + (bs x).size ≤ 4000000000 := by
          rw [← bs_append, ByteArray.size_append] at hle
          have e : (bs (32 :: x)).size = 1 + (bs x).size := by rw [bs_size, bs_size, enc_cons, List.length_append]; rfl
          omega
        have HE : Hid (bs (glue (ws.take k)) ++ ⟨#[32]⟩ ++ bs x = bs (glue (ws.take k) ++ 32 :: x)) := Lib.hid (by
          rw [show (⟨#[32]⟩ : ByteArray) = bs [32] from rfl, bs_append, bs_append, List.append_assoc]; rfl)
        have hk0 : 0 < k := by omega
        clear hgt hle
        go_wp2
        go_round
        case rel => exact ⟨k + 1, by go_num, by omega, by rw [HE.out, HG.out]⟩
        case measure => simp [intOf]; omega
    · go_wp2
      go_ret
      refine ⟨?_, rfl⟩
      have : ws.take k = ws := List.take_of_length_le (by have := HN.out; omega)
      rw [HA.out]
      show Ending.returned (.string (bs (glue (ws.take k)))) = _
      rw [this]
end Go.Proofs.YtamdimjinbaigaaDoor
