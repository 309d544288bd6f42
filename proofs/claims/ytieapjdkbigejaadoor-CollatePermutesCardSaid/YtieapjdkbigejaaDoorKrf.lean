/- Walks of the reference's replaced, letter and Key (layer 2). -/
import Derived.Test.YtieapjdkbigejaaDoorKln
import Derived.Test.YtieapjdkbigejaaDoorRfd
import Derived.Test.YtieapjdkbigejaaDoorEnv
namespace Go.Proofs.YtieapjdkbigejaaDoor
open Go Go.RowKit

theorem encode_ok (c : Nat) (h : okc c = true) : Utf8.encode (c : Int) = bs [c] := by
  have h2 := (okc_iff c).1 h
  apply ba_ext
  rw [bs_data]
  show _ = enc1 c ++ enc []
  rw [enc_nil, List.append_nil]
  have hv : Utf8.valid (c : Int) = true := by simp [Utf8.valid]; omega
  unfold Utf8.encode enc1
  simp only [hv, if_true, Int.toNat_natCast]
  by_cases h128 : c < 128
  · rw [if_pos h128, if_pos h128]
  · by_cases h2048 : c < 2048
    · rw [if_neg h128, if_neg h128, if_pos h2048, if_pos h2048]
    · rw [if_neg h128, if_neg h128, if_neg h2048, if_neg h2048, if_pos (by omega)]

set_option maxRecDepth 100000 in
set_option maxHeartbeats 2000000 in
theorem rreplaced (lang : ByteArray) (c : Nat) (w : World) (hc : okc c = true) :
    Calls Tryd.prog 39 #[.string lang, .int .i32 c] w fun e w' => e = .returned (.string (bs (repl (lcode lang) c))) ∧ w = w' := by
  have hlt := (okc_small hc).2
  obtain ⟨k, hk⟩ : ∃ k, k = lcode lang := ⟨_, rfl⟩
  rw [← hk]
  have HK := Lib.hid hk
  have HC := Lib.hid hc
  clear hk hc
  go_enter Tryd.func39, Tryd.ntmps39
  go_wp2
  all_goals
    go_ret
    refine ⟨rets ?_, rfl⟩
    try simp only [Bool.or_eq_true] at *
    try simp only [Bool.or_eq_false_iff] at *
    try simp only [beq_iff_eq] at *
    try simp only [beq_eq_false_iff_ne, ne_eq] at *
    try (have hk2 := lc2 (by assumption); rw [← HK.out] at hk2)
    try (have hk3 := lc3 (by assumption); rw [← HK.out] at hk3)
    try (have hk4 := lc4 (by assumption); rw [← HK.out] at hk4)
    try (have hk5 := lcn (by assumption) (by assumption) (by assumption); rw [← HK.out] at hk5)
    simp only [repl]
    repeat (first | rw [if_pos (by omega)] | rw [if_neg (by omega)])
  all_goals (first | (exfalso; omega) | (with_reducible exact encode_ok c HC.out) | rfl)
set_option maxRecDepth 100000 in
set_option maxHeartbeats 1000000 in
theorem rkletter (c : Nat) (w : World) (hc : c < 65536) :
    Calls Tryd.prog 40 #[.int .i32 c] w fun e w' => e = .returned (.bool (kletter c)) ∧ w = w' := by
  go_enter Tryd.func40, Tryd.ntmps40
  go_wp2
  all_goals
    go_ret
    refine ⟨retb ?_, rfl⟩
    rw [Bool.eq_iff_iff]
    simp [kletter]
    omega

set_option maxRecDepth 100000 in
set_option maxHeartbeats 4000000 in
theorem rKey (lang : ByteArray) (cs : List Nat) (w : World) (hok : okt cs = true) (hs : (bs cs).size ≤ 1000000) :
    Calls Tryd.prog 18 #[.string lang, .string (bs cs)] w fun e w' => e = .returned (.string (bs (key (lcode lang) cs))) ∧ Below w.heap.size w w' := by
  obtain ⟨k, hk⟩ : ∃ k, k = lcode lang := ⟨_, rfl⟩
  have hrk := fun (c : Nat) (W : World) (hc : okc c = true) => rreplaced lang c W hc
  rw [← hk] at hrk ⊢
  have HRK := Lib.hid hrk
  clear hrk
  obtain ⟨A, hA⟩ : ∃ A, A = replA k cs := ⟨_, rfl⟩
  obtain ⟨ho1, ho2⟩ := replA_okt k cs hok
  have hkey : key k cs = cgo nokl [] false (fold A) := by rw [hA, cgo_eq]; rfl
  rw [hkey]
  rw [← hA] at ho1 ho2
  have HA := Lib.hid hA
  clear hA hkey hk
  obtain ⟨R, hR⟩ : ∃ R, R = cgo nokl [] false (fold A) := ⟨_, rfl⟩
  rw [← hR]
  have HR0 := Lib.hid hR
  clear hR
  go_enter Tryd.func18, Tryd.ntmps18
  go_wp2
  go_loopw [5] (fun t wr => ∃ (i : Nat) (r p : List Nat), wr = w.iter (bs cs) i ∧ At cs i r ∧ t = .string (bs p) ∧ Hid (A = p ++ replA k r) ∧ (bs p).size ≤ i) (fun _ wr => (bs cs).size - wr.iterPos w.heap.size)
  case atStart => exact ⟨0, cs, [], rfl, At.start cs, rfl, HA, by rw [bs_size, enc_nil]; simp⟩
  case round =>
    obtain ⟨i, r, p, rfl, hat, rfl, HM, hp⟩ := hrel
    clear HA
    cases r with
    | nil =>
      have hnx := fun ty => next_end w hat ty
      have H : Hid (A = p) := Lib.hid (by rw [HM.out]; simp [replA])
      clear HM
      have hAp := H.out
      subst hAp
      go_wp2_with (go_at_call 33; refine (rFold A _ ho1 (by omega)).mono ?_; rintro e w1 ⟨rfl, b1⟩)
      have hfo := fold_okt A ho1
      have hfl := fold_len A ho1
      obtain ⟨F, hF⟩ : ∃ F, F = fold A := ⟨_, rfl⟩
      have HR : Hid (R = cgo nokl [] false F) := Lib.hid (by rw [hF]; exact HR0.out)
      rw [← hF] at hfo hfl ⊢
      clear hF H hnx hat HR0
      have hw1 : Below w.heap.size w w1 := ((Below.refl w.heap.size w).alloc (Nat.le_refl _) _).trans (b1.below _)
      go_loopw [8, 9] (fun o g wr => ∃ (i : Nat) (r p : List Nat) (gap : Bool), wr = w1.iter (bs F) i ∧ At F i r ∧ o = .string (bs p) ∧ g = .bool gap ∧ Hid (R = cgo nokl p gap r) ∧ (bs p).size + gap.toNat ≤ i) (fun _ _ wr => (bs F).size - wr.iterPos w1.heap.size)
      case atStart => exact ⟨0, F, [], false, rfl, At.start F, rfl, rfl, HR, by rw [bs_size, enc_nil]; simp⟩
      case round =>
        obtain ⟨i, r, p, gap, rfl, hat, rfl, rfl, HM, hp⟩ := hrel
        clear HR
        cases r with
        | nil =>
          have hnx := fun ty => next_end w1 hat ty
          have H : Hid (R = p) := Lib.hid HM.out
          clear HM
          go_wp2
          go_ret
          exact ⟨by first | (rw [H.out]; done) | (rw [H.out]; rfl), hw1.alloc hw1.size _⟩
        | cons c r =>
          obtain ⟨h1, h2⟩ := hat.lt
          have h3 := enc1_len c
          have hnx := fun ty => next_char w1 hat hfo ty
          have hc := hat.okc hfo
          have hc2 := (okc_small hc).2
          have HEN := Lib.hid hc
          have HCZ := Lib.hid (bs_one c)
          clear hc
          cases hl : kletter c with
          | false =>
            have HM2 : Hid (R = cgo nokl p true r) := by
              refine Lib.hid (HM.out.trans ?_)
              show (if nokl c = true then _ else _) = _
              rw [if_pos (by simp [nokl, hl])]
            clear HM
            go_wp2_with (go_at_call 40; refine (rkletter c _ hc2).mono ?_; rintro e w3 ⟨rfl, rfl⟩)
            go_roundw
            case rel => exact ⟨i + (enc1 c).length, r, p, true, rfl, hat.next, rfl, rfl, HM2, by simp; omega⟩
            case measure => simp; omega
          | true =>
            have HM2 : Hid (R = cgo nokl ((if gap = true ∧ p ≠ [] then p ++ [32] else p) ++ [c]) false r) := by
              refine Lib.hid (HM.out.trans ?_)
              show (if nokl c = true then _ else _) = _
              rw [if_neg (by simp [nokl, hl])]
            clear HM
            obtain ⟨E, hE⟩ : ∃ E : ByteArray, Utf8.encode (c : Int) = E := ⟨_, rfl⟩
            have hEb : E = bs [c] := hE.symm.trans (encode_ok c HEN.out)
            have hEs : E.size ≤ 3 := by rw [hEb, bs_one]; omega
            have hEz : E.size = (enc1 c).length := by rw [hEb, bs_one]
            have HEB := Lib.hid hEb
            have HEZ := Lib.hid hEz
            clear hEb hEz
            cases he : (bs p).toList.isEmpty with
            | true =>
              have hcur := bs_empty he
              rw [if_neg (fun h => h.2 hcur)] at HM2
              clear hcur
              cases gap <;>
              · go_wp2_with (go_at_call 40; refine (rkletter c _ hc2).mono ?_; rintro e w3 ⟨rfl, rfl⟩)
                go_roundw
                case rel =>
                  refine ⟨i + (enc1 c).length, r, p ++ [c], false, rfl, hat.next, ?_, rfl, HM2, ?_⟩
                  · rw [HEB.out, bs_append]
                  · rw [← bs_append, ByteArray.size_append, HCZ.out]; simp at hp ⊢; omega
                case measure => simp; omega
            | false =>
              have hcur := bs_full he
              cases gap with
              | false =>
                rw [if_neg (by simp)] at HM2
                clear hcur
                go_wp2_with (go_at_call 40; refine (rkletter c _ hc2).mono ?_; rintro e w3 ⟨rfl, rfl⟩)
                go_roundw
                case rel =>
                  refine ⟨i + (enc1 c).length, r, p ++ [c], false, rfl, hat.next, ?_, rfl, HM2, ?_⟩
                  · rw [HEB.out, bs_append]
                  · rw [← bs_append, ByteArray.size_append, HCZ.out]; simp at hp ⊢; omega
                case measure => simp; omega
              | true =>
                rw [if_pos ⟨rfl, hcur⟩] at HM2
                clear hcur
                have H32 : Hid (bs p ++ ⟨#[32]⟩ = bs (p ++ [32])) := Lib.hid (bs_append p [32])
                have hz32 : (bs p ++ ⟨#[32]⟩ : ByteArray).size = (bs p).size + 1 := ByteArray.size_append
                have HZ := Lib.hid hz32
                simp at hp
                clear hz32
                go_wp2_with (go_at_call 40; refine (rkletter c _ hc2).mono ?_; rintro e w3 ⟨rfl, rfl⟩)
                go_roundw
                case rel =>
                  refine ⟨i + (enc1 c).length, r, p ++ [32] ++ [c], false, rfl, hat.next, ?_, rfl, HM2, ?_⟩
                  · rw [HEB.out, H32.out, bs_append]
                  · rw [← bs_append, ByteArray.size_append, ← H32.out, HZ.out, HCZ.out]; simp; omega
                case measure => simp; omega
    | cons c r =>
      obtain ⟨h1, h2⟩ := hat.lt
      have h3 := enc1_len c
      have hnx := fun ty => next_char w hat hok ty
      have hc := hat.okc hok
      have hrl := (repl_ok k c hc).2
      have HM2 : Hid (A = (p ++ repl k c) ++ replA k r) := Lib.hid (by rw [HM.out, List.append_assoc]; rfl)
      have hz : (bs (repl k c)).size ≤ (enc1 c).length := by rw [bs_size]; exact hrl
      clear HM
      go_wp2_with (go_at_call 39; refine (HRK.out c _ hc).mono ?_; rintro e w1 ⟨rfl, rfl⟩)
      go_roundw
      case rel =>
        refine ⟨i + (enc1 c).length, r, p ++ repl k c, rfl, hat.next, ?_, HM2, ?_⟩
        · rw [bs_append]
        · rw [← bs_append, ByteArray.size_append]; omega
      case measure => simp; omega
end Go.Proofs.YtieapjdkbigejaaDoor
