/- The walk of package collate's Key (layer 2). -/
import Derived.Test.YtieapjdkbigejaaDoorKpr
namespace Go.Proofs.YtieapjdkbigejaaDoor
open Go Go.RowKit

theorem fresh_later {B b : Nat} {W : World} (h : W.heap[b]? = some (.cells #[.pointer none, .slice none 0 0] 48 (0, 0))) (hB : B ≤ b) : IsB B b [] W :=
  .inl ⟨hB, _, h, World.ownsRowF_nil _ _ _ _, by simp [Value.ownBlock]⟩

set_option maxRecDepth 100000 in
set_option maxHeartbeats 8000000 in
theorem pKey (lang : ByteArray) (cs : List Nat) (w : World) (hE : Env w) (hok : okt cs = true) (hs : (bs cs).size ≤ 1000000) :
    Calls Tryd.prog 17 #[.string lang, .string (bs cs)] w fun e w' => e = .returned (.string (bs (key (lcode lang) cs))) ∧ Below w.heap.size w w' := by
  obtain ⟨m, hm⟩ : ∃ m, m = lcode lang := ⟨_, rfl⟩
  have hpr := fun (W : World) => preplaced lang cs W hok hs
  rw [← hm] at hpr ⊢
  have HPR := Lib.hid hpr
  clear hpr hm
  obtain ⟨ho1, ho2⟩ := replA_okt m cs hok
  have hfo := fold_okt _ ho1
  have hfl := fold_len _ ho1
  obtain ⟨F, hF⟩ : ∃ F, F = fold (replA m cs) := ⟨_, rfl⟩
  rw [← hF] at hfo hfl
  have hkey : key m cs = cgo nokl [] false F := by rw [hF, cgo_eq]; rfl
  obtain ⟨R, hR⟩ : ∃ R, R = key m cs := ⟨_, rfl⟩
  rw [← hR]
  have HR := Lib.hid (hR.trans hkey)
  have HF := Lib.hid hF
  clear hF hkey hR
  obtain ⟨w1, hw1⟩ : ∃ w1, w1 = w.alloc (.cells #[.pointer none, .slice none 0 0] 48) := ⟨_, rfl⟩
  have hE1 : Env w1 := by rw [hw1]; exact hE.below ((Below.refl _ _).alloc (Nat.le_refl _) _)
  have hb1 : Below w.heap.size w w1 := by rw [hw1]; exact (Below.refl _ _).alloc (Nat.le_refl _) _
  have hs1 : w1.heap.size = w.heap.size + 1 := by rw [hw1]; simp
  have hbl : w1.heap[w.heap.size]? = some (.cells #[.pointer none, .slice none 0 0] 48 (0, 0)) := by rw [hw1]; exact heap_alloc_new w _
  have HW1 := Lib.hid hw1
  have HS1 := Lib.hid hs1
  have HBL := Lib.hid hbl
  clear hw1 hs1 hbl
  go_enter Tryd.func17, Tryd.ntmps17
  go_wp2_with fail
  rw [← HW1.out]
  refine (HPR.out _).mono ?_
  rintro e w2 ⟨rfl, b2⟩
  have hE2 := hE1.below b2
  go_wp2_with fail
  refine (pFold _ _ hE2 ho1 (by omega)).mono ?_
  rw [← HF.out]
  rintro e w3 ⟨rfl, b3⟩
  have b13 := b2.bt b3
  have hs13 := b13.size
  have hlt3 : w.heap.size < w3.heap.size := by have := HS1.out; omega
  have hI3 : IsB w.heap.size w.heap.size [] w3 := fresh_later ((b13.block w.heap.size (by have := HS1.out; omega)).trans HBL.out) (Nat.le_refl _)
  have hbw3 : Below w.heap.size w w3 := hb1.bt b13
  clear b2 b3 b13 hE hE1 hE2 hb1 hs13
  go_wp2
  go_loopw [6] (fun g wr => ∃ (k : Nat) (r p : List Nat) (gap : Bool), At F k r ∧ g = .bool gap ∧ Hid (R = cgo nokl p gap r) ∧ (bs p).size + gap.toNat ≤ k ∧ IsB w.heap.size w.heap.size (Lib.byteCells (enc p)) wr ∧ wr.heap[w3.heap.size]? = some (.stringIter (bs F) k) ∧ Below w.heap.size w wr) (fun _ wr => (bs F).size - wr.iterPos w3.heap.size)
  case atStart =>
    exact ⟨0, F, [], false, At.start F, rfl, HR, by rw [bs_size, enc_nil]; simp, hI3.alloc _, World.iter_heap w3 (bs F) 0, hbw3.alloc hbw3.size _⟩
  case round =>
    obtain ⟨k, r, p, gap, hat, rfl, HM, hp, hI, hit, hbw⟩ := hrel
    have hsz : w3.heap.size < wr.heap.size := lt_of_block hit
    have hlen := Lib.byteCells_length (enc p)
    have hkk := hat.le
    have hbk : k ≤ (bs F).size := by omega
    have hpe : (Lib.byteCells (enc p)).length ≤ 1000000 := by rw [hlen, ← bs_size]; omega
    have hp2 : (bs p).size + gap.toNat ≤ k := hp
    have HL : Hid ((Lib.byteCells (enc p)).length = (bs p).size) := Lib.hid (by rw [hlen, bs_size])
    clear hlen hkk HR hI3 hbw3
    cases r with
    | nil =>
      have hnx := fun ty => next_end_at wr w3.heap.size hit hat ty
      have H : Hid (R = p) := Lib.hid HM.out
      clear HM
      go_wp2_with (go_at_call 38; refine (Tryd.Builder_String_any_k w.heap.size w.heap.size (enc p) _ hI (by omega)).mono ?_; rintro e w4 ⟨rfl, _, b1, _⟩)
      go_ret
      exact ⟨by rw [H.out]; rfl, hbw.trans b1⟩
    | cons c r =>
      obtain ⟨h1, h2⟩ := hat.lt
      have h3 := enc1_len c
      have hc := hat.okc hfo
      obtain ⟨hc1, hc2⟩ := okc_small hc
      have hnx := fun ty => next_char_at wr w3.heap.size hit hat hfo ty
      have hI2 := hI.iterAt hit (k + (enc1 c).length)
      have hit2 := Lib.iterAt_heap wr w3.heap.size (bs F) k (k + (enc1 c).length) hit
      have hbw2 := Lib.below_iterAt hbw (k := w3.heap.size) (by omega) (bs F) (k + (enc1 c).length)
      have hsz2 : w.heap.size ≤ (wr.iterAt w3.heap.size (bs F) (k + (enc1 c).length)).heap.size := by rw [Lib.iterAt_size]; omega
      have HIT := Lib.hid hit
      have HIT2 := Lib.hid hit2
      have HOK := Lib.hid hc
      have HCZ := Lib.hid (bs_one c)
      clear hit hit2 hI hc
      cases hl : kletter c with
      | false =>
        have HM2 : Hid (R = cgo nokl p true r) := by
          refine Lib.hid (HM.out.trans ?_)
          show (if nokl c = true then _ else _) = _
          rw [if_pos (by simp [nokl, hl])]
        clear HM
        have hcl : c < 48 ∨ (57 < c ∧ c < 97) ∨ (126 < c ∧ c < 256) := by simp [kletter] at hl; omega
        clear hl
        rcases hcl with q | ⟨q, q'⟩ | ⟨q, q'⟩
        all_goals
          go_wp2
          go_roundw
          case rel => exact ⟨k + (enc1 c).length, r, p, true, hat.next, rfl, HM2, by simp; omega, hI2, HIT2.out, hbw2⟩
          case measure =>
            simp only [World.iterPos, HIT2.out, HIT.out]
            omega
      | true =>
        have HM2 : Hid (R = cgo nokl ((if gap = true ∧ p ≠ [] then p ++ [32] else p) ++ [c]) false r) := by
          refine Lib.hid (HM.out.trans ?_)
          show (if nokl c = true then _ else _) = _
          rw [if_neg (by simp [nokl, hl])]
        clear HM
        have hcl : (97 ≤ c ∧ c ≤ 122) ∨ (48 ≤ c ∧ c ≤ 57) ∨ (123 ≤ c ∧ c ≤ 126) ∨ 256 ≤ c := by simp [kletter] at hl; omega
        clear hl
        -- what closes a round
        have fin : ∀ (x : List Nat) (W2 : World), Hid (R = cgo nokl (x ++ [c]) false r) → (enc x).length ≤ k → AtB w.heap.size w.heap.size (Lib.byteCells (enc (x ++ [c]))) W2 → Below w.heap.size (wr.iterAt w3.heap.size (bs F) (k + (enc1 c).length)) W2 → Lib.OthersKept 5 (some w.heap.size) (wr.iterAt w3.heap.size (bs F) (k + (enc1 c).length)) W2 →
            (∃ (k : Nat) (r p : List Nat) (gap : Bool), At F k r ∧ Value.bool false = .bool gap ∧ Hid (R = cgo nokl p gap r) ∧ (bs p).size + gap.toNat ≤ k ∧ IsB w.heap.size w.heap.size (Lib.byteCells (enc p)) W2 ∧ W2.heap[w3.heap.size]? = some (.stringIter (bs F) k) ∧ Below w.heap.size w W2) ∧
            (bs F).size - W2.iterPos w3.heap.size < (bs F).size - wr.iterPos w3.heap.size := by
          intro x W2 hx hxs g1 b1 k1
          refine ⟨⟨k + (enc1 c).length, r, x ++ [c], false, hat.next, rfl, hx, ?_, .inr g1, k1.iter HIT2.out (by omega), hbw2.trans b1⟩, ?_⟩
          · rw [bs_size, enc_append, List.length_append, ← bs_size [c], HCZ.out]
            show _ + 0 ≤ _
            omega
          · simp only [World.iterPos, k1.iter HIT2.out (by omega), HIT.out]
            omega
        have FIN := Lib.hid fin
        clear fin
        have HPE := bs_size p
        by_cases hg : gap = true ∧ p ≠ []
        · obtain ⟨rfl, hpn⟩ := hg
          rw [if_pos ⟨rfl, hpn⟩] at HM2
          have hpos : 0 < (bs p).size := by
            rw [bs_size]
            cases h : enc p with
            | nil => exact absurd (enc_eq_nil h) hpn
            | cons => simp
          have hpos2 : 0 < (Lib.byteCells (enc p)).length := by rw [HL.out]; exact hpos
          have hp3 : (bs p).size + 1 ≤ k := hp2
          have H32 : Hid (Lib.byteCells (enc p) ++ [Value.int .u8 32] = Lib.byteCells (enc (p ++ [32]))) := Lib.hid (cells_32 p)
          have H33 : Hid ((Lib.byteCells (enc (p ++ [32]))).length ≤ 1000001) := by
            refine Lib.hid ?_
            rw [Lib.byteCells_length, enc_append, List.length_append]
            have : (enc [32]).length = 1 := rfl
            omega
          have H34 : Hid ((enc (p ++ [32])).length ≤ k) := by
            refine Lib.hid ?_
            rw [enc_append, List.length_append]
            have : (enc [32]).length = 1 := rfl
            omega
          clear hpn
          rcases hcl with ⟨q, q'⟩ | ⟨q, q'⟩ | ⟨q, q'⟩ | q
          all_goals
            go_wp2_with (first | (go_at_call 35; refine (Tryd.Builder_Len_f w.heap.size w.heap.size _ _ hI2).mono ?_; rintro e w5 ⟨rfl, rfl⟩) | (go_at_call 36; refine (writeByte_any w.heap.size w.heap.size _ _ _ hI2 (by omega) hsz2).mono ?_; rintro e w6 ⟨rfl, q0, b0, k0⟩; rw [H32.out] at q0; have hsz6 := b0.size) | (go_at_call 37; refine (writeRune_any w.heap.size w.heap.size _ _ (by omega) (by omega) _ (.inr q0) (by have := H33.out; omega) (by omega)).mono ?_; rintro e w7 ⟨rfl, q1, b1, k1⟩))
            go_roundw
            case rel => exact (FIN.out _ _ HM2 H34.out (by rw [cells_rune _ c HOK.out] at q1; exact q1) (b0.trans b1) (k0.trans k1)).1
            case measure => exact (FIN.out _ _ HM2 H34.out (by rw [cells_rune _ c HOK.out] at q1; exact q1) (b0.trans b1) (k0.trans k1)).2
        · rw [if_neg hg] at HM2
          have H34 : Hid ((enc p).length ≤ k) := Lib.hid (by omega)
          have hsz : (gap = false) ∨ (gap = true ∧ p = []) := by cases gap <;> simp_all
          clear hg
          rcases hsz with rfl | ⟨rfl, rfl⟩
          · rcases hcl with ⟨q, q'⟩ | ⟨q, q'⟩ | ⟨q, q'⟩ | q
            all_goals
              go_wp2_with (go_at_call 37; refine (writeRune_any w.heap.size w.heap.size _ _ (by omega) (by omega) _ hI2 (by omega) hsz2).mono ?_; rintro e w7 ⟨rfl, q1, b1, k1⟩)
              go_roundw
              case rel => exact (FIN.out _ _ HM2 H34.out (by rw [cells_rune _ c HOK.out] at q1; exact q1) b1 k1).1
              case measure => exact (FIN.out _ _ HM2 H34.out (by rw [cells_rune _ c HOK.out] at q1; exact q1) b1 k1).2
          · have hz0 : (Lib.byteCells (enc ([] : List Nat))).length = 0 := rfl
            rcases hcl with ⟨q, q'⟩ | ⟨q, q'⟩ | ⟨q, q'⟩ | q
            all_goals
              go_wp2_with (first | (go_at_call 35; refine (Tryd.Builder_Len_f w.heap.size w.heap.size _ _ hI2).mono ?_; rintro e w5 ⟨rfl, rfl⟩) | (go_at_call 37; refine (writeRune_any w.heap.size w.heap.size _ _ (by omega) (by omega) _ hI2 (by omega) hsz2).mono ?_; rintro e w7 ⟨rfl, q1, b1, k1⟩))
              go_roundw
              case rel => exact (FIN.out _ _ HM2 H34.out (by rw [cells_rune _ c HOK.out] at q1; exact q1) b1 k1).1
              case measure => exact (FIN.out _ _ HM2 H34.out (by rw [cells_rune _ c HOK.out] at q1; exact q1) b1 k1).2
end Go.Proofs.YtieapjdkbigejaaDoor
