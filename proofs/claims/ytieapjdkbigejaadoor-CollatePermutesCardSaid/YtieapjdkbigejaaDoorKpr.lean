/- Walks of package collate's pick, replaced and Key (layer 2). -/
import Derived.Test.YtieapjdkbigejaaDoorKln
import Derived.Test.YtieapjdkbigejaaDoorPfd
import Derived.Test.YtieapjdkbigejaaDoorBwb
namespace Go.Proofs.YtieapjdkbigejaaDoor
open Go Go.RowKit

set_option maxRecDepth 100000 in
set_option maxHeartbeats 1000000 in
theorem pick_hit (c l s : Int) (t : ByteArray) (w : World) (h : c = l ∨ c = s) :
    Calls Tryd.prog 57 #[.int .i32 c, .int .i32 l, .int .i32 s, .string t] w fun e w' => e = .returned (.string t) ∧ w = w' := by
  by_cases h1 : c = l
  · have g1 : (c == l) = true := by rw [beq_iff_eq]; exact h1
    clear h h1
    go_enter Tryd.func57, Tryd.ntmps57
    go_wp2
    go_ret
    exact ⟨rfl, rfl⟩
  · have g1 : (c == l) = false := by rw [beq_eq_false_iff_ne]; exact h1
    have g2 : (c == s) = true := by rw [beq_iff_eq]; omega
    clear h h1
    go_enter Tryd.func57, Tryd.ntmps57
    go_wp2
    go_ret
    exact ⟨rfl, rfl⟩
set_option maxRecDepth 100000 in
set_option maxHeartbeats 1000000 in
theorem pick_miss (c l s : Int) (t : ByteArray) (w : World) (h1 : c ≠ l) (h2 : c ≠ s) :
    Calls Tryd.prog 57 #[.int .i32 c, .int .i32 l, .int .i32 s, .string t] w fun e w' => e = .returned (.string ⟨#[]⟩) ∧ w = w' := by
  have g1 : (c == l) = false := by rw [beq_eq_false_iff_ne]; exact h1
  have g2 : (c == s) = false := by rw [beq_eq_false_iff_ne]; exact h2
  clear h1 h2
  go_enter Tryd.func57, Tryd.ntmps57
  go_wp2
  go_ret
  exact ⟨rfl, rfl⟩
theorem cells_byte (p : List Nat) (c : Nat) (h : c < 128) : Lib.byteCells (enc p) ++ [Value.int .u8 (c : Int)] = Lib.byteCells (enc (p ++ [c])) := by
  rw [enc_append, Lib.byteCells_append]
  congr 1
  have e : enc [c] = [UInt8.ofNat c] := by rw [enc_cons, enc_nil, List.append_nil]; unfold enc1; rw [if_pos h]
  rw [e]
  simp [Lib.byteCells]
  omega
theorem cells_32 (p : List Nat) : Lib.byteCells (enc p) ++ [Value.int .u8 32] = Lib.byteCells (enc (p ++ [32])) := cells_byte p 32 (by decide)

set_option maxRecDepth 100000 in
set_option maxHeartbeats 8000000 in
theorem preplaced (lang : ByteArray) (cs : List Nat) (w : World) (hok : okt cs = true) (hs : (bs cs).size ≤ 1000000) :
    Calls Tryd.prog 34 #[.string lang, .string (bs cs)] w fun e w' => e = .returned (.string (bs (replA (lcode lang) cs))) ∧ Below w.heap.size w w' := by
  obtain ⟨m, hm⟩ : ∃ m, m = lcode lang := ⟨_, rfl⟩
  have hlc := lang_cases lang
  rw [← hm] at hlc ⊢
  have HLC := Lib.hid hlc
  clear hlc hm
  obtain ⟨A, hA⟩ : ∃ A, A = replA m cs := ⟨_, rfl⟩
  rw [← hA]
  have HA := Lib.hid hA; clear hA
  go_enter Tryd.func34, Tryd.ntmps34
  go_wp2
  go_loopw [] (fun wr => ∃ (k : Nat) (r p : List Nat), At cs k r ∧ Hid (A = p ++ replA m r) ∧ (bs p).size ≤ k ∧ IsB w.heap.size w.heap.size (Lib.byteCells (enc p)) wr ∧ wr.heap[w.heap.size + 1]? = some (.stringIter (bs cs) k) ∧ Below w.heap.size w wr) (fun wr => (bs cs).size - wr.iterPos (w.heap.size + 1))
  case atStart =>
    refine ⟨0, cs, [], At.start cs, HA, by rw [bs_size, enc_nil]; simp, (Lib.IsBuilderF.of (Lib.fresh_isBuilder 48 5 w)).alloc _, ?_, ((Below.refl _ w).alloc (Nat.le_refl _) _).alloc (by simp) _⟩
    have := World.iter_heap (w.alloc (.cells #[.pointer none, .slice none 0 0] 48)) (bs cs) 0
    simpa using this
  case round =>
    obtain ⟨k, r, p, hat, HM, hp, hI, hit, hbw⟩ := hrel
    have hsz : w.heap.size + 1 < wr.heap.size := lt_of_block hit
    have hlen := Lib.byteCells_length (enc p)
    have hkk := hat.le
    have hbk : k ≤ (bs cs).size := by omega
    have hpe : (Lib.byteCells (enc p)).length ≤ 1000000 := by rw [hlen, ← bs_size]; omega
    clear hlen hkk HA
    cases r with
    | nil =>
      have hnx := fun ty => next_end_at wr (w.heap.size + 1) hit hat ty
      have H : Hid (A = p) := Lib.hid (by rw [HM.out]; simp [replA])
      clear HM
      go_wp2_with (go_at_call 38; refine (Tryd.Builder_String_any_k w.heap.size w.heap.size (enc p) _ hI (by omega)).mono ?_; rintro e w2 ⟨rfl, _, b1, _⟩)
      go_ret
      exact ⟨by rw [H.out]; rfl, hbw.trans b1⟩
    | cons c r =>
      obtain ⟨h1, h2⟩ := hat.lt
      have h3 := enc1_len c
      have hc := hat.okc hok
      obtain ⟨hc1, hc2⟩ := okc_small hc
      have HM2 : Hid (A = (p ++ repl m c) ++ replA m r) := Lib.hid (by rw [HM.out, List.append_assoc]; rfl)
      clear HM
      have hnx := fun ty => next_char_at wr (w.heap.size + 1) hit hat hok ty
      have hI2 := hI.iterAt hit (k + (enc1 c).length)
      have hit2 := Lib.iterAt_heap wr (w.heap.size + 1) (bs cs) k (k + (enc1 c).length) hit
      have hbw2 := Lib.below_iterAt hbw (k := w.heap.size + 1) (by omega) (bs cs) (k + (enc1 c).length)
      have hsz2 : w.heap.size ≤ (wr.iterAt (w.heap.size + 1) (bs cs) (k + (enc1 c).length)).heap.size := by rw [Lib.iterAt_size]; omega
      have HIT := Lib.hid hit
      have HIT2 := Lib.hid hit2
      have HOK := Lib.hid hc
      have hrl := (repl_ok m c hc).2
      clear hit hit2 hI hc
      -- what closes a round
      have fin : ∀ (x : List Nat) (W2 : World), Hid (repl m c = x) → AtB w.heap.size w.heap.size (Lib.byteCells (enc (p ++ x))) W2 → Below w.heap.size (wr.iterAt (w.heap.size + 1) (bs cs) (k + (enc1 c).length)) W2 → Lib.OthersKept 5 (some w.heap.size) (wr.iterAt (w.heap.size + 1) (bs cs) (k + (enc1 c).length)) W2 →
          (∃ (k : Nat) (r p : List Nat), At cs k r ∧ Hid (A = p ++ replA m r) ∧ (bs p).size ≤ k ∧ IsB w.heap.size w.heap.size (Lib.byteCells (enc p)) W2 ∧ W2.heap[w.heap.size + 1]? = some (.stringIter (bs cs) k) ∧ Below w.heap.size w W2) ∧
          (bs cs).size - W2.iterPos (w.heap.size + 1) < (bs cs).size - wr.iterPos (w.heap.size + 1) := by
        intro x W2 hx g1 b1 k1
        have hx2 := hx.out
        refine ⟨⟨k + (enc1 c).length, r, p ++ repl m c, hat.next, HM2, ?_, ?_, k1.iter HIT2.out (by omega), hbw2.trans b1⟩, ?_⟩
        · rw [bs_size, enc_append, List.length_append]; rw [bs_size] at hp; omega
        · rw [hx2]; exact .inr g1
        · simp only [World.iterPos, k1.iter HIT2.out (by omega), HIT.out]
          omega
      have FIN := Lib.hid fin
      clear fin
      by_cases hb : 123 ≤ c ∧ c ≤ 126
      · obtain ⟨hb1, hb2⟩ := hb
        have HX : Hid (repl m c = [32]) := Lib.hid (by unfold repl; rw [if_pos ⟨hb1, hb2⟩])
        rcases HLC.out with ⟨g0, g1⟩ | ⟨g0, g1, g2⟩ | ⟨g0, g1, g2, g3⟩ | ⟨g0, g1, g2, g3⟩
        all_goals
          go_wp2_with (first | (go_at_call 57; refine (pick_miss _ _ _ _ _ (by omega) (by omega)).mono ?_; rintro e w1 ⟨rfl, rfl⟩) | (go_at_call 36; refine (writeByte_any w.heap.size w.heap.size _ _ _ hI2 (by omega) hsz2).mono ?_; rintro e w2 ⟨rfl, q1, b1, k1⟩))
          exact FIN.out [32] _ HX (by rw [cells_32 p] at q1; exact q1) b1 k1
      · have hb' : c < 123 ∨ 126 < c := by omega
        rcases HLC.out with ⟨g0, g1⟩ | ⟨g0, g1, g2⟩ | ⟨g0, g1, g2, g3⟩ | ⟨g0, g1, g2, g3⟩
        · rcases (by omega : (c = 196 ∨ c = 228) ∨ (c = 214 ∨ c = 246) ∨ (c = 220 ∨ c = 252) ∨ (c ≠ 196 ∧ c ≠ 228 ∧ c ≠ 214 ∧ c ≠ 246 ∧ c ≠ 220 ∧ c ≠ 252)) with h | h | h | h
          · have HX : Hid (repl m c = [97, 101]) := Lib.hid (by unfold repl; rw [if_neg hb, if_pos g0, if_pos h])
            have hw : (⟨#[97, 101]⟩ : ByteArray) ++ (⟨#[]⟩ : ByteArray) ++ (⟨#[]⟩ : ByteArray) = (⟨#[97, 101]⟩ : ByteArray) := by decide
            have he : (⟨#[97, 101]⟩ : ByteArray).toList.isEmpty = false := by rw [ByteArray.toList_eq]; rfl
            have HZ : Hid ((⟨#[97, 101]⟩ : ByteArray).size = 2) := Lib.hid rfl
            have h' : (196 : Nat) ≤ c ∧ c ≤ 228 := by omega
            clear g0 hb
            go_wp2_with (first | (go_at_call 57; refine (pick_hit _ _ _ _ _ (by omega)).mono ?_; rintro e w1 ⟨rfl, rfl⟩) | (go_at_call 57; refine (pick_miss _ _ _ _ _ (by omega) (by omega)).mono ?_; rintro e w1 ⟨rfl, rfl⟩) | (go_at_call 52; refine (writeString_any w.heap.size w.heap.size _ _ _ hI2 (by rw [HZ.out]; omega) hsz2).mono ?_; rintro e w2 ⟨rfl, q1, b1, k1⟩))
            exact FIN.out _ _ HX (by rw [show (⟨#[97, 101]⟩ : ByteArray) = bs [97, 101] from rfl, cells_str] at q1; exact q1) b1 k1
          · have HX : Hid (repl m c = [111, 101]) := Lib.hid (by unfold repl; rw [if_neg hb, if_pos g0, if_neg (by omega), if_pos h])
            have hw : (⟨#[]⟩ : ByteArray) ++ (⟨#[111, 101]⟩ : ByteArray) ++ (⟨#[]⟩ : ByteArray) = (⟨#[111, 101]⟩ : ByteArray) := by decide
            have he : (⟨#[111, 101]⟩ : ByteArray).toList.isEmpty = false := by rw [ByteArray.toList_eq]; rfl
            have HZ : Hid ((⟨#[111, 101]⟩ : ByteArray).size = 2) := Lib.hid rfl
            have h' : (214 : Nat) ≤ c ∧ c ≤ 246 := by omega
            clear g0 hb
            go_wp2_with (first | (go_at_call 57; refine (pick_hit _ _ _ _ _ (by omega)).mono ?_; rintro e w1 ⟨rfl, rfl⟩) | (go_at_call 57; refine (pick_miss _ _ _ _ _ (by omega) (by omega)).mono ?_; rintro e w1 ⟨rfl, rfl⟩) | (go_at_call 52; refine (writeString_any w.heap.size w.heap.size _ _ _ hI2 (by rw [HZ.out]; omega) hsz2).mono ?_; rintro e w2 ⟨rfl, q1, b1, k1⟩))
            exact FIN.out _ _ HX (by rw [show (⟨#[111, 101]⟩ : ByteArray) = bs [111, 101] from rfl, cells_str] at q1; exact q1) b1 k1
          · have HX : Hid (repl m c = [117, 101]) := Lib.hid (by unfold repl; rw [if_neg hb, if_pos g0, if_neg (by omega), if_neg (by omega), if_pos h])
            have hw : (⟨#[]⟩ : ByteArray) ++ (⟨#[]⟩ : ByteArray) ++ (⟨#[117, 101]⟩ : ByteArray) = (⟨#[117, 101]⟩ : ByteArray) := by decide
            have he : (⟨#[117, 101]⟩ : ByteArray).toList.isEmpty = false := by rw [ByteArray.toList_eq]; rfl
            have HZ : Hid ((⟨#[117, 101]⟩ : ByteArray).size = 2) := Lib.hid rfl
            have h' : (220 : Nat) ≤ c ∧ c ≤ 252 := by omega
            clear g0 hb
            go_wp2_with (first | (go_at_call 57; refine (pick_hit _ _ _ _ _ (by omega)).mono ?_; rintro e w1 ⟨rfl, rfl⟩) | (go_at_call 57; refine (pick_miss _ _ _ _ _ (by omega) (by omega)).mono ?_; rintro e w1 ⟨rfl, rfl⟩) | (go_at_call 52; refine (writeString_any w.heap.size w.heap.size _ _ _ hI2 (by rw [HZ.out]; omega) hsz2).mono ?_; rintro e w2 ⟨rfl, q1, b1, k1⟩))
            exact FIN.out _ _ HX (by rw [show (⟨#[117, 101]⟩ : ByteArray) = bs [117, 101] from rfl, cells_str] at q1; exact q1) b1 k1
          · have HX : Hid (repl m c = [c]) := Lib.hid (by unfold repl; rw [if_neg hb, if_pos g0, if_neg (by omega), if_neg (by omega), if_neg (by omega)])
            have hw : (⟨#[]⟩ : ByteArray) ++ (⟨#[]⟩ : ByteArray) ++ (⟨#[]⟩ : ByteArray) = (⟨#[]⟩ : ByteArray) := by decide
            have he : (⟨#[]⟩ : ByteArray).toList.isEmpty = true := by rw [ByteArray.toList_eq]; rfl
            clear g0 hb
            rcases hb' with h' | h'
            all_goals
              go_wp2_with (first | (go_at_call 57; refine (pick_hit _ _ _ _ _ (by omega)).mono ?_; rintro e w1 ⟨rfl, rfl⟩) | (go_at_call 57; refine (pick_miss _ _ _ _ _ (by omega) (by omega)).mono ?_; rintro e w1 ⟨rfl, rfl⟩) | (go_at_call 37; refine (writeRune_any w.heap.size w.heap.size _ _ (by omega) (by omega) _ hI2 (by omega) hsz2).mono ?_; rintro e w2 ⟨rfl, q1, b1, k1⟩))
              exact FIN.out _ _ HX (by rw [cells_rune p c HOK.out] at q1; exact q1) b1 k1
        · rcases (by omega : (c = 197 ∨ c = 229) ∨ (c = 196 ∨ c = 228) ∨ (c = 214 ∨ c = 246) ∨ (c ≠ 197 ∧ c ≠ 229 ∧ c ≠ 196 ∧ c ≠ 228 ∧ c ≠ 214 ∧ c ≠ 246)) with h | h | h | h
          · have HX : Hid (repl m c = [123]) := Lib.hid (by unfold repl; rw [if_neg hb, if_neg (by omega), if_pos g0, if_pos h])
            have hw : (⟨#[123]⟩ : ByteArray) ++ (⟨#[]⟩ : ByteArray) ++ (⟨#[]⟩ : ByteArray) = (⟨#[123]⟩ : ByteArray) := by decide
            have he : (⟨#[123]⟩ : ByteArray).toList.isEmpty = false := by rw [ByteArray.toList_eq]; rfl
            have HZ : Hid ((⟨#[123]⟩ : ByteArray).size = 1) := Lib.hid rfl
            have h' : (197 : Nat) ≤ c ∧ c ≤ 229 := by omega
            clear g0 hb
            go_wp2_with (first | (go_at_call 57; refine (pick_hit _ _ _ _ _ (by omega)).mono ?_; rintro e w1 ⟨rfl, rfl⟩) | (go_at_call 57; refine (pick_miss _ _ _ _ _ (by omega) (by omega)).mono ?_; rintro e w1 ⟨rfl, rfl⟩) | (go_at_call 52; refine (writeString_any w.heap.size w.heap.size _ _ _ hI2 (by rw [HZ.out]; omega) hsz2).mono ?_; rintro e w2 ⟨rfl, q1, b1, k1⟩))
            exact FIN.out _ _ HX (by rw [show (⟨#[123]⟩ : ByteArray) = bs [123] from rfl, cells_str] at q1; exact q1) b1 k1
          · have HX : Hid (repl m c = [124]) := Lib.hid (by unfold repl; rw [if_neg hb, if_neg (by omega), if_pos g0, if_neg (by omega), if_pos h])
            have hw : (⟨#[]⟩ : ByteArray) ++ (⟨#[124]⟩ : ByteArray) ++ (⟨#[]⟩ : ByteArray) = (⟨#[124]⟩ : ByteArray) := by decide
            have he : (⟨#[124]⟩ : ByteArray).toList.isEmpty = false := by rw [ByteArray.toList_eq]; rfl
            have HZ : Hid ((⟨#[124]⟩ : ByteArray).size = 1) := Lib.hid rfl
            have h' : (196 : Nat) ≤ c ∧ c ≤ 228 := by omega
            clear g0 hb
            go_wp2_with (first | (go_at_call 57; refine (pick_hit _ _ _ _ _ (by omega)).mono ?_; rintro e w1 ⟨rfl, rfl⟩) | (go_at_call 57; refine (pick_miss _ _ _ _ _ (by omega) (by omega)).mono ?_; rintro e w1 ⟨rfl, rfl⟩) | (go_at_call 52; refine (writeString_any w.heap.size w.heap.size _ _ _ hI2 (by rw [HZ.out]; omega) hsz2).mono ?_; rintro e w2 ⟨rfl, q1, b1, k1⟩))
            exact FIN.out _ _ HX (by rw [show (⟨#[124]⟩ : ByteArray) = bs [124] from rfl, cells_str] at q1; exact q1) b1 k1
          · have HX : Hid (repl m c = [125]) := Lib.hid (by unfold repl; rw [if_neg hb, if_neg (by omega), if_pos g0, if_neg (by omega), if_neg (by omega), if_pos h])
            have hw : (⟨#[]⟩ : ByteArray) ++ (⟨#[]⟩ : ByteArray) ++ (⟨#[125]⟩ : ByteArray) = (⟨#[125]⟩ : ByteArray) := by decide
            have he : (⟨#[125]⟩ : ByteArray).toList.isEmpty = false := by rw [ByteArray.toList_eq]; rfl
            have HZ : Hid ((⟨#[125]⟩ : ByteArray).size = 1) := Lib.hid rfl
            have h' : (214 : Nat) ≤ c ∧ c ≤ 246 := by omega
            clear g0 hb
            go_wp2_with (first | (go_at_call 57; refine (pick_hit _ _ _ _ _ (by omega)).mono ?_; rintro e w1 ⟨rfl, rfl⟩) | (go_at_call 57; refine (pick_miss _ _ _ _ _ (by omega) (by omega)).mono ?_; rintro e w1 ⟨rfl, rfl⟩) | (go_at_call 52; refine (writeString_any w.heap.size w.heap.size _ _ _ hI2 (by rw [HZ.out]; omega) hsz2).mono ?_; rintro e w2 ⟨rfl, q1, b1, k1⟩))
            exact FIN.out _ _ HX (by rw [show (⟨#[125]⟩ : ByteArray) = bs [125] from rfl, cells_str] at q1; exact q1) b1 k1
          · have HX : Hid (repl m c = [c]) := Lib.hid (by unfold repl; rw [if_neg hb, if_neg (by omega), if_pos g0, if_neg (by omega), if_neg (by omega), if_neg (by omega)])
            have hw : (⟨#[]⟩ : ByteArray) ++ (⟨#[]⟩ : ByteArray) ++ (⟨#[]⟩ : ByteArray) = (⟨#[]⟩ : ByteArray) := by decide
            have he : (⟨#[]⟩ : ByteArray).toList.isEmpty = true := by rw [ByteArray.toList_eq]; rfl
            clear g0 hb
            rcases hb' with h' | h'
            all_goals
              go_wp2_with (first | (go_at_call 57; refine (pick_hit _ _ _ _ _ (by omega)).mono ?_; rintro e w1 ⟨rfl, rfl⟩) | (go_at_call 57; refine (pick_miss _ _ _ _ _ (by omega) (by omega)).mono ?_; rintro e w1 ⟨rfl, rfl⟩) | (go_at_call 37; refine (writeRune_any w.heap.size w.heap.size _ _ (by omega) (by omega) _ hI2 (by omega) hsz2).mono ?_; rintro e w2 ⟨rfl, q1, b1, k1⟩))
              exact FIN.out _ _ HX (by rw [cells_rune p c HOK.out] at q1; exact q1) b1 k1
        · rcases (by omega : (c = 209 ∨ c = 241) ∨ (c ≠ 209 ∧ c ≠ 241)) with h | h
          · have HX : Hid (repl m c = [110, 126]) := Lib.hid (by unfold repl; rw [if_neg hb, if_neg (by omega), if_neg (by omega), if_pos g0, if_pos h])
            have he : (⟨#[110, 126]⟩ : ByteArray).toList.isEmpty = false := by rw [ByteArray.toList_eq]; rfl
            have HZ : Hid ((⟨#[110, 126]⟩ : ByteArray).size = 2) := Lib.hid rfl
            have h' : (209 : Nat) ≤ c ∧ c ≤ 241 := by omega
            clear g0 hb
            go_wp2_with (first | (go_at_call 57; refine (pick_hit _ _ _ _ _ (by omega)).mono ?_; rintro e w1 ⟨rfl, rfl⟩) | (go_at_call 57; refine (pick_miss _ _ _ _ _ (by omega) (by omega)).mono ?_; rintro e w1 ⟨rfl, rfl⟩) | (go_at_call 52; refine (writeString_any w.heap.size w.heap.size _ _ _ hI2 (by rw [HZ.out]; omega) hsz2).mono ?_; rintro e w2 ⟨rfl, q1, b1, k1⟩))
            exact FIN.out _ _ HX (by rw [show (⟨#[110, 126]⟩ : ByteArray) = bs [110, 126] from rfl, cells_str] at q1; exact q1) b1 k1
          · have HX : Hid (repl m c = [c]) := Lib.hid (by unfold repl; rw [if_neg hb, if_neg (by omega), if_neg (by omega), if_pos g0, if_neg (by omega)])
            have he : (⟨#[]⟩ : ByteArray).toList.isEmpty = true := by rw [ByteArray.toList_eq]; rfl
            clear g0 hb
            rcases hb' with h' | h'
            all_goals
              go_wp2_with (first | (go_at_call 57; refine (pick_hit _ _ _ _ _ (by omega)).mono ?_; rintro e w1 ⟨rfl, rfl⟩) | (go_at_call 57; refine (pick_miss _ _ _ _ _ (by omega) (by omega)).mono ?_; rintro e w1 ⟨rfl, rfl⟩) | (go_at_call 37; refine (writeRune_any w.heap.size w.heap.size _ _ (by omega) (by omega) _ hI2 (by omega) hsz2).mono ?_; rintro e w2 ⟨rfl, q1, b1, k1⟩))
              exact FIN.out _ _ HX (by rw [cells_rune p c HOK.out] at q1; exact q1) b1 k1
        · have HX : Hid (repl m c = [c]) := Lib.hid (by unfold repl; rw [if_neg hb, if_neg (by omega), if_neg (by omega), if_neg (by omega)])
          have he : (⟨#[]⟩ : ByteArray).toList.isEmpty = true := by rw [ByteArray.toList_eq]; rfl
          clear g0 hb
          rcases hb' with h' | h'
          all_goals
            go_wp2_with (first | (go_at_call 37; refine (writeRune_any w.heap.size w.heap.size _ _ (by omega) (by omega) _ hI2 (by omega) hsz2).mono ?_; rintro e w2 ⟨rfl, q1, b1, k1⟩))
            exact FIN.out _ _ HX (by rw [cells_rune p c HOK.out] at q1; exact q1) b1 k1
end Go.Proofs.YtieapjdkbigejaaDoor
