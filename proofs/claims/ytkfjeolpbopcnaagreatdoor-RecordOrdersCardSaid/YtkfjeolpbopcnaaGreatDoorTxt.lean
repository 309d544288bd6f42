/- Plain Lean: texts as lists of characters (code points); what folding, cleaning, clipping and dividing into words are on them; the bytes of a text. No program in sight. -/
import Derived.Lib.RuneCount
import Derived.Lib.FieldsP
import Derived.Lib.ValidLaws
import Derived.Lib.RuneBytes
import Derived.Lib.Join
namespace Go.Proofs.YtkfjeolpbopcnaaGreatDoor
open Go

/-- May a character stand in a text? -/
def okc (c : Nat) : Bool := (32 ≤ c && c < 127) || (160 ≤ c && c < 55296) || (57344 ≤ c && c < 65536)
/-- The bytes of a character. -/
def enc1 (c : Nat) : List UInt8 :=
  if c < 128 then [UInt8.ofNat c]
  else if c < 2048 then [UInt8.ofNat (192 + c / 64), UInt8.ofNat (128 + c % 64)]
  else [UInt8.ofNat (224 + c / 4096), UInt8.ofNat (128 + c / 64 % 64), UInt8.ofNat (128 + c % 64)]
def enc (cs : List Nat) : List UInt8 := cs.flatMap enc1
def bs (cs : List Nat) : ByteArray := ⟨(enc cs).toArray⟩
def okt (cs : List Nat) : Bool := cs.all okc

theorem okc_iff (c : Nat) : okc c = true ↔ (32 ≤ c ∧ c < 127) ∨ (160 ≤ c ∧ c < 55296) ∨ (57344 ≤ c ∧ c < 65536) := by
  unfold okc
  simp only [Bool.or_eq_true, Bool.and_eq_true, decide_eq_true_eq]
  omega

theorem bs_data (cs : List Nat) : (bs cs).data.toList = enc cs := by simp [bs]
theorem bs_size (cs : List Nat) : (bs cs).size = (enc cs).length := by simp [bs, ByteArray.size]
theorem enc_nil : enc [] = [] := rfl
theorem enc_cons (c : Nat) (r : List Nat) : enc (c :: r) = enc1 c ++ enc r := by simp [enc]
theorem enc_append (a b : List Nat) : enc (a ++ b) = enc a ++ enc b := by simp [enc]
attribute [local simp] bs_data bs_size enc_nil enc_cons enc_append
theorem enc1_len (c : Nat) : 1 ≤ (enc1 c).length ∧ (enc1 c).length ≤ 3 := by
  unfold enc1; split
  · simp
  · split <;> simp
theorem enc1_ne (c : Nat) : enc1 c ≠ [] := by
  have := enc1_len c
  intro h; rw [h] at this; simp at this
theorem enc_eq_nil {cs : List Nat} (h : enc cs = []) : cs = [] := by
  cases cs with
  | nil => rfl
  | cons c r => simp at h; exact absurd h.1 (enc1_ne c)
theorem len_le_enc (cs : List Nat) : cs.length ≤ (enc cs).length := by
  induction cs with
  | nil => simp
  | cons c r ih => have := enc1_len c; simp; omega
theorem enc_le (cs : List Nat) : (enc cs).length ≤ 3 * cs.length := by
  induction cs with
  | nil => simp
  | cons c r ih => have := enc1_len c; simp; omega

theorem ba_ext {a b : ByteArray} (h : a.data.toList = b.data.toList) : a = b := by
  cases a; cases b; simp at h; cases ‹Array UInt8›; cases ‹Array UInt8›; simp at h; subst h; rfl
theorem ba_of_list (s : ByteArray) (l : List UInt8) (h : s.data.toList = l) : s = ⟨l.toArray⟩ := by
  apply ba_ext; simp [h]

theorem len_data (s : ByteArray) : s.data.toList.length = s.size := by cases s; simp [ByteArray.size]
theorem u8 (n : Nat) (h : n < 256) : (UInt8.ofNat n).toNat = n := by simp; omega

/-! ### decoding -/
theorem decodeN_enc1 (c : Nat) (h : okc c = true) (t : List UInt8) :
    Lib.decodeL (enc1 c ++ t) = (c, (enc1 c).length) := by
  rw [okc_iff] at h
  unfold Lib.decodeL
  unfold enc1
  split
  · rename_i h1
    have e0 : (({ data := ([UInt8.ofNat c] ++ t).toArray } : ByteArray).get! 0).toNat = c := by
      show (([UInt8.ofNat c] ++ t).toArray[0]!).toNat = c
      simp; omega
    simp only [Utf8.decode, Nat.zero_add, e0, if_pos h1]
    simp
  · rename_i h1
    split
    · rename_i h2
      have e0 : (({ data := ([UInt8.ofNat (192 + c / 64), UInt8.ofNat (128 + c % 64)] ++ t).toArray } : ByteArray).get! 0).toNat = 192 + c / 64 := by
        show (([UInt8.ofNat (192 + c / 64), UInt8.ofNat (128 + c % 64)] ++ t).toArray[0]!).toNat = _
        simp; omega
      have e1 : (({ data := ([UInt8.ofNat (192 + c / 64), UInt8.ofNat (128 + c % 64)] ++ t).toArray } : ByteArray).get! 1).toNat = 128 + c % 64 := by
        show (([UInt8.ofNat (192 + c / 64), UInt8.ofNat (128 + c % 64)] ++ t).toArray[1]!).toNat = _
        simp; omega
      have z : ({ data := ([UInt8.ofNat (192 + c / 64), UInt8.ofNat (128 + c % 64)] ++ t).toArray } : ByteArray).size = 2 + t.length := by
        simp [ByteArray.size]; omega
      simp only [Utf8.decode, Nat.zero_add, e0, e1, z]
      rw [if_neg (by omega), if_pos (by simp; omega)]
      rw [if_pos (by omega)]
      simp; omega
    · rename_i h2
      have e0 : (({ data := ([UInt8.ofNat (224 + c / 4096), UInt8.ofNat (128 + c / 64 % 64), UInt8.ofNat (128 + c % 64)] ++ t).toArray } : ByteArray).get! 0).toNat = 224 + c / 4096 := by
        show (([UInt8.ofNat (224 + c / 4096), UInt8.ofNat (128 + c / 64 % 64), UInt8.ofNat (128 + c % 64)] ++ t).toArray[0]!).toNat = _
        simp; omega
      have e1 : (({ data := ([UInt8.ofNat (224 + c / 4096), UInt8.ofNat (128 + c / 64 % 64), UInt8.ofNat (128 + c % 64)] ++ t).toArray } : ByteArray).get! 1).toNat = 128 + c / 64 % 64 := by
        show (([UInt8.ofNat (224 + c / 4096), UInt8.ofNat (128 + c / 64 % 64), UInt8.ofNat (128 + c % 64)] ++ t).toArray[1]!).toNat = _
        simp; omega
      have e2 : (({ data := ([UInt8.ofNat (224 + c / 4096), UInt8.ofNat (128 + c / 64 % 64), UInt8.ofNat (128 + c % 64)] ++ t).toArray } : ByteArray).get! 2).toNat = 128 + c % 64 := by
        show (([UInt8.ofNat (224 + c / 4096), UInt8.ofNat (128 + c / 64 % 64), UInt8.ofNat (128 + c % 64)] ++ t).toArray[2]!).toNat = _
        simp; omega
      have z : ({ data := ([UInt8.ofNat (224 + c / 4096), UInt8.ofNat (128 + c / 64 % 64), UInt8.ofNat (128 + c % 64)] ++ t).toArray } : ByteArray).size = 3 + t.length := by
        simp [ByteArray.size]; omega
      have hc : (224 + c / 4096) % 16 * 4096 + (128 + c / 64 % 64) % 64 * 64 + (128 + c % 64) % 64 = c := by omega
      simp only [Utf8.decode, Nat.zero_add, e0, e1, e2, z]
      rw [if_neg (by omega), if_neg (by simp; omega), if_pos (by simp; omega), hc]
      rw [if_pos (by simp [Utf8.valid]; omega)]
      simp

theorem decode_at (pre : List Nat) (c : Nat) (post : List Nat) (h : okc c = true) :
    Utf8.decode (bs (pre ++ c :: post)) (enc pre).length = (c, (enc1 c).length) := by
  rw [← Lib.decodeL_drop, bs_data, enc_append, enc_cons, List.drop_left, decodeN_enc1 c h]

/-! ### the reference's decode, on the bytes that are left -/
def rdec (l : List UInt8) : Nat × Nat :=
  let a := (l.getD 0 0).toNat
  let b := (l.getD 1 0).toNat
  let c := (l.getD 2 0).toNat
  if 32 ≤ a ∧ a < 127 then (a, 1)
  else if 194 ≤ a ∧ a < 224 ∧ 1 < l.length ∧ 128 ≤ b ∧ b < 192 then
    (if 160 ≤ (a - 192) * 64 + b - 128 then ((a - 192) * 64 + b - 128, 2) else (0, 0))
  else if 224 ≤ a ∧ a < 240 ∧ 2 < l.length ∧ 128 ≤ b ∧ b < 192 ∧ 128 ≤ c ∧ c < 192 then
    (if 2048 ≤ (a - 224) * 4096 + (b - 128) * 64 + c - 128 ∧ ((a - 224) * 4096 + (b - 128) * 64 + c - 128 < 55296 ∨ 57343 < (a - 224) * 4096 + (b - 128) * 64 + c - 128)
      then ((a - 224) * 4096 + (b - 128) * 64 + c - 128, 3) else (0, 0))
  else (0, 0)

theorem at_drop (s : ByteArray) (i k : Nat) (h : i + k < s.size) : (s.data.toList.drop i).getD k 0 = s[i + k]'h := by
  have h2 : i + k < s.data.toList.length := by rw [len_data]; exact h
  simp only [List.getD_eq_getElem?_getD, List.getElem?_drop, List.getElem?_eq_getElem h2, Option.getD_some]
  rw [Array.getElem_toList]; rfl

theorem rdec_enc1 (c : Nat) (h : okc c = true) (t : List UInt8) : rdec (enc1 c ++ t) = (c, (enc1 c).length) := by
  rw [okc_iff] at h
  unfold enc1
  split
  · rename_i h1
    have e0 : (([UInt8.ofNat c] ++ t).getD 0 0).toNat = c := by simp; omega
    unfold rdec
    simp only [e0]
    rw [if_pos (by omega)]; rfl
  · rename_i h1
    split
    · have e0 : (([UInt8.ofNat (192 + c / 64), UInt8.ofNat (128 + c % 64)] ++ t).getD 0 0).toNat = 192 + c / 64 := by simp; omega
      have e1 : (([UInt8.ofNat (192 + c / 64), UInt8.ofNat (128 + c % 64)] ++ t).getD 1 0).toNat = 128 + c % 64 := by simp; omega
      unfold rdec
      simp only [e0, e1]
      rw [if_neg (by omega), if_pos (by simp; omega), if_pos (by omega)]
      simp; omega
    · have e0 : (([UInt8.ofNat (224 + c / 4096), UInt8.ofNat (128 + c / 64 % 64), UInt8.ofNat (128 + c % 64)] ++ t).getD 0 0).toNat = 224 + c / 4096 := by simp; omega
      have e1 : (([UInt8.ofNat (224 + c / 4096), UInt8.ofNat (128 + c / 64 % 64), UInt8.ofNat (128 + c % 64)] ++ t).getD 1 0).toNat = 128 + c / 64 % 64 := by simp; omega
      have e2 : (([UInt8.ofNat (224 + c / 4096), UInt8.ofNat (128 + c / 64 % 64), UInt8.ofNat (128 + c % 64)] ++ t).getD 2 0).toNat = 128 + c % 64 := by simp; omega
      unfold rdec
      simp only [e0, e1, e2]
      have hc : (224 + c / 4096 - 224) * 4096 + (128 + c / 64 % 64 - 128) * 64 + (128 + c % 64) - 128 = c := by omega
      rw [if_neg (by omega), if_neg (by omega), if_pos (by simp; omega), hc, if_pos (by omega)]
      rfl

theorem encodeRune_ok (c : Nat) (hk : okc c = true) : Lib.encodeRune (c : Int) = enc1 c := by
  rw [okc_iff] at hk
  unfold enc1 Lib.encodeRune
  split
  · rw [Lib.encodeRuneZ_one (by omega) (by omega)]
    rfl
  · split
    · rw [Lib.encodeRuneZ_two (by omega) (by omega)]
      show [UInt8.ofNat _, UInt8.ofNat _] = _
      rw [show ((192 : Int) + (c : Int) / 64).toNat = 192 + c / 64 by omega, show ((128 : Int) + (c : Int) % 64).toNat = 128 + c % 64 by omega]
    · rw [Lib.encodeRuneZ_three (by omega)]
      show [UInt8.ofNat _, UInt8.ofNat _, UInt8.ofNat _] = _
      rw [show ((224 : Int) + (c : Int) / 4096).toNat = 224 + c / 4096 by omega, show ((128 : Int) + (c : Int) / 64 % 64).toNat = 128 + c / 64 % 64 by omega, show ((128 : Int) + (c : Int) % 64).toNat = 128 + c % 64 by omega]

theorem rdec_inv (l : List UInt8) (hl : l ≠ []) (h : (rdec l).2 ≠ 0) :
    okc (rdec l).1 = true ∧ (rdec l).2 = (enc1 (rdec l).1).length ∧ l = enc1 (rdec l).1 ++ l.drop (rdec l).2 := by
  match l, hl with
  | x :: r, _ =>
    have hx := x.toNat_lt
    have hxx : UInt8.ofNat x.toNat = x := by simp
    unfold rdec at h ⊢
    simp only [List.getD_cons_zero] at h ⊢
    split at h
    · rename_i h1
      rw [if_pos h1]
      refine ⟨by rw [okc_iff]; omega, ?_, ?_⟩
      · simp only [enc1]; rw [if_pos (by omega)]; rfl
      · simp only [enc1]; rw [if_pos (by omega), hxx]; rfl
    · rename_i h1
      rw [if_neg h1]
      split at h
      · rename_i h2
        rw [if_pos h2]
        rcases r with _ | ⟨y, r'⟩
        · exact absurd h2.2.2.1 (by simp)
        · 
          have hyy : UInt8.ofNat y.toNat = y := by simp
          simp only [List.getD_cons_succ, List.getD_cons_zero] at h h2 ⊢
          split at h
          · rename_i h3
            rw [if_pos h3]
            have q1 : 192 + ((x.toNat - 192) * 64 + y.toNat - 128) / 64 = x.toNat := by omega
            have q2 : 128 + ((x.toNat - 192) * 64 + y.toNat - 128) % 64 = y.toNat := by omega
            refine ⟨by rw [okc_iff]; simp only; omega, ?_, ?_⟩
            · simp only [enc1]; rw [if_neg (by omega), if_pos (by omega)]; rfl
            · simp only [enc1]; rw [if_neg (by omega), if_pos (by omega), q1, q2, hxx, hyy]; rfl
          · simp at h
      · rename_i h2
        rw [if_neg h2]
        split at h
        · rename_i h3
          rw [if_pos h3]
          rcases r with _ | ⟨y, _ | ⟨z, r'⟩⟩
          · exact absurd h3.2.2.1 (by simp)
          · exact absurd h3.2.2.1 (by simp)
          · 
            have hyy : UInt8.ofNat y.toNat = y := by simp
            have hzz : UInt8.ofNat z.toNat = z := by simp
            simp only [List.getD_cons_succ, List.getD_cons_zero] at h h3 ⊢
            split at h
            · rename_i h4
              rw [if_pos h4]
              have q1 : 224 + ((x.toNat - 224) * 4096 + (y.toNat - 128) * 64 + z.toNat - 128) / 4096 = x.toNat := by omega
              have q2 : 128 + ((x.toNat - 224) * 4096 + (y.toNat - 128) * 64 + z.toNat - 128) / 64 % 64 = y.toNat := by omega
              have q3 : 128 + ((x.toNat - 224) * 4096 + (y.toNat - 128) * 64 + z.toNat - 128) % 64 = z.toNat := by omega
              refine ⟨by rw [okc_iff]; simp only; omega, ?_, ?_⟩
              · simp only [enc1]; rw [if_neg (by omega), if_neg (by omega)]; rfl
              · simp only [enc1]; rw [if_neg (by omega), if_neg (by omega), q1, q2, q3, hxx, hyy, hzz]; rfl
            · simp at h
        · simp at h

/-! ### what a text is -/
/-- The bytes are those of a text: character by character. -/
def isTextGo : Nat → List UInt8 → Bool
  | 0, l => l.isEmpty
  | n + 1, l => if l = [] then true else if (rdec l).2 = 0 then false else isTextGo n (l.drop (rdec l).2)
def isText (l : List UInt8) : Bool := isTextGo l.length l
theorem isTextGo_fuel : ∀ (n m : Nat) (l : List UInt8), l.length ≤ n → l.length ≤ m → isTextGo n l = isTextGo m l
  | 0, 0, _, _, _ => rfl
  | 0, m + 1, l, hn, _ => by
    have : l = [] := List.eq_nil_of_length_eq_zero (by omega)
    subst this; rfl
  | n + 1, 0, l, _, hm => by
    have : l = [] := List.eq_nil_of_length_eq_zero (by omega)
    subst this; rfl
  | n + 1, m + 1, l, hn, hm => by
    unfold isTextGo
    by_cases hne : l = []
    · rw [if_pos hne, if_pos hne]
    · rw [if_neg hne, if_neg hne]
      by_cases h0 : (rdec l).2 = 0
      · rw [if_pos h0, if_pos h0]
      · have hl : 0 < l.length := List.length_pos_iff.2 hne
        rw [if_neg h0, if_neg h0, isTextGo_fuel n m (l.drop (rdec l).2) (by rw [List.length_drop]; omega) (by rw [List.length_drop]; omega)]
theorem isText_nil : isText [] = true := rfl
theorem isText_step (l : List UInt8) (hne : l ≠ []) : isText l = if (rdec l).2 = 0 then false else isText (l.drop (rdec l).2) := by
  have hl : 0 < l.length := List.length_pos_iff.2 hne
  obtain ⟨n, hn⟩ : ∃ n, l.length = n + 1 := ⟨l.length - 1, by omega⟩
  show isTextGo l.length l = _
  rw [hn]
  show (if l = [] then true else _) = _
  rw [if_neg hne]
  by_cases h0 : (rdec l).2 = 0
  · rw [if_pos h0, if_pos h0]
  · rw [if_neg h0, if_neg h0]
    exact isTextGo_fuel n _ _ (by rw [List.length_drop]; omega) (Nat.le_refl _)
theorem isText_enc (cs : List Nat) (h : okt cs = true) : isText (enc cs) = true := by
  induction cs with
  | nil => rfl
  | cons c r ih =>
    simp only [okt, List.all_cons, Bool.and_eq_true] at h
    have hne : enc (c :: r) ≠ [] := fun e => by have := enc_eq_nil e; cases this
    rw [isText_step _ hne, enc_cons, rdec_enc1 c h.1]
    have := enc1_len c
    rw [if_neg (by simp only; omega), List.drop_left]
    exact ih h.2
theorem text_of (l : List UInt8) (h : isText l = true) : ∃ cs, okt cs = true ∧ l = enc cs := by
  generalize hn : l.length = n
  induction n using Nat.strongRecOn generalizing l with
  | ind n ih =>
    by_cases hne : l = []
    · subst hne; exact ⟨[], rfl, rfl⟩
    · rw [isText_step l hne] at h
      split at h
      · cases h
      · rename_i h0
        obtain ⟨h1, _, h3⟩ := rdec_inv l hne h0
        have hl : 0 < l.length := List.length_pos_iff.2 hne
        obtain ⟨cs, hcs, e⟩ := ih _ (by rw [List.length_drop]; omega) _ h rfl
        refine ⟨(rdec l).1 :: cs, by simp [okt, h1]; simpa [okt] using hcs, ?_⟩
        rw [enc_cons, ← e]; exact h3
theorem text_bs (s : ByteArray) (h : isText s.data.toList = true) : ∃ cs, okt cs = true ∧ s = bs cs := by
  obtain ⟨cs, h1, h2⟩ := text_of _ h
  exact ⟨cs, h1, ba_of_list s _ h2⟩
theorem isText_bs (cs : List Nat) (h : okt cs = true) : isText (bs cs).data.toList = true := by rw [bs_data]; exact isText_enc cs h

/-! ### the program's Valid: the library's, and a look at each character -/
/-- The range's look, from place pos on. -/
def rangeOk (s : ByteArray) : Nat → Nat → Bool
  | 0, _ => true
  | f + 1, pos => if pos < s.size then (if okc (Utf8.decode s pos).1 then rangeOk s f (pos + (Utf8.decode s pos).2) else false) else true
theorem valid_and (s : ByteArray) : ∀ (f pos : Nat), s.size ≤ pos + f →
    (Lib.validD (s.data.toList.drop pos) && rangeOk s f pos) = isText (s.data.toList.drop pos)
  | 0, pos, h => by
    have : s.data.toList.drop pos = [] := List.drop_eq_nil_of_le (by rw [len_data]; omega)
    rw [this]; rfl
  | f + 1, pos, h => by
    unfold rangeOk
    by_cases hp : pos < s.size
    · rw [if_pos hp]
      have hne : s.data.toList.drop pos ≠ [] := by
        intro e
        have := congrArg List.length e
        rw [List.length_drop, len_data, List.length_nil] at this
        omega
      have hd := Lib.decodeL_drop s pos
      have hw := Lib.decodeL_width (s.data.toList.drop pos)
      rw [Lib.validD_step _ hne, isText_step _ hne]
      by_cases h0 : (rdec (s.data.toList.drop pos)).2 = 0
      · rw [if_pos h0]
        by_cases hb : (Lib.decodeL (s.data.toList.drop pos)).1 = 65533 ∧ (Lib.decodeL (s.data.toList.drop pos)).2 = 1
        · rw [if_pos hb]; rfl
        · rw [if_neg hb, ← hd]
          by_cases hk : okc (Lib.decodeL (s.data.toList.drop pos)).1 = true
          · exfalso
            have he := Lib.encode_decode _ hne hb
            have e1 := encodeRune_ok _ hk
            have e2 : s.data.toList.drop pos = enc1 (Lib.decodeL (s.data.toList.drop pos)).1 ++ (s.data.toList.drop pos).drop (Lib.decodeL (s.data.toList.drop pos)).2 := by
              rw [← e1, he, List.take_append_drop]
            have e3 := rdec_enc1 _ hk ((s.data.toList.drop pos).drop (Lib.decodeL (s.data.toList.drop pos)).2)
            rw [← e2] at e3
            have := enc1_len (Lib.decodeL (s.data.toList.drop pos)).1
            rw [e3] at h0
            simp only at h0
            omega
          · rw [if_neg hk]; simp
      · rw [if_neg h0]
        obtain ⟨h1, h2, h3⟩ := rdec_inv _ hne h0
        have e4 := decodeN_enc1 _ h1 ((s.data.toList.drop pos).drop (rdec (s.data.toList.drop pos)).2)
        rw [← h3, ← h2] at e4
        have hw3 := enc1_len (rdec (s.data.toList.drop pos)).1
        rw [if_neg, ← hd, e4, if_pos h1, List.drop_drop]
        · exact valid_and s f _ (by omega)
        · rw [e4]
          rintro ⟨a, b⟩
          simp only at a b
          rw [h2, a] at b
          revert b; decide
    · rw [if_neg hp]
      have : s.data.toList.drop pos = [] := List.drop_eq_nil_of_le (by rw [len_data]; omega)
      rw [this]; rfl
theorem valid_eq (s : ByteArray) : (Lib.validD s.data.toList && rangeOk s s.size 0) = isText s.data.toList := by
  have := valid_and s s.size 0 (by omega)
  simpa using this
end Go.Proofs.YtkfjeolpbopcnaaGreatDoor
