/- Plain Lean: folding, cleaning, clipping and dividing into words, on lists of characters, and the laws of them. No program in sight. -/
import Derived.Test.YtkfjeolpbopcnaaGreatDoorTxt
namespace Go.Proofs.YtkfjeolpbopcnaaGreatDoor
open Go
attribute [local simp] bs_data bs_size enc_nil enc_cons enc_append

/-! ### fields: the longest runs of characters that are no separators -/
def fgo (p : Nat → Bool) : List Nat → List Nat → List (List Nat)
  | cur, [] => if cur = [] then [] else [cur]
  | cur, c :: r => if p c then (if cur = [] then [] else [cur]) ++ fgo p [] r else fgo p (cur ++ [c]) r
def fields (p : Nat → Bool) (cs : List Nat) : List (List Nat) := fgo p [] cs
/-- Joined by blanks. -/
def glue : List (List Nat) → List Nat
  | [] => []
  | [x] => x
  | x :: y :: r => x ++ 32 :: glue (y :: r)

theorem fgo_sep (p : Nat → Bool) (s : Nat) (hs : p s = true) : ∀ (a cur b : List Nat), fgo p cur (a ++ s :: b) = fgo p cur a ++ fgo p [] b
  | [], cur, b => by simp [fgo, hs]
  | c :: a, cur, b => by
    by_cases h : p c = true
    · simp only [List.cons_append, fgo, if_pos h, fgo_sep p s hs a [] b, List.append_assoc]
    · simp only [List.cons_append, fgo, if_neg h, fgo_sep p s hs a _ b]
theorem fields_sep (p : Nat → Bool) (s : Nat) (hs : p s = true) (a b : List Nat) : fields p (a ++ s :: b) = fields p a ++ fields p b := fgo_sep p s hs a [] b
theorem fgo_plain (p : Nat → Bool) : ∀ (a cur : List Nat), (∀ c ∈ a, p c = false) → fgo p cur a = if cur ++ a = [] then [] else [cur ++ a]
  | [], cur, _ => by simp [fgo]
  | c :: a, cur, h => by
    have hc := h c (by simp)
    simp only [fgo, hc, Bool.false_eq_true, if_false]
    rw [fgo_plain p a _ (fun x hx => h x (by simp [hx]))]
    simp
theorem fields_word (p : Nat → Bool) (a : List Nat) (hne : a ≠ []) (h : ∀ c ∈ a, p c = false) : fields p a = [a] := by
  unfold fields; rw [fgo_plain p a [] h]; simp [hne]
/-- Each field is not empty and has no separator. -/
theorem fgo_mem (p : Nat → Bool) : ∀ (r cur : List Nat), (∀ c ∈ cur, p c = false) → ∀ w ∈ fgo p cur r, w ≠ [] ∧ ∀ c ∈ w, p c = false
  | [], cur, h, w, hw => by
    unfold fgo at hw
    split at hw
    · simp at hw
    · rename_i hne; simp at hw; subst hw; exact ⟨hne, h⟩
  | c :: r, cur, h, w, hw => by
    unfold fgo at hw
    split at hw
    · rw [List.mem_append] at hw
      rcases hw with hw | hw
      · split at hw
        · simp at hw
        · rename_i hne; simp at hw; subst hw; exact ⟨hne, h⟩
      · exact fgo_mem p r [] (by simp) w hw
    · rename_i hc
      exact fgo_mem p r _ (fun x hx => by
        simp at hx
        rcases hx with hx | rfl
        · exact h x hx
        · simpa using hc) w hw
theorem fields_mem (p : Nat → Bool) (cs w : List Nat) (hw : w ∈ fields p cs) : w ≠ [] ∧ ∀ c ∈ w, p c = false := fgo_mem p cs [] (by simp) w hw
/-- Each character of a field is one of the text. -/
theorem fgo_sub (p : Nat → Bool) : ∀ (r cur : List Nat), ∀ w ∈ fgo p cur r, ∀ c ∈ w, c ∈ cur ∨ c ∈ r
  | [], cur, w, hw, c, hc => by
    unfold fgo at hw
    split at hw
    · simp at hw
    · simp at hw; subst hw; exact .inl hc
  | d :: r, cur, w, hw, c, hc => by
    unfold fgo at hw
    split at hw
    · rw [List.mem_append] at hw
      rcases hw with hw | hw
      · split at hw
        · simp at hw
        · simp at hw; subst hw; exact .inl hc
      · rcases fgo_sub p r [] w hw c hc with h | h
        · simp at h
        · exact .inr (by simp [h])
    · rcases fgo_sub p r _ w hw c hc with h | h
      · simp at h
        rcases h with h | h
        · exact .inl h
        · exact .inr (by simp [h])
      · exact .inr (by simp [h])
theorem fields_sub (p : Nat → Bool) (cs w : List Nat) (hw : w ∈ fields p cs) : ∀ c ∈ w, c ∈ cs := fun c hc => by
  rcases fgo_sub p cs [] w hw c hc with h | h
  · simp at h
  · exact h
theorem fields_okt (p : Nat → Bool) (cs w : List Nat) (h : okt cs = true) (hw : w ∈ fields p cs) : okt w = true := by
  unfold okt at h ⊢
  rw [List.all_eq_true] at h ⊢
  exact fun c hc => h c (fields_sub p cs w hw c hc)

theorem glue_mem : ∀ (l : List (List Nat)) (c : Nat), c ∈ glue l → c = 32 ∨ ∃ w ∈ l, c ∈ w
  | [], c, h => by simp [glue] at h
  | [x], c, h => .inr ⟨x, by simp, h⟩
  | x :: y :: r, c, h => by
    simp only [glue, List.mem_append, List.mem_cons] at h
    rcases h with h | h | h
    · exact .inr ⟨x, by simp, h⟩
    · exact .inl h
    · rcases glue_mem (y :: r) c h with h | ⟨w, hw, h⟩
      · exact .inl h
      · exact .inr ⟨w, by simp at hw ⊢; exact .inr hw, h⟩
theorem glue_okt (l : List (List Nat)) (h : ∀ w ∈ l, okt w = true) : okt (glue l) = true := by
  unfold okt; rw [List.all_eq_true]
  intro c hc
  rcases glue_mem l c hc with rfl | ⟨w, hw, hcw⟩
  · rfl
  · have := h w hw; unfold okt at this; rw [List.all_eq_true] at this; exact this c hcw
theorem fields_glue (p : Nat → Bool) (h32 : p 32 = true) : ∀ (l : List (List Nat)), fields p (glue l) = l.flatMap (fields p)
  | [] => rfl
  | [x] => by simp [glue]
  | x :: y :: r => by
    rw [glue, fields_sep p 32 h32, fields_glue p h32 (y :: r)]; rfl
theorem flatMap_words (p : Nat → Bool) : ∀ (l : List (List Nat)), (∀ w ∈ l, w ≠ [] ∧ ∀ c ∈ w, p c = false) → l.flatMap (fields p) = l
  | [], _ => rfl
  | x :: r, h => by
    rw [List.flatMap_cons, fields_word p x (h x (by simp)).1 (h x (by simp)).2, flatMap_words p r (fun w hw => h w (by simp [hw]))]; rfl
theorem fields_glue_fields (p : Nat → Bool) (h32 : p 32 = true) (cs : List Nat) : fields p (glue (fields p cs)) = fields p cs := by
  rw [fields_glue p h32, flatMap_words p _ (fun w hw => fields_mem p cs w hw)]

/-! ### blanks, cleaning -/
def blank (c : Nat) : Bool := c == 32 || c == 160
def clean (cs : List Nat) : List Nat := glue (fields blank cs)
theorem clean_clean (cs : List Nat) : clean (clean cs) = clean cs := by
  unfold clean; rw [fields_glue_fields blank rfl]
theorem clean_okt (cs : List Nat) (h : okt cs = true) : okt (clean cs) = true := glue_okt _ (fun w hw => fields_okt blank cs w h hw)

/-! ### folding -/
def foldd (d : Nat) : List Nat :=
  if d ≤ 197 then [97] else if d = 198 then [97, 101] else if d = 199 then [99] else if d ≤ 203 then [101] else if d ≤ 207 then [105]
  else if d = 208 then [100] else if d = 209 then [110] else if d ≤ 216 then [111] else if d ≤ 220 then [117] else if d = 221 then [121] else [116, 104]
def foldc (c : Nat) : List Nat :=
  if 65 ≤ c ∧ c ≤ 90 then [c + 32]
  else if c < 192 ∨ 255 < c ∨ c = 215 ∨ c = 247 then [c]
  else if c = 223 then [115, 115]
  else if c = 255 then [121]
  else foldd (if 224 ≤ c then c - 32 else c)
def fold (cs : List Nat) : List Nat := cs.flatMap foldc
theorem foldc_big (c : Nat) (h : 255 < c) : foldc c = [c] := by
  unfold foldc; rw [if_neg (by omega), if_pos (by omega)]
set_option maxRecDepth 100000 in
theorem foldc_small : ∀ x : Fin 256, (∀ d ∈ foldc x.val, foldc d = [d]) ∧ (okc x.val = true → ∀ d ∈ foldc x.val, okc d = true) ∧ foldc x.val ≠ [] ∧ (foldc x.val).length ≤ 2 ∧ (x.val < 128 → (foldc x.val).length = 1) ∧ ∀ d ∈ foldc x.val, d < 128 ∨ d = x.val := by decide
theorem foldc_fixed (c : Nat) : ∀ d ∈ foldc c, foldc d = [d] := by
  by_cases h : c < 256
  · exact (foldc_small ⟨c, h⟩).1
  · rw [foldc_big c (by omega)]; intro d hd; simp at hd; subst hd; exact foldc_big d (by omega)
theorem foldc_okc (c : Nat) (hc : okc c = true) : ∀ d ∈ foldc c, okc d = true := by
  by_cases h : c < 256
  · exact (foldc_small ⟨c, h⟩).2.1 hc
  · rw [foldc_big c (by omega)]; intro d hd; simp at hd; subst hd; exact hc
theorem fold_fixed (cs : List Nat) : ∀ d ∈ fold cs, foldc d = [d] := by
  intro d hd
  unfold fold at hd
  rw [List.mem_flatMap] at hd
  obtain ⟨c, _, hc⟩ := hd
  exact foldc_fixed c d hc
theorem fold_of_fixed : ∀ (cs : List Nat), (∀ d ∈ cs, foldc d = [d]) → fold cs = cs
  | [], _ => rfl
  | c :: r, h => by
    show foldc c ++ fold r = _
    rw [h c (by simp), fold_of_fixed r (fun d hd => h d (by simp [hd]))]; rfl
theorem fold_fold (cs : List Nat) : fold (fold cs) = fold cs := fold_of_fixed _ (fold_fixed cs)
theorem fold_okt (cs : List Nat) (h : okt cs = true) : okt (fold cs) = true := by
  unfold okt at h ⊢
  rw [List.all_eq_true] at h ⊢
  intro d hd
  unfold fold at hd
  rw [List.mem_flatMap] at hd
  obtain ⟨c, hcs, hc⟩ := hd
  exact foldc_okc c (h c hcs) d hc
theorem fold_append (a b : List Nat) : fold (a ++ b) = fold a ++ fold b := by simp [fold]
theorem fold_blank (c : Nat) (h : blank c = true) : foldc c = [c] := by
  unfold blank at h
  simp at h
  rcases h with rfl | rfl <;> rfl
theorem fold_glue : ∀ l : List (List Nat), fold (glue l) = glue (l.map fold)
  | [] => rfl
  | [x] => rfl
  | x :: y :: r => by
    have := fold_glue (y :: r)
    simp only [glue, List.map_cons] at this ⊢
    rw [fold_append]
    show fold x ++ (foldc 32 ++ fold (glue (y :: r))) = _
    rw [this]; rfl

/-! ### words -/
def letter (c : Nat) : Bool := (97 ≤ c && c ≤ 122) || (48 ≤ c && c ≤ 57) || 256 ≤ c
def noletter (c : Nat) : Bool := !letter c
def words (cs : List Nat) : List (List Nat) := fields noletter (fold cs)
theorem noletter_blank (c : Nat) (h : blank c = true) : noletter c = true := by
  unfold blank at h
  simp at h
  rcases h with rfl | rfl <;> rfl
theorem words_fold (cs : List Nat) : words (fold cs) = words cs := by unfold words; rw [fold_fold]
theorem fgo_fold : ∀ (r cur : List Nat), (fgo blank cur r).flatMap (fun w => fields noletter (fold w)) = fields noletter (fold (cur ++ r))
  | [], cur => by
    unfold fgo
    by_cases h : cur = []
    · subst h; rfl
    · simp [h]
  | c :: r, cur => by
    unfold fgo
    by_cases h : blank c = true
    · rw [if_pos h, List.flatMap_append, fgo_fold r [], fold_append]
      rw [fold_append, show fold (c :: r) = c :: fold r from by show foldc c ++ fold r = _; rw [fold_blank c h]; rfl]
      rw [fields_sep noletter c (noletter_blank c h)]
      congr 1
      by_cases h0 : cur = []
      · subst h0; rfl
      · simp [h0]
    · rw [if_neg h, fgo_fold r (cur ++ [c]), List.append_assoc]; rfl
theorem words_clean (cs : List Nat) : words (clean cs) = words cs := by
  unfold words clean
  rw [fold_glue, fields_glue noletter rfl, List.flatMap_map]
  exact fgo_fold cs []
theorem words_glue (cs : List Nat) : words (glue (words cs)) = words cs := by
  have h : (words cs).map fold = words cs := by
    conv => rhs; rw [← List.map_id (words cs)]
    apply List.map_congr_left
    intro w hw
    exact fold_of_fixed w (fun d hd => fold_fixed cs d (fields_sub noletter _ w hw d hd))
  show fields noletter (fold (glue (words cs))) = words cs
  rw [fold_glue, h]
  exact fields_glue_fields noletter rfl (fold cs)
theorem words_okt (cs : List Nat) (h : okt cs = true) : ∀ w ∈ words cs, okt w = true := fun w hw => fields_okt noletter _ w (fold_okt cs h) hw

theorem okt_append (a b : List Nat) : okt (a ++ b) = (okt a && okt b) := by simp [okt]
theorem okt_take (cs : List Nat) (n : Nat) (h : okt cs = true) : okt (cs.take n) = true := by
  unfold okt at h ⊢
  rw [List.all_eq_true] at h ⊢
  exact fun c hc => h c (List.mem_of_mem_take hc)
theorem glue_nil_iff : ∀ (l : List (List Nat)), (∀ w ∈ l, w ≠ []) → (glue l = [] ↔ l = [])
  | [], _ => by simp [glue]
  | [x], h => by have := h x (by simp); simp [glue, this]
  | x :: y :: r, h => by simp [glue]

/-! ### the bytes of joined fields -/
theorem enc_glue : ∀ l : List (List Nat), enc (glue l) = Lib.join (l.map enc) [32]
  | [] => rfl
  | [x] => by simp [glue, Lib.join_one]
  | x :: y :: r => by
    have ih := enc_glue (y :: r)
    rw [List.map_cons, Lib.join_cons] at ih
    rw [glue, enc_append, enc_cons, ih, List.map_cons, Lib.join_cons]
    rfl
/-! ### injectivity of the bytes -/
theorem enc_inj : ∀ (a b : List Nat), okt a = true → okt b = true → enc a = enc b → a = b
  | [], b, _, _, h => (enc_eq_nil h.symm).symm
  | c :: a, [], _, _, h => by have := enc_eq_nil h; cases this
  | c :: a, d :: b, ha, hb, h => by
    simp only [okt, List.all_cons, Bool.and_eq_true] at ha hb
    have h1 := rdec_enc1 c ha.1 (enc a)
    have h2 := rdec_enc1 d hb.1 (enc b)
    rw [enc_cons, enc_cons] at h
    rw [h, h2] at h1
    obtain rfl : d = c := (Prod.mk.injEq _ _ _ _ ▸ h1).1
    rw [enc_inj a b ha.2 hb.2 (List.append_cancel_left h)]
theorem bs_inj (a b : List Nat) (ha : okt a = true) (hb : okt b = true) (h : bs a = bs b) : a = b :=
  enc_inj a b ha hb (by rw [← bs_data, ← bs_data, h])

/-! ### the library's fields are these -/
theorem rune_at (pre : List Nat) (c : Nat) (post : List Nat) (h : okc c = true) : (enc pre).length < (bs (pre ++ c :: post)).size ∧ Utf8.decode (bs (pre ++ c :: post)) (enc pre).length = (c, (enc1 c).length) ∧ (enc (pre ++ [c])).length = (enc pre).length + (enc1 c).length := by
  have := enc1_len c
  exact ⟨by simp; omega, decode_at pre c post h, by simp⟩
theorem extract_bs (a b c : List Nat) : (bs (a ++ b ++ c)).extract (enc a).length (enc (a ++ b)).length = bs b := by
  apply ba_ext
  rw [bs_data]
  simp [ByteArray.data_extract, bs]
theorem spans_eq (p : Nat → Bool) (cs : List Nat) (hok : okt cs = true) : ∀ (r pre cur : List Nat) (f : Nat) (acc : List (Nat × Nat)) (st : Option Nat),
    cs = pre ++ cur ++ r → r.length ≤ f → st = (if cur = [] then none else some (enc pre).length) →
    ((Lib.closeSpans (bs cs) (Lib.spansFromP p (bs cs) f (enc (pre ++ cur)).length st acc)).map fun x => (bs cs).extract x.1 x.2) =
      (acc.map fun x => (bs cs).extract x.1 x.2) ++ (fgo p cur r).map bs
  | [], pre, cur, f, acc, st, h, hf, hst => by
    rw [List.append_nil] at h
    subst h
    rw [Lib.spansFromP_end _ _ _ _ _ _ (by simp)]
    unfold fgo
    by_cases h0 : cur = []
    · rw [if_pos h0] at hst
      subst hst
      simp [Lib.closeSpans, h0]
    · rw [if_neg h0] at hst
      subst hst
      have e := extract_bs pre cur []
      rw [List.append_nil] at e
      simp only [Lib.closeSpans, List.map_append, List.map_cons, List.map_nil, if_neg h0]
      rw [bs_size, e]
  | c :: r, pre, cur, f, acc, st, h, hf, hst => by
    obtain ⟨f, rfl⟩ : ∃ g, f = g + 1 := ⟨f - 1, by simp at hf; omega⟩
    have hc : okc c = true := by
      rw [h] at hok; simp only [okt, List.all_append, List.all_cons, Bool.and_eq_true] at hok; exact hok.2.1
    obtain ⟨hlt, hd, he⟩ := rune_at (pre ++ cur) c r hc
    rw [← h] at hlt hd
    unfold Lib.spansFromP fgo
    rw [if_pos hlt, hd]
    simp only
    by_cases hp : p c = true
    · rw [if_pos hp, if_pos hp]
      by_cases h0 : cur = []
      · rw [if_pos h0] at hst
        subst hst
        simp only [if_pos h0, List.nil_append]
        rw [← he]
        have := spans_eq p cs hok r (pre ++ cur ++ [c]) [] f acc none (by rw [h]; simp) (by simp at hf; omega) rfl
        rw [List.append_nil] at this
        exact this
      · rw [if_neg h0] at hst
        subst hst
        simp only [if_neg h0]
        rw [← he]
        have := spans_eq p cs hok r (pre ++ cur ++ [c]) [] f (acc ++ [((enc pre).length, (enc (pre ++ cur)).length)]) none (by rw [h]; simp) (by simp at hf; omega) rfl
        rw [List.append_nil] at this
        rw [this, List.map_append]
        have e := extract_bs pre cur (c :: r)
        rw [← h] at e
        simp only [List.map_append, List.map_cons, List.map_nil, e, List.append_assoc]
    · rw [if_neg hp, if_neg hp]
      by_cases h0 : cur = []
      · rw [if_pos h0] at hst
        subst hst h0
        simp only [List.append_nil] at he h ⊢
        rw [← he]
        exact spans_eq p cs hok r pre [c] f acc _ (by rw [h]; simp) (by simp at hf; omega) (by simp)
      · rw [if_neg h0] at hst
        subst hst
        simp only
        rw [← he]
        have := spans_eq p cs hok r pre (cur ++ [c]) f acc (some (enc pre).length) (by rw [h]; simp) (by simp at hf; omega) (by simp)
        rw [← List.append_assoc] at this
        exact this
theorem goFields_eq (p : Nat → Bool) (cs : List Nat) (hok : okt cs = true) : Lib.goFieldsP p (bs cs) = (fields p cs).map bs := by
  have := spans_eq p cs hok cs [] [] (bs cs).size [] none rfl (by rw [bs_size]; exact len_le_enc cs) rfl
  simpa [Lib.goFieldsP, Lib.spansOfP, fields] using this
theorem runeCountFrom_eq (cs : List Nat) (hok : okt cs = true) : ∀ (r pre : List Nat) (f : Nat), cs = pre ++ r → r.length ≤ f → Lib.runeCountFrom (bs cs) f (enc pre).length = r.length
  | [], pre, f, h, _ => by
    rw [List.append_nil] at h; subst h
    exact Lib.runeCountFrom_end _ _ _ (by simp)
  | c :: r, pre, f, h, hf => by
    obtain ⟨f, rfl⟩ : ∃ g, f = g + 1 := ⟨f - 1, by simp at hf; omega⟩
    have hc : okc c = true := by
      rw [h] at hok; simp only [okt, List.all_append, List.all_cons, Bool.and_eq_true] at hok; exact hok.2.1
    obtain ⟨hlt, hd, he⟩ := rune_at pre c r hc
    rw [← h] at hlt hd
    unfold Lib.runeCountFrom
    rw [if_pos hlt, hd]
    simp only
    rw [← he, runeCountFrom_eq cs hok r (pre ++ [c]) f (by rw [h]; simp) (by simp at hf; omega)]
    simp; omega
theorem runeCount_eq (cs : List Nat) (hok : okt cs = true) : Lib.runeCount (bs cs) = cs.length :=
  runeCountFrom_eq cs hok cs [] _ rfl (by rw [bs_size]; exact len_le_enc cs)

/-! ### the reference's loops -/
/-- Clean, and the key of collating: what stands before is kept, a gap is remembered. -/
def cgo (p : Nat → Bool) : List Nat → Bool → List Nat → List Nat
  | out, _, [] => out
  | out, gap, c :: r => if p c then cgo p out true r else cgo p ((if gap = true ∧ out ≠ [] then out ++ [32] else out) ++ [c]) false r
theorem glue_snoc : ∀ (l : List (List Nat)) (w : List Nat), l ≠ [] → glue (l ++ [w]) = glue l ++ 32 :: w
  | [], _, h => absurd rfl h
  | [x], w, _ => rfl
  | x :: y :: r, w, _ => by
    have := glue_snoc (y :: r) w (by simp)
    simp only [List.cons_append, glue] at this ⊢
    rw [this]; simp
theorem cgo_open (p : Nat → Bool) : ∀ (r : List Nat) (done : List (List Nat)) (cur : List Nat), (∀ w ∈ done, w ≠ []) → cur ≠ [] →
    cgo p (glue (done ++ [cur])) false r = glue (done ++ fgo p cur r) ∧
    (∀ gap, cgo p (glue (done ++ [cur])) gap r = if gap then glue (done ++ [cur] ++ fgo p [] r) else glue (done ++ fgo p cur r))
  | [], done, cur, hd, hc => by
    refine ⟨by simp [cgo, fgo, hc], fun gap => ?_⟩
    cases gap <;> simp [cgo, fgo, hc]
  | c :: r, done, cur, hd, hc => by
    have key : ∀ gap, cgo p (glue (done ++ [cur])) gap (c :: r) = if gap then glue (done ++ [cur] ++ fgo p [] (c :: r)) else glue (done ++ fgo p cur (c :: r)) := by
      intro gap
      have hd' : ∀ w ∈ done ++ [cur], w ≠ [] := by
        intro w hw; simp at hw; rcases hw with hw | rfl
        · exact hd w hw
        · exact hc
      have hne : glue (done ++ [cur]) ≠ [] := by
        rw [ne_eq, glue_nil_iff _ hd']; simp
      unfold cgo fgo
      by_cases hp : p c = true
      · rw [if_pos hp, if_pos hp, (cgo_open p r done cur hd hc).2 true]
        cases gap <;> simp [hp, hc]
      · rw [if_neg hp]
        cases gap
        · simp only [Bool.false_eq_true, false_and, if_false, if_neg hp]
          have e : glue (done ++ [cur]) ++ [c] = glue (done ++ [cur ++ [c]]) := by
            by_cases h0 : done = []
            · subst h0; rfl
            · rw [glue_snoc _ _ h0, glue_snoc _ _ h0]; simp
          rw [e]
          exact (cgo_open p r done (cur ++ [c]) hd (by simp)).1
        · simp only [true_and, if_neg hp, if_true, ne_eq, hne, not_false_eq_true]
          have e : glue (done ++ [cur]) ++ [32] ++ [c] = glue (done ++ [cur] ++ [[c]]) := by
            rw [glue_snoc (done ++ [cur]) [c] (by simp)]; simp
          rw [e]
          exact (cgo_open p r (done ++ [cur]) [c] hd' (by simp)).1
    exact ⟨by simpa using key false, key⟩
theorem cgo_eq (p : Nat → Bool) : ∀ (r : List Nat) (gap : Bool), cgo p [] gap r = glue (fields p r)
  | [], gap => rfl
  | c :: r, gap => by
    unfold cgo fields fgo
    by_cases hp : p c = true
    · rw [if_pos hp, if_pos hp]; exact cgo_eq p r true
    · rw [if_neg hp, if_neg hp]
      have := (cgo_open p r [] [c] (by simp) (by simp)).1
      simpa [glue] using this
/-! ### a place in a text -/
/-- At byte k of the text cs the characters r are left. -/
def At (cs : List Nat) (k : Nat) (r : List Nat) : Prop := ∃ pre, cs = pre ++ r ∧ k = (enc pre).length
theorem At.start (cs : List Nat) : At cs 0 cs := ⟨[], rfl, rfl⟩
theorem At.next {cs : List Nat} {k c : Nat} {r : List Nat} (h : At cs k (c :: r)) : At cs (k + (enc1 c).length) r := by
  obtain ⟨pre, rfl, rfl⟩ := h
  exact ⟨pre ++ [c], by simp, by simp⟩
theorem At.le {cs : List Nat} {k : Nat} {r : List Nat} (h : At cs k r) : k + (enc r).length = (bs cs).size := by
  obtain ⟨pre, rfl, rfl⟩ := h
  simp
theorem At.lt {cs : List Nat} {k c : Nat} {r : List Nat} (h : At cs k (c :: r)) : k + (enc1 c).length ≤ (bs cs).size ∧ k < (bs cs).size := by
  have := h.le
  have h1 := enc1_len c
  simp at this ⊢
  omega
theorem At.fin {cs : List Nat} {k : Nat} (h : At cs k []) : k = (bs cs).size := by
  have := h.le
  simpa using this
theorem At.okt {cs : List Nat} {k : Nat} {r : List Nat} (h : At cs k r) (hok : okt cs = true) : okt r = true := by
  obtain ⟨pre, rfl, rfl⟩ := h
  rw [okt_append, Bool.and_eq_true] at hok
  exact hok.2
theorem At.okc {cs : List Nat} {k c : Nat} {r : List Nat} (h : At cs k (c :: r)) (hok : Go.Proofs.YtkfjeolpbopcnaaGreatDoor.okt cs = true) : okc c = true := by
  have := h.okt hok
  simp only [Go.Proofs.YtkfjeolpbopcnaaGreatDoor.okt, List.all_cons, Bool.and_eq_true] at this
  exact this.1
theorem At.drop {cs : List Nat} {k : Nat} {r : List Nat} (h : At cs k r) : (bs cs).data.toList.drop k = enc r := by
  obtain ⟨pre, rfl, rfl⟩ := h
  simp
theorem At.rdec {cs : List Nat} {k c : Nat} {r : List Nat} (h : At cs k (c :: r)) (hok : Go.Proofs.YtkfjeolpbopcnaaGreatDoor.okt cs = true) : rdec ((bs cs).data.toList.drop k) = (c, (enc1 c).length) := by
  rw [h.drop, enc_cons, rdec_enc1 c (h.okc hok)]
theorem At.decode {cs : List Nat} {k c : Nat} {r : List Nat} (h : At cs k (c :: r)) (hok : Go.Proofs.YtkfjeolpbopcnaaGreatDoor.okt cs = true) : Utf8.decode (bs cs) k = (c, (enc1 c).length) := by
  rw [← Lib.decodeL_drop, h.drop, enc_cons, decodeN_enc1 c (h.okc hok)]
theorem At.piece {cs : List Nat} {k c : Nat} {r : List Nat} (h : At cs k (c :: r)) : (bs cs).extract k (k + (enc1 c).length) = bs [c] := by
  obtain ⟨pre, rfl, rfl⟩ := h
  have := extract_bs pre [c] r
  simpa using this
theorem At.front {cs : List Nat} {k : Nat} {r : List Nat} (h : At cs k r) : (bs cs).extract 0 k = bs (cs.take (cs.length - r.length)) := by
  obtain ⟨pre, rfl, rfl⟩ := h
  have := extract_bs [] pre r
  simpa using this
theorem bs_append (a b : List Nat) : bs a ++ bs b = bs (a ++ b) := by
  apply ba_ext
  rw [ByteArray.data_append, Array.toList_append]
  simp
theorem okc_small {c : Nat} (h : okc c = true) : 32 ≤ c ∧ c < 65536 := by rw [okc_iff] at h; omega
theorem bs_nil_iff (cs : List Nat) : bs cs = ⟨#[]⟩ ↔ cs = [] := by
  constructor
  · intro h
    have := congrArg (fun x : ByteArray => x.data.toList) h
    rw [bs_data] at this
    exact enc_eq_nil this
  · rintro rfl; rfl
end Go.Proofs.YtkfjeolpbopcnaaGreatDoor
