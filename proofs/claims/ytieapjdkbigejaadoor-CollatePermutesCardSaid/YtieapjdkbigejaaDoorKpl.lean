/- Plain Lean: keys of texts in a language, the order of keys and texts, leading articles. No program in sight. -/
import Derived.Test.YtieapjdkbigejaaDoorBse
import Derived.Lib.Bytealg
import Derived.Lib.IndexMore
import Derived.Lib.TrimByte
namespace Go.Proofs.YtieapjdkbigejaaDoor
open Go
attribute [local simp] bs_data bs_size enc_nil enc_cons enc_append

/-! ### the order of strings -/
theorem cmp_range : ∀ a b : List UInt8, -1 ≤ Lib.compareBytes a b ∧ Lib.compareBytes a b ≤ 1
  | [], [] => by simp [Lib.compareBytes]
  | [], _ :: _ => by simp [Lib.compareBytes]
  | _ :: _, [] => by simp [Lib.compareBytes]
  | x :: a, y :: b => by
    have := cmp_range a b
    unfold Lib.compareBytes
    split
    · omega
    · split <;> omega
theorem cmp_neg : ∀ a b : List UInt8, Lib.compareBytes a b = - Lib.compareBytes b a
  | [], [] => rfl
  | [], _ :: _ => rfl
  | _ :: _, [] => rfl
  | x :: a, y :: b => by
    unfold Lib.compareBytes
    by_cases h1 : x < y
    · have h2 : ¬ y < x := fun h => by rw [UInt8.lt_iff_toNat_lt] at h h1; omega
      rw [if_pos h1, if_neg h2, if_pos h1]
    · by_cases h2 : y < x
      · rw [if_neg h1, if_pos h2, if_pos h2]; rfl
      · rw [if_neg h1, if_neg h2, if_neg h2, if_neg h1]; exact cmp_neg a b
theorem cmp_eq : ∀ a b : List UInt8, Lib.compareBytes a b = 0 ↔ a = b
  | [], [] => by simp [Lib.compareBytes]
  | [], _ :: _ => by simp [Lib.compareBytes]
  | _ :: _, [] => by simp [Lib.compareBytes]
  | x :: a, y :: b => by
    unfold Lib.compareBytes
    by_cases h1 : x < y
    · rw [if_pos h1]
      constructor
      · intro h; omega
      · intro h; injection h with h; subst h; rw [UInt8.lt_iff_toNat_lt] at h1; omega
    · by_cases h2 : y < x
      · rw [if_neg h1, if_pos h2]
        constructor
        · intro h; omega
        · intro h; injection h with h; subst h; rw [UInt8.lt_iff_toNat_lt] at h2; omega
      · rw [if_neg h1, if_neg h2, cmp_eq a b]
        have e : x = y := UInt8.toNat_inj.1 (by rw [UInt8.lt_iff_toNat_lt] at h1 h2; omega)
        simp [e]
/-- What comes before, comes before what comes later: strict if one of the two is. -/
theorem cmp_trans : ∀ a b c : List UInt8, Lib.compareBytes a b ≤ 0 → Lib.compareBytes b c ≤ 0 →
    Lib.compareBytes a c ≤ 0 ∧ ((Lib.compareBytes a b < 0 ∨ Lib.compareBytes b c < 0) → Lib.compareBytes a c < 0)
  | [], [], [], _, _ => by simp [Lib.compareBytes]
  | [], [], _ :: _, _, _ => by simp [Lib.compareBytes]
  | [], _ :: _, [], _, h => by simp [Lib.compareBytes] at h
  | [], _ :: _, _ :: _, _, _ => by simp [Lib.compareBytes]
  | _ :: _, [], _, h, _ => by simp [Lib.compareBytes] at h
  | _ :: _, _ :: _, [], _, h => by simp [Lib.compareBytes] at h
  | x :: a, y :: b, z :: c, h1, h2 => by
    have ih := cmp_trans a b c
    have r1 := cmp_range a b
    have r2 := cmp_range b c
    unfold Lib.compareBytes at h1 h2 ⊢
    simp only [UInt8.lt_iff_toNat_lt] at h1 h2 ⊢
    by_cases p1 : x.toNat < y.toNat
    · rw [if_pos p1] at h1 ⊢
      by_cases p2 : y.toNat < z.toNat
      · rw [if_pos (by omega : x.toNat < z.toNat)]; omega
      · rw [if_neg p2] at h2
        by_cases p3 : z.toNat < y.toNat
        · rw [if_pos p3] at h2; omega
        · rw [if_pos (by omega : x.toNat < z.toNat)]; omega
    · rw [if_neg p1] at h1 ⊢
      by_cases q1 : y.toNat < x.toNat
      · rw [if_pos q1] at h1; omega
      · rw [if_neg q1] at h1 ⊢
        by_cases p2 : y.toNat < z.toNat
        · rw [if_pos p2] at h2 ⊢; rw [if_pos (by omega : x.toNat < z.toNat)]; omega
        · rw [if_neg p2] at h2 ⊢
          by_cases p3 : z.toNat < y.toNat
          · rw [if_pos p3] at h2; omega
          · rw [if_neg p3] at h2 ⊢
            rw [if_neg (by omega : ¬ x.toNat < z.toNat), if_neg (by omega : ¬ z.toNat < x.toNat)]
            exact ih h1 h2
theorem less_cmp : ∀ a b : List UInt8, Op.bytesLess a b = decide (Lib.compareBytes a b < 0)
  | [], [] => rfl
  | [], _ :: _ => by simp [Op.bytesLess, Lib.compareBytes]
  | _ :: _, [] => by simp [Op.bytesLess, Lib.compareBytes]
  | x :: a, y :: b => by
    have ih := less_cmp a b
    unfold Op.bytesLess Lib.compareBytes
    by_cases h1 : x < y
    · simp [h1]
    · by_cases h2 : y < x
      · have hne : (x == y) = false := by
          rw [beq_eq_false_iff_ne]; rintro rfl; rw [UInt8.lt_iff_toNat_lt] at h2; omega
        rw [if_neg h1, if_pos h2, hne]
        simp [h1]
      · have e : x = y := UInt8.toNat_inj.1 (by rw [UInt8.lt_iff_toNat_lt] at h1 h2; omega)
        rw [if_neg h1, if_neg h2, ← ih, e]
        simp

/-! ### languages -/
def eng : ByteArray := ⟨#[101, 110, 103]⟩
def ger : ByteArray := ⟨#[103, 101, 114]⟩
def swe : ByteArray := ⟨#[115, 119, 101]⟩
def spa : ByteArray := ⟨#[115, 112, 97]⟩
/-- A number for each language with rules; 0 for any other. -/
def lcode (lang : ByteArray) : Nat :=
  if lang = eng then 1 else if lang = ger then 2 else if lang = swe then 3 else if lang = spa then 4 else 0
def repl (k c : Nat) : List Nat :=
  if 123 ≤ c ∧ c ≤ 126 then [32]
  else if k = 2 then (if c = 196 ∨ c = 228 then [97, 101] else if c = 214 ∨ c = 246 then [111, 101] else if c = 220 ∨ c = 252 then [117, 101] else [c])
  else if k = 3 then (if c = 197 ∨ c = 229 then [123] else if c = 196 ∨ c = 228 then [124] else if c = 214 ∨ c = 246 then [125] else [c])
  else if k = 4 then (if c = 209 ∨ c = 241 then [110, 126] else [c])
  else [c]
def replA (k : Nat) (cs : List Nat) : List Nat := cs.flatMap (repl k)
def kletter (c : Nat) : Bool := (97 ≤ c && c ≤ 122) || (48 ≤ c && c ≤ 57) || (123 ≤ c && c ≤ 126) || 256 ≤ c
def nokl (c : Nat) : Bool := !kletter c
def key (k : Nat) (cs : List Nat) : List Nat := glue (fields nokl (fold (replA k cs)))
theorem repl_ok (k c : Nat) (h : okc c = true) : okt (repl k c) = true ∧ (enc (repl k c)).length ≤ (enc1 c).length := by
  have h2 := (okc_iff c).1 h
  have l1 : ∀ x, x < 128 → (enc1 x).length = 1 := fun x hx => by unfold enc1; rw [if_pos hx]; rfl
  have l2 : ∀ x, 128 ≤ x → 2 ≤ (enc1 x).length := fun x hx => by unfold enc1; rw [if_neg (by omega)]; split <;> simp
  have l3 := enc1_len c
  unfold repl
  repeat' split
  all_goals simp only [okt, List.all_cons, List.all_nil, Bool.and_true, enc_cons, enc_nil, List.length_append, List.append_nil, l1 32 (by omega), l1 97 (by omega), l1 101 (by omega), l1 111 (by omega), l1 117 (by omega), l1 123 (by omega), l1 124 (by omega), l1 125 (by omega), l1 110 (by omega), l1 126 (by omega)]
  all_goals first | (refine ⟨h, ?_⟩; omega) | (refine ⟨by decide, ?_⟩; have := l2 c; omega)
theorem replA_okt (k : Nat) (cs : List Nat) (h : okt cs = true) : okt (replA k cs) = true ∧ (bs (replA k cs)).size ≤ (bs cs).size := by
  rw [bs_size, bs_size]
  induction cs with
  | nil => exact ⟨rfl, Nat.le_refl _⟩
  | cons c r ih =>
    simp only [okt, List.all_cons, Bool.and_eq_true] at h
    obtain ⟨a, b⟩ := repl_ok k c h.1
    obtain ⟨a2, b2⟩ := ih h.2
    show okt (repl k c ++ replA k r) = true ∧ (enc (repl k c ++ replA k r)).length ≤ _
    rw [okt_append, a, a2, enc_append, enc_cons, List.length_append, List.length_append]
    exact ⟨rfl, by omega⟩
theorem key_okt (k : Nat) (cs : List Nat) (h : okt cs = true) : okt (key k cs) = true ∧ (bs (key k cs)).size ≤ (bs cs).size := by
  obtain ⟨h1, h2⟩ := replA_okt k cs h
  have h3 := fold_okt _ h1
  have h4 := fold_len _ h1
  have h5 := (fields_sum nokl (fold (replA k cs))).1
  exact ⟨glue_okt _ (fun w hw => fields_okt nokl _ w h3 hw), by unfold key; omega⟩

/-- The order of a language. -/
def kcmp (k : Nat) (a b : List Nat) : Int :=
  if Lib.compareBytes (enc (key k a)) (enc (key k b)) ≠ 0 then Lib.compareBytes (enc (key k a)) (enc (key k b)) else Lib.compareBytes (enc a) (enc b)
theorem kcmp_range (k : Nat) (a b : List Nat) : -1 ≤ kcmp k a b ∧ kcmp k a b ≤ 1 := by
  unfold kcmp; split <;> exact cmp_range _ _
theorem kcmp_neg (k : Nat) (a b : List Nat) : kcmp k a b = - kcmp k b a := by
  unfold kcmp
  rw [cmp_neg (enc (key k b)) (enc (key k a)), cmp_neg (enc b) (enc a)]
  by_cases h : Lib.compareBytes (enc (key k a)) (enc (key k b)) = 0
  · simp [h]
  · simp [h]
theorem kcmp_eq (k : Nat) (a b : List Nat) (ha : okt a = true) (hb : okt b = true) : kcmp k a b = 0 ↔ a = b := by
  unfold kcmp
  by_cases h : Lib.compareBytes (enc (key k a)) (enc (key k b)) = 0
  · rw [if_neg (by simp [h]), cmp_eq]
    exact ⟨fun e => enc_inj a b ha hb e, fun e => by rw [e]⟩
  · rw [if_pos h]
    constructor
    · intro e; exact absurd e h
    · rintro rfl; exact absurd ((cmp_eq _ _).2 rfl) h
theorem kcmp_trans (k : Nat) (a b c : List Nat) (h1 : kcmp k a b ≤ 0) (h2 : kcmp k b c ≤ 0) : kcmp k a c ≤ 0 ∧ ((kcmp k a b < 0 ∨ kcmp k b c < 0) → kcmp k a c < 0) := by
  have t1 := cmp_trans (enc (key k a)) (enc (key k b)) (enc (key k c))
  have t2 := cmp_trans (enc a) (enc b) (enc c)
  have e1 := cmp_eq (enc (key k a)) (enc (key k b))
  have e2 := cmp_eq (enc (key k b)) (enc (key k c))
  have yes : ∀ x y, Lib.compareBytes (enc (key k x)) (enc (key k y)) = 0 → kcmp k x y = Lib.compareBytes (enc x) (enc y) := fun x y h => by unfold kcmp; rw [if_neg (by simp [h])]
  have no : ∀ x y, Lib.compareBytes (enc (key k x)) (enc (key k y)) ≠ 0 → kcmp k x y = Lib.compareBytes (enc (key k x)) (enc (key k y)) := fun x y h => by unfold kcmp; rw [if_pos h]
  by_cases p : Lib.compareBytes (enc (key k a)) (enc (key k b)) = 0
  · rw [yes a b p] at h1 ⊢
    by_cases r : Lib.compareBytes (enc (key k b)) (enc (key k c)) = 0
    · rw [yes b c r] at h2 ⊢
      rw [yes a c (by rw [e1.1 p]; exact r)]
      exact t2 h1 h2
    · rw [no b c r] at h2 ⊢
      rw [no a c (by rw [e1.1 p]; exact r), e1.1 p]
      exact ⟨h2, fun _ => by omega⟩
  · rw [no a b p] at h1 ⊢
    by_cases r : Lib.compareBytes (enc (key k b)) (enc (key k c)) = 0
    · rw [yes b c r] at h2 ⊢
      rw [no a c (by rw [← e2.1 r]; exact p), ← e2.1 r]
      exact ⟨h1, fun _ => by omega⟩
    · rw [no b c r] at h2 ⊢
      obtain ⟨t3, t4⟩ := t1 h1 h2
      have t5 := t4 (.inl (by omega))
      rw [no a c (by omega)]
      exact ⟨t3, t4⟩

/-! ### separators around and within a text -/
theorem replA_append (k : Nat) (a b : List Nat) : replA k (a ++ b) = replA k a ++ replA k b := by simp [replA]
theorem fields_front (p : Nat → Bool) (s b : List Nat) (h : ∀ c ∈ s, p c = true) : fields p (s ++ b) = fields p b := by
  induction s with
  | nil => rfl
  | cons c r ih =>
    have := fields_sep p c (h c (by simp)) [] (r ++ b)
    rw [List.nil_append] at this
    rw [List.cons_append, this, ih (fun x hx => h x (by simp [hx]))]; rfl
theorem fields_back (p : Nat → Bool) (s b : List Nat) (h : ∀ c ∈ s, p c = true) : fields p (b ++ s) = fields p b := by
  cases s with
  | nil => rw [List.append_nil]
  | cons c r =>
    rw [fields_sep p c (h c (by simp)) b r]
    have := fields_front p r [] (fun x hx => h x (by simp [hx]))
    rw [List.append_nil] at this
    rw [this]; simp [fields, fgo]
/-- Characters that stay as they are and are no letters of keys. -/
def sepc (c : Nat) : Prop := (∀ k, repl k c = [c]) ∧ foldc c = [c] ∧ nokl c = true
theorem sep_all (k : Nat) : ∀ s : List Nat, (∀ c ∈ s, sepc c) → fold (replA k s) = s
  | [], _ => rfl
  | c :: r, h => by
    have hc := h c (by simp)
    show fold (repl k c ++ replA k r) = _
    rw [hc.1 k, fold_append, sep_all k r (fun x hx => h x (by simp [hx]))]
    rw [show fold [c] = foldc c from by simp [fold], hc.2.1]; rfl
theorem key_around (k : Nat) (s t cs : List Nat) (hs : ∀ c ∈ s, sepc c) (ht : ∀ c ∈ t, sepc c) : key k (s ++ cs ++ t) = key k cs := by
  unfold key
  rw [replA_append, replA_append, fold_append, fold_append, sep_all k s hs, sep_all k t ht,
    fields_back nokl t _ (fun c hc => (ht c hc).2.2), fields_front nokl s _ (fun c hc => (hs c hc).2.2)]
theorem sepc_of (c : Nat) (h : c = 32 ∨ c = 33 ∨ c = 34 ∨ c = 40 ∨ c = 41) : sepc c := by
  refine ⟨fun k => ?_, ?_, ?_⟩
  · unfold repl
    rw [if_neg (by omega)]
    repeat' split
    all_goals first | rfl | (exfalso; omega)
  · unfold foldc; rw [if_neg (by omega), if_pos (by omega)]
  · rcases h with rfl | rfl | rfl | rfl | rfl <;> rfl
theorem key_gap (k : Nat) (a b : List Nat) : key k (a ++ 32 :: b) = key k (a ++ 32 :: 32 :: b) := by
  have h32 : sepc 32 := sepc_of 32 (by omega)
  have e1 : ∀ x : List Nat, fold (replA k (32 :: x)) = 32 :: fold (replA k x) := by
    intro x
    show fold (repl k 32 ++ replA k x) = _
    rw [h32.1 k, fold_append]; rfl
  unfold key
  rw [replA_append, replA_append, fold_append, fold_append, e1, e1, e1, fields_sep nokl 32 rfl, fields_sep nokl 32 rfl]
  have := fields_front nokl [32] (fold (replA k b)) (by simp [nokl, kletter])
  rw [List.singleton_append] at this
  rw [this]
/-- Small letters, digits and blanks alone. -/
def plainc (c : Nat) : Bool := (97 ≤ c && c ≤ 122) || (48 ≤ c && c ≤ 57) || c == 32
theorem key_plain (cs : List Nat) (k : Nat) (h : ∀ c ∈ key k cs, plainc c = true) : key 1 (key k cs) = key k cs := by
  have h1 : ∀ l : List Nat, (∀ c ∈ l, plainc c = true) → fold (replA 1 l) = l := by
    intro l
    induction l with
    | nil => intro _; rfl
    | cons c r ih =>
      intro hl
      have hc := hl c (by simp)
      simp [plainc] at hc
      have hr : repl 1 c = [c] := by unfold repl; rw [if_neg (by omega), if_neg (by omega), if_neg (by omega), if_neg (by omega)]
      have hf : foldc c = [c] := by unfold foldc; rw [if_neg (by omega), if_pos (by omega)]
      show fold (repl 1 c ++ replA 1 r) = _
      rw [hr, fold_append, ih (fun x hx => hl x (by simp [hx]))]
      rw [show fold [c] = foldc c from by simp [fold], hf]; rfl
  show glue (fields nokl (fold (replA 1 (key k cs)))) = _
  rw [h1 _ h]
  show glue (fields nokl (glue (fields nokl (fold (replA k cs))))) = _
  rw [fields_glue_fields nokl rfl]; rfl
end Go.Proofs.YtieapjdkbigejaaDoor
