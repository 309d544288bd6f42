/- Plain Lean: records, their fields, and what a version asks of them (layer 18). No program in sight. -/
import Derived.Test.YtkfjeolpbopcnaaGreatDoorTxtb
import Derived.Lib.Strings
namespace Go.Proofs.YtkfjeolpbopcnaaGreatDoor
open Go

/-- A field: its tag, its indicators, its subfields (a code and a value each), its authority; sa, sc: where the slice of its subfields begins, and its capacity. -/
structure Fld where
  tag : List UInt8
  ind : List UInt8
  subs : List (Nat × ByteArray)
  auth : Int
  sa : Option Addr
  sc : Nat
def tg (a b c : UInt8) : List UInt8 := [a, b, c]
def t260 : List UInt8 := tg 50 54 48
def t264 : List UInt8 := tg 50 54 52
def t440 : List UInt8 := tg 52 52 48
def t490 : List UInt8 := tg 52 57 48
def t830 : List UInt8 := tg 56 51 48
/-- May the field at place i stand in a list of this version? -/
def fitsAt (ver : Int) (l : List Fld) (i : Nat) : Bool :=
  match l[i]? with
  | none => true
  | some f =>
    if f.tag = t260 then decide (ver = 1) && f.ind[1]? == some 32
    else if f.tag = t264 then decide (1 < ver) && f.ind[1]? == some 49
    else if f.tag = t440 then decide (ver < 3) && f.ind[0]? == some 32
    else if f.tag = t490 then decide (ver = 3) && f.ind[0]? == some 49 && decide (f.auth = 0) && (l[i + 1]?.map (·.tag)) == some t830
    else if f.tag = t830 then decide (ver = 3) && decide (0 < i) && (l[i - 1]?.map (·.tag)) == some t490
    else true
def conforms (ver : Int) (l : List Fld) : Bool := (List.range l.length).all (fitsAt ver l)
/-- As the program asks for pairs of 490 and 830. -/
def paired : List Fld → Bool
  | [] => true
  | f :: r =>
    if f.tag = t830 then false
    else if f.tag = t490 then
      match r with
      | [] => false
      | g :: r' => decide (f.auth = 0) && decide (g.tag = t830) && paired r'
    else paired r
/-- The same, told by the tags of the neighbours. -/
def fitsBy (ver : Int) (prev next : Option (List UInt8)) (f : Fld) : Bool :=
  if f.tag = t260 then decide (ver = 1) && f.ind[1]? == some 32
  else if f.tag = t264 then decide (1 < ver) && f.ind[1]? == some 49
  else if f.tag = t440 then decide (ver < 3) && f.ind[0]? == some 32
  else if f.tag = t490 then decide (ver = 3) && f.ind[0]? == some 49 && decide (f.auth = 0) && next == some t830
  else if f.tag = t830 then decide (ver = 3) && prev == some t490
  else true
def fitsRec (ver : Int) : Option (List UInt8) → List Fld → Bool
  | _, [] => true
  | prev, f :: r => fitsBy ver prev (r.head?.map (·.tag)) f && fitsRec ver (some f.tag) r
theorem fitsAt_by (ver : Int) (pre : List Fld) (f : Fld) (r : List Fld) : fitsAt ver (pre ++ f :: r) pre.length = fitsBy ver (pre.getLast?.map (·.tag)) (r.head?.map (·.tag)) f := by
  have h0 : (pre ++ f :: r)[pre.length]? = some f := by rw [List.getElem?_append_right (Nat.le_refl _), Nat.sub_self]; rfl
  have h1 : (pre ++ f :: r)[pre.length + 1]? = r.head? := by
    rw [List.getElem?_append_right (by omega), show pre.length + 1 - pre.length = 1 by omega, List.getElem?_cons_succ, ← List.head?_eq_getElem?]
  unfold fitsAt fitsBy
  rw [h0, h1]
  rcases List.eq_nil_or_concat pre with rfl | ⟨q, g, rfl⟩
  · simp
  · rw [List.concat_eq_append]
    have h2 : (q ++ [g] ++ f :: r)[(q ++ [g]).length - 1]? = some g := by
      rw [List.append_assoc, List.length_append, List.length_singleton, Nat.add_sub_cancel, List.getElem?_append_right (Nat.le_refl _), Nat.sub_self]
      rfl
    have h3 : 0 < (q ++ [g]).length := by simp
    simp only [h2, h3, decide_true, Bool.and_true, List.getLast?_append, List.getLast?_singleton, Option.some_or, Option.map_some]
theorem conforms_rec (ver : Int) : ∀ (r pre : List Fld), ((List.range r.length).all fun i => fitsAt ver (pre ++ r) (pre.length + i)) = fitsRec ver (pre.getLast?.map (·.tag)) r
  | [], pre => by simp [fitsRec]
  | f :: r, pre => by
    rw [List.length_cons, List.range_succ_eq_map, List.all_cons, Nat.add_zero, fitsAt_by, List.all_map]
    unfold fitsRec
    have ih := conforms_rec ver r (pre ++ [f])
    rw [List.append_assoc, List.singleton_append, List.getLast?_append] at ih
    simp only [List.getLast?_singleton, Option.some_or, Option.map_some] at ih
    rw [← ih]
    congr 1
    congr 1
    funext i
    simp only [Function.comp_apply, List.length_append, List.length_singleton]
    congr 1
    omega
theorem conforms_eq (ver : Int) (l : List Fld) : conforms ver l = fitsRec ver none l := by
  have := conforms_rec ver l []
  simpa [conforms] using this
/-- Pairs alone, by the neighbours. -/
def pairRec : Option (List UInt8) → List Fld → Bool
  | _, [] => true
  | prev, f :: r => (if f.tag = t490 then decide (f.auth = 0) && (r.head?.map (·.tag)) == some t830 else if f.tag = t830 then prev == some t490 else true) && pairRec (some f.tag) r
theorem paired_rec : ∀ (n : Nat) (l : List Fld) (p : Option (List UInt8)), l.length ≤ n → p ≠ some t490 → pairRec p l = paired l
  | _, [], _, _, _ => by simp [pairRec, paired]
  | 0, f :: r, _, h, _ => by simp at h
  | n + 1, f :: r, p, h, hp => by
    simp only [List.length_cons] at h
    unfold pairRec paired
    by_cases h8 : f.tag = t830
    · have h9 : ¬ f.tag = t490 := by rw [h8]; decide
      have hb : (p == some t490) = false := by simpa using hp
      rw [if_neg h9, if_pos h8, if_pos h8, hb]; simp
    · by_cases h9 : f.tag = t490
      · rw [if_pos h9, if_neg h8, if_pos h9]
        cases r with
        | nil => simp
        | cons g r' =>
          simp only [List.head?_cons, Option.map_some]
          by_cases hg : g.tag = t830
          · have hg9 : ¬ g.tag = t490 := by rw [hg]; decide
            have ih := paired_rec n r' (some g.tag) (by simp only [List.length_cons] at h; omega) (by rw [hg]; decide)
            unfold pairRec
            rw [if_neg hg9, if_pos hg, ih, h9, hg]; simp
          · have hb : (some g.tag == some t830) = false := by simpa using hg
            rw [hb]; simp [hg]
      · rw [if_neg h9, if_neg h8, if_neg h8, if_neg h9, Bool.true_and]
        exact paired_rec n r (some f.tag) (by omega) (by simpa using h9)
/-- As the program asks. -/
def hasTag (ts : List (List UInt8)) (l : List Fld) : Bool := l.any fun f => ts.contains f.tag
def indicated (t : List UInt8) (i : Nat) (b : UInt8) (l : List Fld) : Bool := l.all fun f => !(f.tag == t && !(f.ind[i]? == some b))
def rightV (ver : Int) (l : List Fld) : Bool :=
  if ver = 1 then !hasTag [t264, t490, t830] l && indicated t260 1 32 l && indicated t440 0 32 l
  else if ver = 2 then !hasTag [t260, t490, t830] l && indicated t264 1 49 l && indicated t440 0 32 l
  else !hasTag [t260, t440] l && indicated t264 1 49 l && indicated t490 0 49 l && paired l
theorem tags_differ : t260 ≠ t264 ∧ t260 ≠ t440 ∧ t260 ≠ t490 ∧ t260 ≠ t830 ∧ t264 ≠ t440 ∧ t264 ≠ t490 ∧ t264 ≠ t830 ∧ t440 ≠ t490 ∧ t440 ≠ t830 ∧ t490 ≠ t830 := by decide
theorem any_not {α : Type} (p : α → Bool) (l : List α) : (!l.any p) = l.all fun x => !p x := by
  induction l with
  | nil => rfl
  | cons a l ih => rw [List.any_cons, List.all_cons, ← ih, Bool.not_or]
theorem all_and {α : Type} (p q : α → Bool) (l : List α) : (l.all p && l.all q) = l.all fun x => p x && q x := by
  induction l with
  | nil => rfl
  | cons a l ih =>
    rw [List.all_cons, List.all_cons, List.all_cons, ← ih]
    cases p a <;> cases q a <;> simp
/-- What a field must be by itself. -/
def alone (ver : Int) (f : Fld) : Bool :=
  if f.tag = t260 then decide (ver = 1) && f.ind[1]? == some 32
  else if f.tag = t264 then decide (1 < ver) && f.ind[1]? == some 49
  else if f.tag = t440 then decide (ver < 3) && f.ind[0]? == some 32
  else if f.tag = t490 then decide (ver = 3) && f.ind[0]? == some 49
  else if f.tag = t830 then decide (ver = 3)
  else true
theorem fitsBy_alone (ver : Int) (prev next : Option (List UInt8)) (f : Fld) : fitsBy ver prev next f = (alone ver f && (if f.tag = t490 then decide (f.auth = 0) && next == some t830 else if f.tag = t830 then prev == some t490 else true)) := by
  obtain ⟨d1, d2, d3, d4, d5, d6, d7, d8, d9, d10⟩ := tags_differ
  unfold fitsBy alone
  by_cases a1 : f.tag = t260
  · rw [if_pos a1, if_pos a1, if_neg (by rw [a1]; exact d3), if_neg (by rw [a1]; exact d4), Bool.and_true]
  · rw [if_neg a1, if_neg a1]
    by_cases a2 : f.tag = t264
    · rw [if_pos a2, if_pos a2, if_neg (by rw [a2]; exact d6), if_neg (by rw [a2]; exact d7), Bool.and_true]
    · rw [if_neg a2, if_neg a2]
      by_cases a3 : f.tag = t440
      · rw [if_pos a3, if_pos a3, if_neg (by rw [a3]; exact d8), if_neg (by rw [a3]; exact d9), Bool.and_true]
      · rw [if_neg a3, if_neg a3]
        by_cases a4 : f.tag = t490
        · rw [if_pos a4, if_pos a4, if_pos a4]; simp [Bool.and_assoc]
        · rw [if_neg a4, if_neg a4, if_neg a4]
          by_cases a5 : f.tag = t830
          · rw [if_pos a5, if_pos a5, if_pos a5]
          · rw [if_neg a5, if_neg a5, if_neg a5]; rfl
theorem fitsRec_alone (ver : Int) : ∀ (l : List Fld) (p : Option (List UInt8)), fitsRec ver p l = (l.all (alone ver) && pairRec p l)
  | [], _ => rfl
  | f :: r, p => by
    unfold fitsRec pairRec
    rw [fitsBy_alone, fitsRec_alone ver r, List.all_cons]
    generalize alone ver f = a
    generalize r.all (alone ver) = b
    generalize pairRec (some f.tag) r = c
    generalize (if f.tag = t490 then decide (f.auth = 0) && (r.head?.map (·.tag)) == some t830 else if f.tag = t830 then p == some t490 else true) = d
    cases a <;> cases b <;> cases c <;> cases d <;> rfl
theorem pair_none {ver : Int} (hv : ver ≠ 3) : ∀ (l : List Fld) (p : Option (List UInt8)), l.all (alone ver) = true → pairRec p l = true
  | [], _, _ => rfl
  | f :: r, p, h => by
    rw [List.all_cons, Bool.and_eq_true] at h
    obtain ⟨d1, d2, d3, d4, d5, d6, d7, d8, d9, d10⟩ := tags_differ
    have h1 := h.1
    unfold alone at h1
    unfold pairRec
    by_cases a4 : f.tag = t490
    · rw [if_neg (by rw [a4]; exact fun e => d3 e.symm), if_neg (by rw [a4]; exact fun e => d6 e.symm), if_neg (by rw [a4]; exact fun e => d8 e.symm), if_pos a4, decide_eq_false hv] at h1
      cases h1
    · by_cases a5 : f.tag = t830
      · rw [if_neg (by rw [a5]; exact fun e => d4 e.symm), if_neg (by rw [a5]; exact fun e => d7 e.symm), if_neg (by rw [a5]; exact fun e => d9 e.symm), if_neg a4, if_pos a5, decide_eq_false hv] at h1
        cases h1
      · rw [if_neg a4, if_neg a5, pair_none hv r _ h.2]; rfl
theorem alone_one (f : Fld) : alone 1 f = ((!([t264, t490, t830].contains f.tag) && !(f.tag == t260 && !(f.ind[1]? == some 32))) && !(f.tag == t440 && !(f.ind[0]? == some 32))) := by
  unfold alone
  by_cases a1 : f.tag = t260
  · rw [if_pos a1, a1]; simp [t260, t264, t490, t830, t440, tg]
  · rw [if_neg a1]
    by_cases a2 : f.tag = t264
    · rw [if_pos a2, a2]; simp
    · rw [if_neg a2]
      by_cases a3 : f.tag = t440
      · rw [if_pos a3, a3]; simp [t260, t264, t490, t830, t440, tg]
      · rw [if_neg a3]
        by_cases a4 : f.tag = t490
        · rw [if_pos a4, a4]; simp
        · rw [if_neg a4]
          by_cases a5 : f.tag = t830
          · rw [if_pos a5, a5]; simp
          · rw [if_neg a5]; simp [a1, a2, a3, a4, a5]
theorem alone_two (f : Fld) : alone 2 f = ((!([t260, t490, t830].contains f.tag) && !(f.tag == t264 && !(f.ind[1]? == some 49))) && !(f.tag == t440 && !(f.ind[0]? == some 32))) := by
  unfold alone
  by_cases a1 : f.tag = t260
  · rw [if_pos a1, a1]; simp
  · rw [if_neg a1]
    by_cases a2 : f.tag = t264
    · rw [if_pos a2, a2]; simp [t260, t264, t490, t830, t440, tg]
    · rw [if_neg a2]
      by_cases a3 : f.tag = t440
      · rw [if_pos a3, a3]; simp [t260, t264, t490, t830, t440, tg]
      · rw [if_neg a3]
        by_cases a4 : f.tag = t490
        · rw [if_pos a4, a4]; simp
        · rw [if_neg a4]
          by_cases a5 : f.tag = t830
          · rw [if_pos a5, a5]; simp
          · rw [if_neg a5]; simp [a1, a2, a3, a4, a5]
theorem alone_three (f : Fld) : alone 3 f = ((!([t260, t440].contains f.tag) && !(f.tag == t264 && !(f.ind[1]? == some 49))) && !(f.tag == t490 && !(f.ind[0]? == some 49))) := by
  unfold alone
  by_cases a1 : f.tag = t260
  · rw [if_pos a1, a1]; simp
  · rw [if_neg a1]
    by_cases a2 : f.tag = t264
    · rw [if_pos a2, a2]; simp [t260, t264, t490, t440, tg]
    · rw [if_neg a2]
      by_cases a3 : f.tag = t440
      · rw [if_pos a3, a3]; simp
      · rw [if_neg a3]
        by_cases a4 : f.tag = t490
        · rw [if_pos a4, a4]; simp [t260, t264, t490, t440, tg]
        · rw [if_neg a4]
          by_cases a5 : f.tag = t830
          · rw [if_pos a5, a5]; simp [t260, t264, t490, t830, t440, tg]
          · rw [if_neg a5]; simp [a1, a2, a3, a4]
/-- The program's question is the chapter's. -/
theorem rightV_eq {ver : Int} (h : ver = 1 ∨ ver = 2 ∨ ver = 3) (l : List Fld) : rightV ver l = conforms ver l := by
  rw [conforms_eq, fitsRec_alone]
  rcases h with rfl | rfl | rfl
  · have e : (l.all (alone 1) && pairRec none l) = l.all (alone 1) := by
      cases hh : l.all (alone 1) with
      | false => rfl
      | true => rw [pair_none (by decide) l none hh]; rfl
    rw [e]
    unfold rightV hasTag indicated
    rw [if_pos rfl, any_not, all_and, all_and]
    exact congrArg _ (funext fun f => (alone_one f).symm)
  · have e : (l.all (alone 2) && pairRec none l) = l.all (alone 2) := by
      cases hh : l.all (alone 2) with
      | false => rfl
      | true => rw [pair_none (by decide) l none hh]; rfl
    rw [e]
    unfold rightV hasTag indicated
    rw [if_neg (by decide), if_pos rfl, any_not, all_and, all_and]
    exact congrArg _ (funext fun f => (alone_two f).symm)
  · rw [paired_rec l.length l none (Nat.le_refl _) (by simp)]
    unfold rightV hasTag indicated
    rw [if_neg (by decide), if_neg (by decide), any_not, all_and, all_and]
    congr 1
    exact congrArg _ (funext fun f => (alone_three f).symm)
end Go.Proofs.YtkfjeolpbopcnaaGreatDoor
