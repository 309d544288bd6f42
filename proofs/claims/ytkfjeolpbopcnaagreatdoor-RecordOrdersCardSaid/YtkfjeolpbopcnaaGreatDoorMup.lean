/- Plain Lean: a version up and a version down on the fields of a record (layer 18). No program in sight. -/
import Derived.Test.YtkfjeolpbopcnaaGreatDoorMpl
namespace Go.Proofs.YtkfjeolpbopcnaaGreatDoor
open Go

def withF (f : Fld) (tag ind : List UInt8) (auth : Int) : Fld := { f with tag := tag, ind := ind, auth := auth }
def sameF (f g : Fld) : Bool := decide (f.tag = g.tag) && decide (f.ind = g.ind) && decide (f.auth = g.auth) && decide (f.subs = g.subs)
theorem sameF_refl (f : Fld) : sameF f f = true := by simp [sameF]
/-- A field in the next version. -/
def raise (ver : Int) (f : Fld) : List Fld :=
  if ver = 1 ∧ f.tag = t260 then [withF f t264 (f.ind.take 1 ++ [49]) f.auth]
  else if ver = 2 ∧ f.tag = t440 then [withF f t490 (49 :: f.ind.drop 1) 0, withF f t830 (32 :: f.ind.drop 1) f.auth]
  else [f]
def upL (ver : Int) (l : List Fld) : List Fld := l.flatMap (raise ver)
/-- The fields in the version before, or refused. -/
def downL (ver : Int) : List Fld → Option (List Fld)
  | [] => some []
  | [f] => if ver = 2 ∧ f.tag = t264 then some [withF f t260 (f.ind.take 1 ++ [32]) f.auth] else if ver = 3 ∧ f.tag = t490 then none else some [f]
  | f :: g :: r =>
    if ver = 2 ∧ f.tag = t264 then (downL ver (g :: r)).map (withF f t260 (f.ind.take 1 ++ [32]) f.auth :: ·)
    else if ver = 3 ∧ f.tag = t490 then (if sameF g (withF f t830 (32 :: f.ind.drop 1) g.auth) = true then (downL ver r).map (withF g t440 g.ind g.auth :: ·) else none)
    else (downL ver (g :: r)).map (f :: ·)
theorem downL_back {ver : Int} {f : Fld} (h : ver = 2 ∧ f.tag = t264) (r : List Fld) : downL ver (f :: r) = (downL ver r).map (withF f t260 (f.ind.take 1 ++ [32]) f.auth :: ·) := by
  cases r with
  | nil => simp only [downL]; rw [if_pos h]; rfl
  | cons g r => rw [downL, if_pos h]
theorem downL_keep {ver : Int} {f : Fld} (h : ¬ (ver = 2 ∧ f.tag = t264)) (h2 : ¬ (ver = 3 ∧ f.tag = t490)) (r : List Fld) : downL ver (f :: r) = (downL ver r).map (f :: ·) := by
  cases r with
  | nil => simp only [downL]; rw [if_neg h, if_neg h2]; rfl
  | cons g r => rw [downL, if_neg h, if_neg h2]
theorem downL_pair {ver : Int} {f g : Fld} (h : ¬ (ver = 2 ∧ f.tag = t264)) (h2 : ver = 3 ∧ f.tag = t490) (hs : sameF g (withF f t830 (32 :: f.ind.drop 1) g.auth) = true) (r : List Fld) : downL ver (f :: g :: r) = (downL ver r).map (withF g t440 g.ind g.auth :: ·) := by
  rw [downL, if_neg h, if_pos h2, if_pos hs]
theorem ind_one {i : List UInt8} {b : UInt8} (h2 : i.length = 2) (h : (i[1]? == some b) = true) : i.take 1 ++ [b] = i := by
  match i, h2 with
  | [x, y], _ =>
    simp at h
    simp [h]
theorem ind_zero {i : List UInt8} {b : UInt8} (h2 : i.length = 2) (h : (i[0]? == some b) = true) : b :: i.drop 1 = i := by
  match i, h2 with
  | [x, y], _ =>
    simp at h
    simp [h]
/-- Up from version 1, and down again: as it was. -/
theorem up_down_one : ∀ l : List Fld, (∀ f ∈ l, f.ind.length = 2) → l.all (alone 1) = true → downL 2 (upL 1 l) = some l
  | [], _, _ => rfl
  | f :: r, hi, h => by
    rw [List.all_cons, Bool.and_eq_true] at h
    have ih := up_down_one r (fun g hg => hi g (List.mem_cons_of_mem _ hg)) h.2
    have h1 := h.1
    have hf := hi f List.mem_cons_self
    have hu : upL 1 (f :: r) = raise 1 f ++ upL 1 r := rfl
    rw [hu]
    by_cases a1 : f.tag = t260
    · unfold alone at h1
      rw [if_pos a1] at h1
      have hx : (f.ind[1]? == some 32) = true := by simpa using h1
      unfold raise
      rw [if_pos ⟨rfl, a1⟩, List.singleton_append]
      rw [downL_back ⟨rfl, rfl⟩, ih]
      have e1 : (f.ind.take 1 ++ [49]).take 1 ++ [32] = f.ind := by
        have := ind_one hf hx
        match hq : f.ind, hf with
        | [x, y], _ => rw [hq] at this; simpa using this
      simp only [Option.map_some, withF, e1]
      rw [← a1]
    · unfold raise
      rw [if_neg (fun e => a1 e.2), if_neg (fun e => by cases e.1), List.singleton_append]
      have a2 : f.tag ≠ t264 := by
        intro e
        unfold alone at h1
        rw [if_neg a1, if_pos e] at h1
        simp at h1
      rw [downL_keep (fun e => a2 e.2) (fun e => by cases e.1), ih]
      rfl
/-- Up from version 2, and down again: as it was. -/
theorem up_down_two : ∀ l : List Fld, (∀ f ∈ l, f.ind.length = 2) → l.all (alone 2) = true → downL 3 (upL 2 l) = some l
  | [], _, _ => rfl
  | f :: r, hi, h => by
    rw [List.all_cons, Bool.and_eq_true] at h
    have ih := up_down_two r (fun g hg => hi g (List.mem_cons_of_mem _ hg)) h.2
    have h1 := h.1
    have hf := hi f List.mem_cons_self
    have hu : upL 2 (f :: r) = raise 2 f ++ upL 2 r := rfl
    obtain ⟨d1, d2, d3, d4, d5, d6, d7, d8, d9, d10⟩ := tags_differ
    rw [hu]
    by_cases a3 : f.tag = t440
    · unfold alone at h1
      rw [if_neg (by rw [a3]; exact fun e => d2 e.symm), if_neg (by rw [a3]; exact fun e => d5 e.symm), if_pos a3] at h1
      have hx : (f.ind[0]? == some 32) = true := by simpa using h1
      have e0 := ind_zero hf hx
      unfold raise
      rw [if_neg (fun e => by cases e.1), if_pos ⟨rfl, a3⟩]
      show downL 3 (withF f t490 (49 :: f.ind.drop 1) 0 :: withF f t830 (32 :: f.ind.drop 1) f.auth :: upL 2 r) = _
      have es : sameF (withF f t830 (32 :: f.ind.drop 1) f.auth) (withF (withF f t490 (49 :: f.ind.drop 1) 0) t830 (32 :: (withF f t490 (49 :: f.ind.drop 1) 0).ind.drop 1) (withF f t830 (32 :: f.ind.drop 1) f.auth).auth) = true := by
        simp [sameF, withF]
      rw [downL_pair (fun e => by cases e.1) ⟨rfl, rfl⟩ es, ih]
      simp only [Option.map_some, withF, e0]
      rw [← a3]
    · unfold raise
      rw [if_neg (fun e => by cases e.1), if_neg (fun e => a3 e.2), List.singleton_append]
      have a4 : f.tag ≠ t490 := by
        intro e
        unfold alone at h1
        rw [if_neg (by rw [e]; exact fun e => d3 e.symm), if_neg (by rw [e]; exact fun e => d6 e.symm), if_neg a3, if_pos e] at h1
        simp at h1
      rw [downL_keep (fun e => by cases e.1) (fun e => a4 e.2), ih]
      rfl
/-- Up from version 1: it conforms to version 2. -/
theorem up_fits_one : ∀ l : List Fld, (∀ f ∈ l, f.ind.length = 2) → l.all (alone 1) = true → (upL 1 l).all (alone 2) = true
  | [], _, _ => rfl
  | f :: r, hi, h => by
    rw [List.all_cons, Bool.and_eq_true] at h
    have ih := up_fits_one r (fun g hg => hi g (List.mem_cons_of_mem _ hg)) h.2
    have h1 := h.1
    have hf := hi f List.mem_cons_self
    obtain ⟨d1, d2, d3, d4, d5, d6, d7, d8, d9, d10⟩ := tags_differ
    have hu : upL 1 (f :: r) = raise 1 f ++ upL 1 r := rfl
    rw [hu, List.all_append, ih, Bool.and_true]
    by_cases a1 : f.tag = t260
    · unfold raise
      rw [if_pos ⟨rfl, a1⟩, List.all_cons, List.all_nil, Bool.and_true]
      unfold alone
      rw [if_neg (show ¬ (withF f t264 (f.ind.take 1 ++ [49]) f.auth).tag = t260 from fun e => d1 e.symm), if_pos (show (withF f t264 (f.ind.take 1 ++ [49]) f.auth).tag = t264 from rfl)]
      match hq : f.ind, hf with
      | [x, y], _ => simp [withF]
    · unfold raise
      rw [if_neg (fun e => a1 e.2), if_neg (fun e => by cases e.1), List.all_cons, List.all_nil, Bool.and_true]
      unfold alone at h1 ⊢
      rw [if_neg a1] at h1 ⊢
      by_cases a2 : f.tag = t264
      · rw [if_pos a2] at h1; simp at h1
      · rw [if_neg a2] at h1 ⊢
        by_cases a3 : f.tag = t440
        · rw [if_pos a3] at h1 ⊢
          simpa using h1
        · rw [if_neg a3] at h1 ⊢
          by_cases a4 : f.tag = t490
          · rw [if_pos a4] at h1; simp at h1
          · rw [if_neg a4] at h1 ⊢
            by_cases a5 : f.tag = t830
            · rw [if_pos a5] at h1; simp at h1
            · rw [if_neg a5]
/-- Up from version 2: it conforms to version 3, pairs and all. -/
theorem up_fits_two : ∀ (l : List Fld) (p : Option (List UInt8)), (∀ f ∈ l, f.ind.length = 2) → l.all (alone 2) = true → (upL 2 l).all (alone 3) = true ∧ pairRec p (upL 2 l) = true
  | [], _, _, _ => ⟨rfl, rfl⟩
  | f :: r, p, hi, h => by
    rw [List.all_cons, Bool.and_eq_true] at h
    have hir := fun g hg => hi g (List.mem_cons_of_mem _ hg)
    have h1 := h.1
    have hf := hi f List.mem_cons_self
    obtain ⟨d1, d2, d3, d4, d5, d6, d7, d8, d9, d10⟩ := tags_differ
    have hu : upL 2 (f :: r) = raise 2 f ++ upL 2 r := rfl
    rw [hu]
    by_cases a3 : f.tag = t440
    · obtain ⟨i1, i2⟩ := up_fits_two r (some t830) hir h.2
      have hr : raise 2 f = [withF f t490 (49 :: f.ind.drop 1) 0, withF f t830 (32 :: f.ind.drop 1) f.auth] := by
        unfold raise
        rw [if_neg (fun e => by cases e.1), if_pos ⟨rfl, a3⟩]
      rw [hr]
      refine ⟨?_, ?_⟩
      · rw [List.all_append, i1, Bool.and_true, List.all_cons, List.all_cons, List.all_nil, Bool.and_true]
        unfold alone
        have e1 : (withF f t490 (49 :: f.ind.drop 1) 0).tag = t490 := rfl
        have e2 : (withF f t830 (32 :: f.ind.drop 1) f.auth).tag = t830 := rfl
        rw [e1, e2, if_neg (fun e => d3 e.symm), if_neg (fun e => d6 e.symm), if_neg (fun e => d8 e.symm), if_pos rfl, if_neg (fun e => d4 e.symm), if_neg (fun e => d7 e.symm), if_neg (fun e => d9 e.symm), if_neg (fun e => d10 e.symm), if_pos rfl]
        simp [withF]
      · show pairRec p (withF f t490 (49 :: f.ind.drop 1) 0 :: withF f t830 (32 :: f.ind.drop 1) f.auth :: upL 2 r) = true
        have e1 : (withF f t490 (49 :: f.ind.drop 1) 0).tag = t490 := rfl
        have e2 : (withF f t830 (32 :: f.ind.drop 1) f.auth).tag = t830 := rfl
        rw [pairRec, e1, if_pos rfl, List.head?_cons, Option.map_some, e2, pairRec, e2, if_neg (fun e => d10 e.symm), if_pos rfl, i2]
        simp [withF]
    · have hr : raise 2 f = [f] := by
        unfold raise
        rw [if_neg (fun e => by cases e.1), if_neg (fun e => a3 e.2)]
      rw [hr, List.singleton_append]
      obtain ⟨i1, i2⟩ := up_fits_two r (some f.tag) hir h.2
      unfold alone at h1
      have a1 : f.tag ≠ t260 := fun e => by rw [if_pos e] at h1; simp at h1
      rw [if_neg a1] at h1
      have a4 : f.tag ≠ t490 := fun e => by
        rw [if_neg (by rw [e]; exact fun e => d6 e.symm), if_neg a3, if_pos e] at h1
        simp at h1
      have a5 : f.tag ≠ t830 := fun e => by
        rw [if_neg (by rw [e]; exact fun e => d7 e.symm), if_neg a3, if_neg a4, if_pos e] at h1
        simp at h1
      refine ⟨?_, ?_⟩
      · rw [List.all_cons, i1, Bool.and_true]
        unfold alone
        rw [if_neg a1]
        by_cases a2 : f.tag = t264
        · rw [if_pos a2] at h1 ⊢
          simpa using h1
        · rw [if_neg a2, if_neg a3, if_neg a4, if_neg a5]
      · rw [pairRec, if_neg a4, if_neg a5, i2]; rfl
theorem conforms_split (ver : Int) (l : List Fld) : conforms ver l = (l.all (alone ver) && pairRec none l) := by rw [conforms_eq, fitsRec_alone]
/-- A raised list conforms to the next version. -/
theorem up_conforms {ver : Int} (hv : ver = 1 ∨ ver = 2) {l : List Fld} (hi : ∀ f ∈ l, f.ind.length = 2) (h : conforms ver l = true) : conforms (ver + 1) (upL ver l) = true := by
  rw [conforms_split, Bool.and_eq_true] at h
  rw [conforms_split]
  rcases hv with rfl | rfl
  · have h1 := up_fits_one l hi h.1
    show ((upL 1 l).all (alone 2) && pairRec none (upL 1 l)) = true
    rw [h1, pair_none (by decide) _ none h1]
    rfl
  · obtain ⟨h1, h2⟩ := up_fits_two l none hi h.1
    show ((upL 2 l).all (alone 3) && pairRec none (upL 2 l)) = true
    rw [h1, h2]
    rfl
/-- .. and lowered again it is as it was. -/
theorem up_down {ver : Int} (hv : ver = 1 ∨ ver = 2) {l : List Fld} (hi : ∀ f ∈ l, f.ind.length = 2) (h : conforms ver l = true) : downL (ver + 1) (upL ver l) = some l := by
  rw [conforms_split, Bool.and_eq_true] at h
  rcases hv with rfl | rfl
  · exact up_down_one l hi h.1
  · exact up_down_two l hi h.1
/-- The fields that no version changes. -/
def restL (l : List Fld) : List Fld := l.filter fun f => !([t260, t264, t440, t490, t830].contains f.tag)
theorem up_rest (ver : Int) : ∀ l : List Fld, restL (upL ver l) = restL l
  | [] => rfl
  | f :: r => by
    have hu : upL ver (f :: r) = raise ver f ++ upL ver r := rfl
    have hs : restL (f :: r) = restL [f] ++ restL r := by
      unfold restL
      rw [← List.filter_append]; rfl
    have ha : restL (raise ver f ++ upL ver r) = restL (raise ver f) ++ restL (upL ver r) := List.filter_append _ _
    rw [hu, hs, ha, up_rest ver r]
    congr 1
    unfold raise
    split
    · rename_i h
      unfold restL
      simp [withF, h.2]
    · split
      · rename_i h
        unfold restL
        simp [withF, h.2]
      · rfl
end Go.Proofs.YtkfjeolpbopcnaaGreatDoor
