/- Plain Lean: a version down on the fields of a record, and up again; whole records, To and All (layer 18). No program in sight. -/
import Derived.Test.YtkfjeolpbopcnaaGreatDoorMup
namespace Go.Proofs.YtkfjeolpbopcnaaGreatDoor
open Go

/-- What Same sees of a field: not where its subfields lie. -/
def coreF (f : Fld) : List UInt8 × List UInt8 × List (Nat × ByteArray) × Int := (f.tag, f.ind, f.subs, f.auth)
theorem sameF_core (f g : Fld) : sameF f g = decide (coreF f = coreF g) := by
  unfold sameF coreF
  simp only [Prod.mk.injEq, Bool.decide_and]
  cases decide (f.tag = g.tag) <;> cases decide (f.ind = g.ind) <;> cases decide (f.auth = g.auth) <;> cases decide (f.subs = g.subs) <;> rfl
/-- Down from version 2: never refused; it conforms, and up again it is as it was. -/
theorem down_fits_two : ∀ l : List Fld, (∀ f ∈ l, f.ind.length = 2) → l.all (alone 2) = true → ∃ d, downL 2 l = some d ∧ d.all (alone 1) = true ∧ upL 1 d = l
  | [], _, _ => ⟨[], rfl, rfl, rfl⟩
  | f :: r, hi, h => by
    rw [List.all_cons, Bool.and_eq_true] at h
    obtain ⟨d, e1, e2, e3⟩ := down_fits_two r (fun g hg => hi g (List.mem_cons_of_mem _ hg)) h.2
    have h1 := h.1
    have hf := hi f List.mem_cons_self
    obtain ⟨d1, d2, d3, d4, d5, d6, d7, d8, d9, d10⟩ := tags_differ
    unfold alone at h1
    have a1 : f.tag ≠ t260 := fun e => by rw [if_pos e] at h1; simp at h1
    rw [if_neg a1] at h1
    by_cases a2 : f.tag = t264
    · rw [if_pos a2] at h1
      have hx : (f.ind[1]? == some 49) = true := by simpa using h1
      rw [downL_back ⟨rfl, a2⟩, e1]
      refine ⟨_, rfl, ?_, ?_⟩
      · rw [List.all_cons, e2, Bool.and_true]
        unfold alone
        rw [if_pos (show (withF f t260 (f.ind.take 1 ++ [32]) f.auth).tag = t260 from rfl)]
        match hq : f.ind, hf with
        | [x, y], _ => simp [withF]
      · show raise 1 (withF f t260 (f.ind.take 1 ++ [32]) f.auth) ++ upL 1 d = _
        rw [e3]
        unfold raise
        rw [if_pos ⟨rfl, rfl⟩, List.singleton_append]
        have e4 : (f.ind.take 1 ++ [32]).take 1 ++ [49] = f.ind := by
          have := ind_one hf hx
          match hq : f.ind, hf with
          | [x, y], _ => rw [hq] at this; simpa using this
        simp only [withF, e4]
        rw [← a2]
    · rw [if_neg a2] at h1
      rw [downL_keep (fun e => a2 e.2) (fun e => by cases e.1), e1]
      refine ⟨_, rfl, ?_, ?_⟩
      · rw [List.all_cons, e2, Bool.and_true]
        unfold alone
        rw [if_neg a1, if_neg a2]
        by_cases a3 : f.tag = t440
        · rw [if_pos a3] at h1 ⊢
          simpa using h1
        · rw [if_neg a3] at h1 ⊢
          by_cases a4 : f.tag = t490
          · rw [if_pos a4] at h1; simp at h1
          · rw [if_neg a4] at h1 ⊢
            by_cases a5 : f.tag = t830
            · rw [if_pos a5] at h1; simp at h1
            · rw [if_neg a5]
      · show raise 1 f ++ upL 1 d = _
        rw [e3]
        unfold raise
        rw [if_neg (fun e => a1 e.2), if_neg (fun e => by cases e.1), List.singleton_append]
/-- Down from version 3: if it is not refused it conforms, and up again it is the same. -/
theorem down_fits_three : ∀ (n : Nat) (l : List Fld), l.length ≤ n → (∀ f ∈ l, f.ind.length = 2) → l.all (alone 3) = true → paired l = true → ∀ d, downL 3 l = some d → d.all (alone 2) = true ∧ (upL 2 d).map coreF = l.map coreF
  | _, [], _, _, _, _, d, hd => by
    simp only [downL, Option.some.injEq] at hd
    subst hd
    exact ⟨rfl, rfl⟩
  | 0, f :: r, h, _, _, _, _, _ => by simp at h
  | n + 1, f :: r, hn, hi, h, hp, d, hd => by
    simp only [List.length_cons] at hn
    rw [List.all_cons, Bool.and_eq_true] at h
    have h1 := h.1
    have hf := hi f List.mem_cons_self
    obtain ⟨d1, d2, d3, d4, d5, d6, d7, d8, d9, d10⟩ := tags_differ
    unfold alone at h1
    have a1 : f.tag ≠ t260 := fun e => by rw [if_pos e] at h1; simp at h1
    rw [if_neg a1] at h1
    have a5 : f.tag ≠ t830 := fun e => by unfold paired at hp; rw [if_pos e] at hp; cases hp
    by_cases a4 : f.tag = t490
    · rw [if_neg (by rw [a4]; exact fun e => d6 e.symm), if_neg (by rw [a4]; exact fun e => d8 e.symm), if_pos a4] at h1
      have hx : (f.ind[0]? == some 49) = true := by simpa using h1
      unfold paired at hp
      rw [if_neg a5, if_pos a4] at hp
      cases r with
      | nil => simp at hp
      | cons g r' =>
        simp only [Bool.and_eq_true, decide_eq_true_eq] at hp
        obtain ⟨⟨p1, p2⟩, p3⟩ := hp
        rw [downL, if_neg (fun e => by cases e.1), if_pos ⟨rfl, a4⟩] at hd
        by_cases hs : sameF g (withF f t830 (32 :: f.ind.drop 1) g.auth) = true
        · rw [if_pos hs] at hd
          obtain ⟨d', hd', rfl⟩ := Option.map_eq_some_iff.1 hd
          have h2 := h.2
          rw [List.all_cons, Bool.and_eq_true] at h2
          obtain ⟨i1, i2⟩ := down_fits_three n r' (by simp only [List.length_cons] at hn; omega) (fun x hx => hi x (List.mem_cons_of_mem _ (List.mem_cons_of_mem _ hx))) h2.2 p3 d' hd'
          simp only [sameF, withF, Bool.and_eq_true, decide_true, and_true] at hs
          obtain ⟨⟨s1, s2⟩, s3⟩ := hs
          have s1 := of_decide_eq_true s1
          have s2 := of_decide_eq_true s2
          have s3 := of_decide_eq_true s3
          refine ⟨?_, ?_⟩
          · rw [List.all_cons, i1, Bool.and_true]
            unfold alone
            have e1 : (withF g t440 g.ind g.auth).tag = t440 := rfl
            have e2 : (withF g t440 g.ind g.auth).ind = 32 :: f.ind.drop 1 := s2
            rw [e1, e2, if_neg (fun e => d2 e.symm), if_neg (fun e => d5 e.symm), if_pos rfl]
            rfl
          · show ((raise 2 (withF g t440 g.ind g.auth)) ++ upL 2 d').map coreF = _
            rw [List.map_append, i2]
            unfold raise
            rw [if_neg (fun e => by cases e.1), if_pos ⟨rfl, rfl⟩]
            have e0 := ind_zero hf hx
            have e9 : g.ind.drop 1 = f.ind.drop 1 := by rw [s2]; rfl
            have c1 : coreF (withF (withF g t440 g.ind g.auth) t490 (49 :: (withF g t440 g.ind g.auth).ind.drop 1) 0) = coreF f := by
              show (t490, 49 :: g.ind.drop 1, g.subs, (0 : Int)) = (f.tag, f.ind, f.subs, f.auth)
              rw [e9, e0, s3, a4, p1]
            have c2 : coreF (withF (withF g t440 g.ind g.auth) t830 (32 :: (withF g t440 g.ind g.auth).ind.drop 1) (withF g t440 g.ind g.auth).auth) = coreF g := by
              show (t830, 32 :: g.ind.drop 1, g.subs, g.auth) = (g.tag, g.ind, g.subs, g.auth)
              rw [e9, ← s2, p2]
            simp only [List.map_cons, List.map_nil, List.cons_append, List.nil_append, c1, c2]
        · rw [if_neg hs] at hd; cases hd
    · rw [downL_keep (fun e => by cases e.1) (fun e => a4 e.2)] at hd
      obtain ⟨d', hd', rfl⟩ := Option.map_eq_some_iff.1 hd
      unfold paired at hp
      rw [if_neg a5, if_neg a4] at hp
      obtain ⟨i1, i2⟩ := down_fits_three n r (by omega) (fun x hx => hi x (List.mem_cons_of_mem _ hx)) h.2 hp d' hd'
      have a3 : f.tag ≠ t440 := fun e => by
        rw [if_neg (by rw [e]; exact fun e => d5 e.symm), if_pos e] at h1
        simp at h1
      refine ⟨?_, ?_⟩
      · rw [List.all_cons, i1, Bool.and_true]
        unfold alone
        rw [if_neg a1]
        by_cases a2 : f.tag = t264
        · rw [if_pos a2] at h1 ⊢
          simpa using h1
        · rw [if_neg a2, if_neg a3, if_neg a4, if_neg a5]
      · show (raise 2 f ++ upL 2 d').map coreF = _
        rw [List.map_append, i2]
        unfold raise
        rw [if_neg (fun e => by cases e.1), if_neg (fun e => a3 e.2)]
        rfl
theorem down_rest (ver : Int) : ∀ (n : Nat) (l d : List Fld), l.length ≤ n → downL ver l = some d → (paired l = true ∨ ver ≠ 3) → restL d = restL l
  | _, [], d, _, hd, _ => by simp only [downL, Option.some.injEq] at hd; subst hd; rfl
  | 0, f :: r, _, h, _, _ => by simp at h
  | n + 1, f :: r, d, hn, hd, hp => by
    simp only [List.length_cons] at hn
    have hs : ∀ (x : Fld) (y : List Fld), restL (x :: y) = restL [x] ++ restL y := fun x y => by
      unfold restL
      rw [← List.filter_append]; rfl
    by_cases c1 : ver = 2 ∧ f.tag = t264
    · rw [downL_back c1] at hd
      obtain ⟨d', hd', rfl⟩ := Option.map_eq_some_iff.1 hd
      rw [hs, hs f, down_rest ver n r d' (by omega) hd' (.inr (by rw [c1.1]; decide))]
      congr 1
      unfold restL
      simp [withF, c1.2]
    · by_cases c2 : ver = 3 ∧ f.tag = t490
      · rcases hp with hp | hp
        · obtain ⟨d1, d2, d3, d4, d5, d6, d7, d8, d9, d10⟩ := tags_differ
          unfold paired at hp
          rw [if_neg (by rw [c2.2]; exact d10), if_pos c2.2] at hp
          cases r with
          | nil => simp at hp
          | cons g r' =>
            simp only [Bool.and_eq_true, decide_eq_true_eq] at hp
            rw [downL, if_neg c1, if_pos c2] at hd
            by_cases hsm : sameF g (withF f t830 (32 :: f.ind.drop 1) g.auth) = true
            · rw [if_pos hsm] at hd
              obtain ⟨d', hd', rfl⟩ := Option.map_eq_some_iff.1 hd
              rw [hs, hs f, hs g, down_rest ver n r' d' (by simp only [List.length_cons] at hn; omega) hd' (.inl hp.2)]
              have z1 : restL [f] = [] := by unfold restL; simp [c2.2]
              have z2 : restL [g] = [] := by unfold restL; simp [hp.1.2]
              have z3 : restL [withF g t440 g.ind g.auth] = [] := by unfold restL; simp [withF]
              rw [z1, z2, z3]; rfl
            · rw [if_neg hsm] at hd; cases hd
        · exact absurd c2.1 hp
      · rw [downL_keep c1 c2] at hd
        obtain ⟨d', hd', rfl⟩ := Option.map_eq_some_iff.1 hd
        have hp' : paired r = true ∨ ver ≠ 3 := by
          by_cases h3 : ver = 3
          · left
            rcases hp with hp | hp
            · unfold paired at hp
              by_cases a5 : f.tag = t830
              · rw [if_pos a5] at hp; cases hp
              · rw [if_neg a5, if_neg (fun e => c2 ⟨h3, e⟩)] at hp
                exact hp
            · exact absurd h3 hp
          · exact .inr h3
        rw [hs, hs f r, down_rest ver n r d' (by omega) hd' hp']
theorem pairRec_paired (l : List Fld) : pairRec none l = paired l := paired_rec l.length l none (Nat.le_refl _) (by simp)
/-- A lowered list conforms to the version before, and raised again it is the same. -/
theorem down_conforms {ver : Int} (hv : ver = 2 ∨ ver = 3) {l d : List Fld} (hi : ∀ f ∈ l, f.ind.length = 2) (h : conforms ver l = true) (hd : downL ver l = some d) : conforms (ver - 1) d = true ∧ (upL (ver - 1) d).map coreF = l.map coreF ∧ restL d = restL l := by
  rw [conforms_split, Bool.and_eq_true] at h
  rw [conforms_split]
  rcases hv with rfl | rfl
  · obtain ⟨d', e1, e2, e3⟩ := down_fits_two l hi h.1
    rw [hd] at e1
    cases e1
    show (d.all (alone 1) && pairRec none d) = true ∧ (upL 1 d).map coreF = l.map coreF ∧ _
    rw [e2, pair_none (by decide) _ none e2, e3]
    exact ⟨rfl, rfl, down_rest 2 l.length l d (Nat.le_refl _) hd (.inr (by decide))⟩
  · have hp : paired l = true := by rw [← pairRec_paired]; exact h.2
    obtain ⟨e2, e3⟩ := down_fits_three l.length l (Nat.le_refl _) hi h.1 hp d hd
    show (d.all (alone 2) && pairRec none d) = true ∧ (upL 2 d).map coreF = l.map coreF ∧ _
    rw [e2, pair_none (by decide) _ none e2, e3]
    exact ⟨rfl, rfl, down_rest 3 l.length l d (Nat.le_refl _) hd (.inl hp)⟩
end Go.Proofs.YtkfjeolpbopcnaaGreatDoor
