/- Plain laws for MigrateBack (layer 18): a record that was changed conforms to its version, keeps the rest, and changed back it is as it was. -/
import Derived.Test.YtimecccphbgdeaaDoorMtp
import Derived.Test.YtimecccphbgdeaaDoorMdn
namespace Go.Proofs.YtimecccphbgdeaaDoor

theorem fldErr_ok {f : Fld} (h : fldErr f = 0) : tagOk f.tag = true ∧ indOk f.ind = true ∧ f.subs.length ≠ 0 ∧ f.subs.length ≤ 16 ∧ subsErr f.subs = 0 ∧ 0 ≤ f.auth ∧ f.auth ≤ 9999 := by
  unfold fldErr at h
  split at h
  · cases h
  split at h
  · cases h
  split at h
  · cases h
  split at h
  · cases h
  split at h
  · rename_i h5; exact absurd h h5
  split at h
  · cases h
  rename_i h1 h2 h3 h4 h5 h6
  exact ⟨by simpa using h1, by simpa using h2, h3, by omega, Decidable.not_not.1 h5, by omega, by omega⟩
theorem fldErr_mk {f : Fld} (h1 : tagOk f.tag = true) (h2 : indOk f.ind = true) (h3 : f.subs.length ≠ 0) (h4 : f.subs.length ≤ 16) (h5 : subsErr f.subs = 0) (h6 : 0 ≤ f.auth) (h7 : f.auth ≤ 9999) : fldErr f = 0 := by
  unfold fldErr
  rw [if_neg (by rw [h1]; simp), if_neg (by rw [h2]; simp), if_neg h3, if_neg (by omega), if_neg (by rw [h5]; simp), if_neg (by omega)]
theorem fldsErr_iff : ∀ {l : List Fld}, fldsErr l = 0 ↔ ∀ f ∈ l, fldErr f = 0
  | [] => ⟨(fun _ f hf => by cases hf), fun _ => rfl⟩
  | g :: r => by
    unfold fldsErr
    constructor
    · intro h f hf
      split at h
      · rename_i h1; exact absurd h h1
      · rename_i h1
        rcases List.mem_cons.1 hf with rfl | hf
        · exact Decidable.not_not.1 h1
        · exact fldsErr_iff.1 h f hf
    · intro h
      rw [if_neg (by rw [h g List.mem_cons_self]; simp)]
      exact fldsErr_iff.2 fun f hf => h f (List.mem_cons_of_mem _ hf)
theorem recErr_mk {r : Rec} (h1 : 0 ≤ r.id ∧ r.id ≤ 9999) (h2 : r.ver = 1 ∨ r.ver = 2 ∨ r.ver = 3) (h3 : 1 ≤ r.kind ∧ r.kind ≤ 4) (h4 : langOk r.lang = true) (h5 : r.fields.length ≤ 64) (h6 : fldsErr r.fields = 0) : recErr r = 0 := by
  unfold recErr
  rw [if_neg (by omega), if_neg (by omega), if_neg (by omega), if_neg (by rw [h4]; simp), if_neg (by omega), h6]
theorem ind_two {i : List UInt8} (h : indOk i = true) : ∃ x y, i = [x, y] ∧ indB x = true ∧ indB y = true := by
  unfold indOk at h
  simp only [Bool.and_eq_true, beq_iff_eq] at h
  obtain ⟨h1, h2⟩ := h
  match i, h1 with
  | [x, y], _ =>
    simp only [List.all_cons, List.all_nil, Bool.and_true, Bool.and_eq_true] at h2
    exact ⟨x, y, rfl, h2.1, h2.2⟩
theorem ind_end {i : List UInt8} {b : UInt8} (h : indOk i = true) (hb : indB b = true) : indOk (i.take 1 ++ [b]) = true := by
  obtain ⟨x, y, rfl, hx, hy⟩ := ind_two h
  unfold indOk
  simp [hx, hb]
theorem ind_front {i : List UInt8} {b : UInt8} (h : indOk i = true) (hb : indB b = true) : indOk (b :: i.drop 1) = true := by
  obtain ⟨x, y, rfl, hx, hy⟩ := ind_two h
  unfold indOk
  simp [hy, hb]
theorem raise_right {ver : Int} {f : Fld} (h : fldErr f = 0) : ∀ g ∈ raise ver f, fldErr g = 0 := by
  intro g hg
  obtain ⟨h1, h2, h3, h4, h5, h6, h7⟩ := fldErr_ok h
  unfold raise at hg
  split at hg
  · cases List.mem_singleton.1 hg
    exact fldErr_mk (show tagOk t264 = true by decide) (ind_end h2 (by decide)) h3 h4 h5 h6 h7
  · split at hg
    · rcases List.mem_cons.1 hg with rfl | hg
      · exact fldErr_mk (show tagOk t490 = true by decide) (ind_front h2 (by decide)) h3 h4 h5 (Int.le_refl 0) (by show (0 : Int) ≤ 9999; omega)
      · cases List.mem_singleton.1 hg
        exact fldErr_mk (show tagOk t830 = true by decide) (ind_front h2 (by decide)) h3 h4 h5 h6 h7
    · cases List.mem_singleton.1 hg; exact h
theorem down_right {ver : Int} : ∀ (n : Nat) (l d : List Fld), l.length ≤ n → (∀ f ∈ l, fldErr f = 0) → downL ver l = some d → ∀ g ∈ d, fldErr g = 0
  | _, [], d, _, _, hd => by simp only [downL, Option.some.injEq] at hd; subst hd; simp
  | 0, f :: r, _, h, _, _ => by simp at h
  | n + 1, f :: r, d, hn, hf, hd => by
    simp only [List.length_cons] at hn
    obtain ⟨h1, h2, h3, h4, h5, h6, h7⟩ := fldErr_ok (hf f List.mem_cons_self)
    by_cases c1 : ver = 2 ∧ f.tag = t264
    · rw [downL_back c1] at hd
      obtain ⟨d', hd', rfl⟩ := Option.map_eq_some_iff.1 hd
      have i1 := down_right n r d' (by omega) (fun x hx => hf x (List.mem_cons_of_mem _ hx)) hd'
      intro g hg
      rcases List.mem_cons.1 hg with rfl | hg
      · exact fldErr_mk (show tagOk t260 = true by decide) (ind_end h2 (by decide)) h3 h4 h5 h6 h7
      · exact i1 g hg
    · by_cases c2 : ver = 3 ∧ f.tag = t490
      · cases r with
        | nil =>
          simp only [downL] at hd
          rw [if_neg c1, if_pos c2] at hd
          cases hd
        | cons x r' =>
          rw [downL, if_neg c1, if_pos c2] at hd
          split at hd
          · obtain ⟨d', hd', rfl⟩ := Option.map_eq_some_iff.1 hd
            have i1 := down_right n r' d' (by simp only [List.length_cons] at hn; omega) (fun y hy => hf y (List.mem_cons_of_mem _ (List.mem_cons_of_mem _ hy))) hd'
            intro g hg
            rcases List.mem_cons.1 hg with rfl | hg
            · obtain ⟨k1, k2, k3, k4, k5, k6, k7⟩ := fldErr_ok (hf x (List.mem_cons_of_mem _ List.mem_cons_self))
              exact fldErr_mk (show tagOk t440 = true by decide) k2 k3 k4 k5 k6 k7
            · exact i1 g hg
          · cases hd
      · rw [downL_keep c1 c2] at hd
        obtain ⟨d', hd', rfl⟩ := Option.map_eq_some_iff.1 hd
        have i1 := down_right n r d' (by omega) (fun x hx => hf x (List.mem_cons_of_mem _ hx)) hd'
        intro g hg
        rcases List.mem_cons.1 hg with rfl | hg
        · exact hf g List.mem_cons_self
        · exact i1 g hg
theorem rightM_split {r : Rec} : rightM r = true ↔ recErr r = 0 ∧ conforms r.ver r.fields = true := by
  unfold rightM
  rw [Bool.and_eq_true, decide_eq_true_eq]
/-- What kept asks for. -/
def Kept (a r : Rec) : Prop := rightM a = true ∧ a.id = r.id ∧ a.kind = r.kind ∧ a.lang = r.lang ∧ restL a.fields = restL r.fields
theorem back_up {r : Rec} (h : (upP r).2 = 0) : Kept (upP r).1 r ∧ (upP r).1.ver = r.ver + 1 ∧ downP (upP r).1 = (r, 0) := by
  obtain ⟨h1, h2, h3, h4⟩ := upP_ok h
  obtain ⟨hr, hc⟩ := rightM_split.1 h1
  obtain ⟨e1, e2, e3, e4, e5, e6⟩ := recErr_ok hr
  have hi : ∀ f ∈ r.fields, f.ind.length = 2 := fun f hf => (fldsErr_ind e6 f hf).1
  have hv : r.ver = 1 ∨ r.ver = 2 := by omega
  have hc2 := up_conforms hv hi hc
  have hd := up_down hv hi hc
  have hra : rightM ⟨r.id, r.ver + 1, r.kind, r.lang, upL r.ver r.fields⟩ = true := by
    refine rightM_split.2 ⟨recErr_mk e1 (by dsimp only; omega) e3 e4 h4 ?_, hc2⟩
    refine fldsErr_iff.2 fun g hg => ?_
    obtain ⟨f, hf, hgf⟩ := List.mem_flatMap.1 hg
    exact raise_right (fldsErr_iff.1 e6 f hf) g hgf
  rw [h3]
  refine ⟨⟨hra, rfl, rfl, rfl, up_rest r.ver r.fields⟩, rfl, ?_⟩
  unfold downP
  rw [if_neg (by rw [hra]; simp), if_neg (by dsimp only; omega)]
  dsimp only
  rw [hd]
  unfold downX
  rw [show r.ver + 1 - 1 = r.ver by omega]
theorem back_down {r : Rec} (h : (downP r).2 = 0) : Kept (downP r).1 r ∧ (downP r).1.ver = r.ver - 1 ∧ ∃ l, upP (downP r).1 = (⟨r.id, r.ver, r.kind, r.lang, l⟩, 0) ∧ l.map coreF = r.fields.map coreF := by
  obtain ⟨h1, h2, d, hd, h3⟩ := downP_ok h
  obtain ⟨hr, hc⟩ := rightM_split.1 h1
  obtain ⟨e1, e2, e3, e4, e5, e6⟩ := recErr_ok hr
  have hi : ∀ f ∈ r.fields, f.ind.length = 2 := fun f hf => (fldsErr_ind e6 f hf).1
  have hv : r.ver = 2 ∨ r.ver = 3 := by omega
  obtain ⟨hc2, hu, hrest⟩ := down_conforms hv hi hc hd
  have hdr := down_right r.fields.length r.fields d (Nat.le_refl _) (fldsErr_iff.1 e6) hd
  have hl : (upL (r.ver - 1) d).length = r.fields.length := by have := congrArg List.length hu; simpa using this
  have hdl : d.length ≤ 64 := by
    have : d.length ≤ (upL (r.ver - 1) d).length := by
      clear hu hl hdr hrest hc2 h3 hd
      induction d with
      | nil => simp
      | cons f d ih =>
        have hp : 1 ≤ (raise (r.ver - 1) f).length := by
          unfold raise
          split
          · simp
          · split <;> simp
        have : upL (r.ver - 1) (f :: d) = raise (r.ver - 1) f ++ upL (r.ver - 1) d := rfl
        rw [this, List.length_append, List.length_cons]
        omega
    omega
  have hra : rightM ⟨r.id, r.ver - 1, r.kind, r.lang, d⟩ = true := rightM_split.2 ⟨recErr_mk e1 (by dsimp only; omega) e3 e4 hdl (fldsErr_iff.2 hdr), hc2⟩
  rw [h3]
  refine ⟨⟨hra, rfl, rfl, rfl, hrest⟩, rfl, upL (r.ver - 1) d, ?_, hu⟩
  unfold upP
  rw [if_neg (by rw [hra]; simp), if_neg (by dsimp only; omega), if_neg (by dsimp only; omega)]
  dsimp only
  rw [show r.ver - 1 + 1 = r.ver by omega]
theorem down_refused {r : Rec} (h : (downP r).2 ≠ 0) : (downP r).1 = rec0 := by
  unfold downP at h ⊢
  split
  · rfl
  · split
    · rfl
    · rename_i h1 h2
      rw [if_neg h1, if_neg h2] at h
      cases hd : downL r.ver r.fields with
      | none => rfl
      | some d => rw [hd] at h; exact absurd rfl h
end Go.Proofs.YtimecccphbgdeaaDoor
