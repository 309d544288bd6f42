/- The plain To; worlds that differ in a record's block alone; the walks of SameFields and Same where they are the same (layer 18). -/
import Derived.Test.YtimecccphbgdeaaDoorMdp
namespace Go.Proofs.YtimecccphbgdeaaDoor
open Go Go.RowKit

/-- Fields in memory stay when a record's block is written. -/
theorem Rows.away {α : Type} {E : α → List Value} {k : Nat} {w w' : World} {v : Value} {l : List α} (h : Rows E k w v l) (g : Nat) (hs : w.heap.size ≤ w'.heap.size) (hk : ∀ b, b ≠ g → w'.heap[b]? = w.heap[b]?)
    (hn : ∀ o p, (∀ i u, (E p)[i]? = some u → w.cell? ⟨g, o + i, none⟩ = some u) → False) : Rows E k w' v l := by
  obtain ⟨a, c, rfl, hc, h⟩ := h
  refine ⟨a, c, rfl, hc, ?_⟩
  rcases h with h | ⟨b, o, ha, hlt, hx⟩
  · exact .inl h
  · cases l with
    | nil => exact .inl rfl
    | cons p r =>
      have hb : b ≠ g := by
        rintro rfl
        exact hn (o + 0 * k) p (fun i u hi => hx 0 p rfl i u hi)
      exact .inr ⟨b, o, ha, Nat.lt_of_lt_of_le hlt hs, fun j q hj i u hi => (World.cell?_of_block (w := w) (a := ⟨b, o + j * k + i, none⟩) (hk b hb)).trans (hx j q hj i u hi)⟩
theorem rec_no {x0 x1 x2 : Int} {x3 : ByteArray} {a : Option Addr} {n c : Nat} {o : Nat} {u : Value} (h : (#[.int .i64 x0, .int .i64 x1, .int .i64 x2, .string x3, .slice a n c] : Array Value)[o]? = some u) : (o = 0 ∧ u = .int .i64 x0) ∨ (o = 1 ∧ u = .int .i64 x1) ∨ (o = 2 ∧ u = .int .i64 x2) ∨ (o = 3 ∧ u = .string x3) ∨ (o = 4 ∧ u = .slice a n c) := by
  have ho : o < 5 := (Array.getElem?_eq_some_iff.1 h).1
  rcases (by omega : o = 0 ∨ o = 1 ∨ o = 2 ∨ o = 3 ∨ o = 4) with rfl | rfl | rfl | rfl | rfl
  · cases h; exact .inl ⟨rfl, rfl⟩
  · cases h; exact .inr (.inl ⟨rfl, rfl⟩)
  · cases h; exact .inr (.inr (.inl ⟨rfl, rfl⟩))
  · cases h; exact .inr (.inr (.inr (.inl ⟨rfl, rfl⟩)))
  · cases h; exact .inr (.inr (.inr (.inr ⟨rfl, rfl⟩)))
theorem Flds.away {w w' : World} {v : Value} {l : List Fld} (h : Flds w v l) {g : Nat} {x0 x1 x2 : Int} {x3 : ByteArray} {a : Option Addr} {n c : Nat} {T : TypeId} {fz : Nat × Nat} (hg : w.heap[g]? = some (.cells #[.int .i64 x0, .int .i64 x1, .int .i64 x2, .string x3, .slice a n c] T fz))
    (hs : w.heap.size ≤ w'.heap.size) (hk : ∀ b, b ≠ g → w'.heap[b]? = w.heap[b]?) : Flds w' v l := by
  have hcell : ∀ j, w.cell? ⟨g, j, none⟩ = (#[.int .i64 x0, .int .i64 x1, .int .i64 x2, .string x3, .slice a n c] : Array Value)[j]? := fun j => by
    simp [World.cell?, hg]
  refine ⟨h.1.away g hs hk (fun o p hp => ?_), fun f hf => (h.2 f hf).away g hs hk (fun o s hp => ?_)⟩
  · have h0 := hp 0 _ rfl
    have h1 := hp 1 _ rfl
    rw [hcell] at h0 h1
    rcases rec_no h0 with ⟨-, e⟩ | ⟨-, e⟩ | ⟨-, e⟩ | ⟨e0, -⟩ | ⟨-, e⟩
    · cases e
    · cases e
    · cases e
    · rcases rec_no h1 with ⟨e2, -⟩ | ⟨e2, -⟩ | ⟨e2, -⟩ | ⟨e2, -⟩ | ⟨-, e⟩
      · omega
      · omega
      · omega
      · omega
      · cases e
    · cases e
  · have h0 := hp 0 _ rfl
    rw [hcell] at h0
    rcases rec_no h0 with ⟨-, e⟩ | ⟨-, e⟩ | ⟨-, e⟩ | ⟨-, e⟩ | ⟨-, e⟩ <;> cases e
theorem put5_other {w : World} {g b : Nat} {id ver kind : Int} {lang : ByteArray} {s : Value} (h : b ≠ g) : (put5 w g id ver kind lang s).heap[b]? = w.heap[b]? := by
  unfold put5
  rw [set_block _ _ _ _ (Ne.symm h), set_block _ _ _ _ (Ne.symm h), set_block _ _ _ _ (Ne.symm h), set_block _ _ _ _ (Ne.symm h), set_block _ _ _ _ (Ne.symm h)]
theorem put5_block {w : World} {g : Nat} {id ver kind : Int} {lang : ByteArray} {s : Value} {x0 x1 x2 x3 x4 : Value} {T : TypeId} (h : w.heap[g]? = some (.cells #[x0, x1, x2, x3, x4] T (0, 0))) : (put5 w g id ver kind lang s).heap[g]? = some (.cells #[.int .i64 id, .int .i64 ver, .int .i64 kind, .string lang, s] T (0, 0)) := by
  unfold put5
  rw [heap_setCell_same _ g 4 _ T _ (heap_setCell_same _ g 3 _ T _ (heap_setCell_same _ g 2 _ T _ (heap_setCell_same _ g 1 _ T _ (heap_setCell_same _ g 0 _ T _ h))))]
  rfl
theorem ResAt.put {w : World} {b : Nat} {id ver kind id' ver' kind' : Int} {lang lang' : ByteArray} {s s' : Value} (h : ResAt w b id ver kind lang s) : ResAt (put5 w b id' ver' kind' lang' s') b id' ver' kind' lang' s' :=
  ⟨put5_block h.par, (put5_other (by omega)).trans h.res⟩

/-- To, plain: so many steps at most. -/
def toN : Nat → Rec → Int → Rec × Int
  | 0, r, _ => (r, 0)
  | n + 1, r, v =>
    if r.ver = v then (r, 0)
    else if v < r.ver then (if (downP r).2 ≠ 0 then (rec0, (downP r).2) else toN n (downP r).1 v)
    else (if (upP r).2 ≠ 0 then (rec0, (upP r).2) else toN n (upP r).1 v)
def toP (r : Rec) (v : Int) : Rec × Int := if v < 1 ∨ 3 < v then (rec0, 20) else if rightM r = false then (rec0, 12) else toN 3 r v
theorem rightM_ver {r : Rec} (h : rightM r = true) : 1 ≤ r.ver ∧ r.ver ≤ 3 := by
  have h0 : recErr r = 0 := by
    by_cases h0 : recErr r = 0
    · exact h0
    · rw [rightM_bad h0] at h; cases h
  obtain ⟨-, hv, -⟩ := recErr_ok h0
  omega
theorem upP_ok {r : Rec} (h : (upP r).2 = 0) : rightM r = true ∧ r.ver ≠ 3 ∧ (upP r).1 = ⟨r.id, r.ver + 1, r.kind, r.lang, upL r.ver r.fields⟩ ∧ (upL r.ver r.fields).length ≤ 64 := by
  unfold upP at h ⊢
  split at h
  · cases h
  · split at h
    · cases h
    · split at h
      · cases h
      · rename_i h1 h2 h3
        rw [if_neg h1, if_neg h2, if_neg h3]
        exact ⟨by simpa using h1, h2, rfl, by omega⟩
theorem downP_ok {r : Rec} (h : (downP r).2 = 0) : rightM r = true ∧ r.ver ≠ 1 ∧ ∃ d, downL r.ver r.fields = some d ∧ (downP r).1 = ⟨r.id, r.ver - 1, r.kind, r.lang, d⟩ := by
  unfold downP at h ⊢
  split at h
  · cases h
  · split at h
    · cases h
    · rename_i h1 h2
      rw [if_neg h1, if_neg h2]
      cases hd : downL r.ver r.fields with
      | none => rw [hd] at h; cases h
      | some d => exact ⟨by simpa using h1, h2, d, rfl, rfl⟩
theorem raise_small {ver : Int} {f : Fld} (h : f.small) : ∀ g ∈ raise ver f, g.small := by
  intro g hg
  unfold raise at hg
  split at hg
  · cases List.mem_singleton.1 hg; exact ⟨h.subs, h.vals, h.codes⟩
  · split at hg
    · rcases List.mem_cons.1 hg with rfl | hg
      · exact ⟨h.subs, h.vals, h.codes⟩
      · cases List.mem_singleton.1 hg; exact ⟨h.subs, h.vals, h.codes⟩
    · cases List.mem_singleton.1 hg; exact h
theorem down_small {ver : Int} : ∀ (n : Nat) (l d : List Fld), l.length ≤ n → (∀ f ∈ l, f.small) → downL ver l = some d → (∀ g ∈ d, g.small) ∧ d.length ≤ l.length
  | _, [], d, _, _, hd => by simp only [downL, Option.some.injEq] at hd; subst hd; exact ⟨by simp, Nat.le_refl _⟩
  | 0, f :: r, _, h, _, _ => by simp at h
  | n + 1, f :: r, d, hn, hf, hd => by
    simp only [List.length_cons] at hn
    by_cases c1 : ver = 2 ∧ f.tag = t264
    · rw [downL_back c1] at hd
      obtain ⟨d', hd', rfl⟩ := Option.map_eq_some_iff.1 hd
      obtain ⟨i1, i2⟩ := down_small n r d' (by omega) (fun x hx => hf x (List.mem_cons_of_mem _ hx)) hd'
      refine ⟨fun g hg => ?_, by simp only [List.length_cons]; omega⟩
      rcases List.mem_cons.1 hg with rfl | hg
      · have := hf f List.mem_cons_self; exact ⟨this.subs, this.vals, this.codes⟩
      · exact i1 g hg
    · by_cases c2 : ver = 3 ∧ f.tag = t490
      · cases r with
        | nil =>
          simp only [downL] at hd
          rw [if_neg c1, if_pos c2] at hd
          cases hd
        | cons x r' =>
          rw [downL, if_neg c1, if_pos c2] at hd
          split at hd
          · obtain ⟨d', hd', rfl⟩ := Option.map_eq_some_iff.1 hd
            obtain ⟨i1, i2⟩ := down_small n r' d' (by simp only [List.length_cons] at hn; omega) (fun y hy => hf y (List.mem_cons_of_mem _ (List.mem_cons_of_mem _ hy))) hd'
            refine ⟨fun g hg => ?_, by simp only [List.length_cons]; omega⟩
            rcases List.mem_cons.1 hg with rfl | hg
            · have := hf x (List.mem_cons_of_mem _ List.mem_cons_self); exact ⟨this.subs, this.vals, this.codes⟩
            · exact i1 g hg
          · cases hd
      · rw [downL_keep c1 c2] at hd
        obtain ⟨d', hd', rfl⟩ := Option.map_eq_some_iff.1 hd
        obtain ⟨i1, i2⟩ := down_small n r d' (by omega) (fun x hx => hf x (List.mem_cons_of_mem _ hx)) hd'
        refine ⟨fun g hg => ?_, by simp only [List.length_cons]; omega⟩
        rcases List.mem_cons.1 hg with rfl | hg
        · exact hf g List.mem_cons_self
        · exact i1 g hg
theorem rec0_small : rec0.small := ⟨by decide, by intro f hf; cases hf⟩
theorem upP_small {r : Rec} (h : r.small) : (upP r).1.small := by
  by_cases h0 : (upP r).2 = 0
  · obtain ⟨-, -, e, hl⟩ := upP_ok h0
    rw [e]
    refine ⟨by show (upL r.ver r.fields).length ≤ _; omega, fun g hg => ?_⟩
    obtain ⟨f, hf, hgf⟩ := List.mem_flatMap.1 hg
    exact raise_small (h.2 f hf) g hgf
  · have : (upP r).1 = rec0 := by
      unfold upP at h0 ⊢
      split
      · rfl
      · split
        · rfl
        · split
          · rfl
          · rename_i h1 h2 h3
            rw [if_neg h1, if_neg h2, if_neg h3] at h0
            exact absurd rfl h0
    rw [this]
    exact rec0_small
theorem downP_small {r : Rec} (h : r.small) : (downP r).1.small := by
  by_cases h0 : (downP r).2 = 0
  · obtain ⟨-, -, d, hd, e⟩ := downP_ok h0
    rw [e]
    obtain ⟨i1, i2⟩ := down_small r.fields.length r.fields d (Nat.le_refl _) h.2 hd
    exact ⟨Nat.le_trans i2 h.1, i1⟩
  · have : (downP r).1 = rec0 := by
      unfold downP at h0 ⊢
      split
      · rfl
      · split
        · rfl
        · rename_i h1 h2
          rw [if_neg h1, if_neg h2] at h0
          cases hd : downL r.ver r.fields with
          | none => rfl
          | some d => rw [hd] at h0; exact absurd rfl h0
    rw [this]
    exact rec0_small
def intAt (w : World) (p : Addr) : Int := match w.cell? p with | some (.int _ x) => x | _ => 0
theorem intAt_of {w : World} {p : Addr} {k : IntKind} {x : Int} (h : w.cell? p = some (.int k x)) : intAt w p = x := by unfold intAt; rw [h]
theorem toN_step {m : Nat} {r : Rec} {v : Int} (h : r.ver ≠ v) (hm : (r.ver - v).natAbs ≤ m) : ∃ m', m = m' + 1 ∧ toN m r v = if v < r.ver then (if (downP r).2 ≠ 0 then (rec0, (downP r).2) else toN m' (downP r).1 v) else (if (upP r).2 ≠ 0 then (rec0, (upP r).2) else toN m' (upP r).1 v) := by
  obtain ⟨m', rfl⟩ : ∃ m', m = m' + 1 := ⟨m - 1, by omega⟩
  refine ⟨m', rfl, ?_⟩
  show (if r.ver = v then (r, 0) else _) = _
  rw [if_neg h]
theorem toN_end {m : Nat} {r : Rec} {v : Int} (h : r.ver = v) : toN m r v = (r, 0) := by
  cases m with
  | zero => rfl
  | succ m => show (if r.ver = v then (r, 0) else _) = _; rw [if_pos h]
end Go.Proofs.YtimecccphbgdeaaDoor
