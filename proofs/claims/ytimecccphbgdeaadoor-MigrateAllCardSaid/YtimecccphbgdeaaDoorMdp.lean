/- The plain Down, as each side goes through the fields (layer 18). -/
import Derived.Test.YtimecccphbgdeaaDoorMpj
import Derived.Test.YtimecccphbgdeaaDoorMdn
namespace Go.Proofs.YtimecccphbgdeaaDoor
open Go

def lower (f : Fld) : Fld := if f.tag = t264 then withF f t260 (f.ind.take 1 ++ [32]) f.auth else f
theorem down_two : ∀ l : List Fld, downL 2 l = some (l.map lower)
  | [] => rfl
  | f :: r => by
    by_cases h : f.tag = t264
    · rw [downL_back ⟨rfl, h⟩, down_two r, List.map_cons]
      unfold lower
      rw [if_pos h]; rfl
    · rw [downL_keep (fun e => h e.2) (fun e => by cases e.1), down_two r, List.map_cons]
      have : lower f = f := by unfold lower; rw [if_neg h]
      rw [this]; rfl
/-- As the program goes: a field 830 is joined with the one ahead of it. -/
def dp : Option Fld → List Fld → Option (List Fld)
  | _, [] => some []
  | prev, f :: r =>
    if f.tag = t490 then dp (some f) r
    else if f.tag = t830 then (match prev with | some p => if joinB p f = true then (dp (some f) r).map (withF f t440 f.ind f.auth :: ·) else none | none => none)
    else (dp (some f) r).map (f :: ·)
theorem same_join (f g : Fld) (h : g.tag = t830) : sameF g (withF f t830 (32 :: f.ind.drop 1) g.auth) = joinB f g := by
  unfold sameF joinB withF
  rw [Bool.eq_iff_iff]
  simp only [Bool.and_eq_true, decide_eq_true_eq]
  constructor
  · rintro ⟨⟨⟨-, h2⟩, -⟩, h4⟩
    exact ⟨h4.symm, h2⟩
  · rintro ⟨h1, h2⟩
    exact ⟨⟨⟨h, h2⟩, trivial⟩, h1.symm⟩
theorem down_dp : ∀ (n : Nat) (l : List Fld) (p : Option Fld), l.length ≤ n → paired l = true → downL 3 l = dp p l
  | _, [], _, _, _ => rfl
  | 0, f :: r, _, h, _ => by simp at h
  | n + 1, f :: r, p, hn, hp => by
    simp only [List.length_cons] at hn
    have a5 : f.tag ≠ t830 := fun e => by unfold paired at hp; rw [if_pos e] at hp; cases hp
    unfold dp
    by_cases a4 : f.tag = t490
    · rw [if_pos a4]
      unfold paired at hp
      rw [if_neg a5, if_pos a4] at hp
      cases r with
      | nil => simp at hp
      | cons g r' =>
        simp only [Bool.and_eq_true, decide_eq_true_eq] at hp
        obtain ⟨⟨-, p2⟩, p3⟩ := hp
        have g9 : g.tag ≠ t490 := by rw [p2]; decide
        unfold dp
        rw [if_neg g9, if_pos p2, downL, if_neg (fun e => by cases e.1), if_pos ⟨rfl, a4⟩, same_join f g p2, down_dp n r' (some g) (by simp only [List.length_cons] at hn; omega) p3]
    · rw [if_neg a4, if_neg a5, downL_keep (fun e => by cases e.1) (fun e => a4 e.2)]
      unfold paired at hp
      rw [if_neg a5, if_neg a4] at hp
      rw [down_dp n r (some f) (by omega) hp]
/-- As the reference goes: a field 490 is looked at with the next. -/
def dq : List Fld → Option (List Fld)
  | [] => some []
  | f :: r =>
    if f.tag = t490 then (match r with | g :: _ => if sameF g (withF f t830 (32 :: f.ind.drop 1) g.auth) = true then (dq r).map (withF g t440 g.ind g.auth :: ·) else none | [] => none)
    else if f.tag = t830 then dq r
    else (dq r).map (f :: ·)
theorem down_dq : ∀ (n : Nat) (l : List Fld), l.length ≤ n → paired l = true → downL 3 l = dq l
  | _, [], _, _ => rfl
  | 0, f :: r, h, _ => by simp at h
  | n + 1, f :: r, hn, hp => by
    simp only [List.length_cons] at hn
    have a5 : f.tag ≠ t830 := fun e => by unfold paired at hp; rw [if_pos e] at hp; cases hp
    unfold dq
    by_cases a4 : f.tag = t490
    · rw [if_pos a4]
      unfold paired at hp
      rw [if_neg a5, if_pos a4] at hp
      cases r with
      | nil => simp at hp
      | cons g r' =>
        simp only [Bool.and_eq_true, decide_eq_true_eq] at hp
        obtain ⟨⟨-, p2⟩, p3⟩ := hp
        have g9 : g.tag ≠ t490 := by rw [p2]; decide
        simp only
        have hg : dq (g :: r') = dq r' := by
          conv => lhs; unfold dq
          rw [if_neg g9, if_pos p2]
        rw [downL, if_neg (fun e => by cases e.1), if_pos ⟨rfl, a4⟩, hg, down_dq n r' (by simp only [List.length_cons] at hn; omega) p3]
    · rw [if_neg a4, if_neg a5, downL_keep (fun e => by cases e.1) (fun e => a4 e.2)]
      unfold paired at hp
      rw [if_neg a5, if_neg a4] at hp
      rw [down_dq n r (by omega) hp]
/-- The field ahead of place k. -/
def prevOf (l : List Fld) (k : Nat) : Option Fld := if k = 0 then none else l[k - 1]?
theorem prevOf_next {l : List Fld} {k : Nat} {f : Fld} (h : l[k]? = some f) : prevOf l (k + 1) = some f := by
  unfold prevOf
  rw [if_neg (by omega), Nat.add_sub_cancel, h]
theorem dp_step {l : List Fld} {k : Nat} {f : Fld} (h : l[k]? = some f) : dp (prevOf l k) (l.drop k) = if f.tag = t490 then dp (prevOf l (k + 1)) (l.drop (k + 1)) else if f.tag = t830 then (match prevOf l k with | some p => if joinB p f = true then (dp (prevOf l (k + 1)) (l.drop (k + 1))).map (withF f t440 f.ind f.auth :: ·) else none | none => none) else (dp (prevOf l (k + 1)) (l.drop (k + 1))).map (f :: ·) := by
  rw [drop_step h, prevOf_next h]; rfl
theorem dq_step {l : List Fld} {k : Nat} {f : Fld} (h : l[k]? = some f) : dq (l.drop k) = if f.tag = t490 then (match l[k + 1]? with | some g => if sameF g (withF f t830 (32 :: f.ind.drop 1) g.auth) = true then (dq (l.drop (k + 1))).map (withF g t440 g.ind g.auth :: ·) else none | none => none) else if f.tag = t830 then dq (l.drop (k + 1)) else (dq (l.drop (k + 1))).map (f :: ·) := by
  rw [drop_step h]
  conv => lhs; unfold dq
  cases h1 : l[k + 1]? with
  | none =>
    have : l.drop (k + 1) = [] := List.drop_eq_nil_of_le (by have := List.getElem?_eq_none_iff.1 h1; omega)
    rw [this]
  | some g => rw [drop_step h1]
theorem map_app {o : Option (List Fld)} {out : List Fld} {x : Fld} : (o.map (x :: ·)).map (out ++ ·) = o.map ((out ++ [x]) ++ ·) := by
  cases o with
  | none => rfl
  | some d => simp
def downX (id ver kind : Int) (lang : ByteArray) : Option (List Fld) → Rec × Int
  | none => (rec0, 12)
  | some d => (⟨id, ver - 1, kind, lang, d⟩, 0)
/-- Down, plain. -/
def downP (r : Rec) : Rec × Int :=
  if rightM r = false then (rec0, 12) else if r.ver = 1 then (rec0, 20)
  else downX r.id r.ver r.kind r.lang (downL r.ver r.fields)
theorem conforms_at {ver : Int} {l : List Fld} (h : conforms ver l = true) {i : Nat} (hi : i < l.length) : fitsAt ver l i = true := List.all_eq_true.1 h i (List.mem_range.2 hi)
theorem next_830 {l : List Fld} (h : conforms 3 l = true) {k : Nat} {f : Fld} (hf : l[k]? = some f) (ht : f.tag = t490) : ∃ g, l[k + 1]? = some g ∧ g.tag = t830 := by
  have hk : k < l.length := (List.getElem?_eq_some_iff.1 hf).1
  have := conforms_at h hk
  unfold fitsAt at this
  rw [hf] at this
  simp only at this
  rw [if_neg (by rw [ht]; decide), if_neg (by rw [ht]; decide), if_neg (by rw [ht]; decide), if_pos ht] at this
  simp only [Bool.and_eq_true, beq_iff_eq] at this
  obtain ⟨g, hg, hg2⟩ := Option.map_eq_some_iff.1 this.2
  exact ⟨g, hg, hg2⟩
theorem prev_490 {l : List Fld} (h : conforms 3 l = true) {k : Nat} {f : Fld} (hf : l[k]? = some f) (ht : f.tag = t830) : ∃ j p, k = j + 1 ∧ l[j]? = some p ∧ prevOf l k = some p := by
  have hk : k < l.length := (List.getElem?_eq_some_iff.1 hf).1
  have := conforms_at h hk
  unfold fitsAt at this
  rw [hf] at this
  simp only at this
  rw [if_neg (by rw [ht]; decide), if_neg (by rw [ht]; decide), if_neg (by rw [ht]; decide), if_neg (by rw [ht]; decide), if_pos ht] at this
  simp only [Bool.and_eq_true, beq_iff_eq, decide_eq_true_eq] at this
  obtain ⟨j, rfl⟩ : ∃ j, k = j + 1 := ⟨k - 1, by omega⟩
  rw [Nat.add_sub_cancel] at this
  obtain ⟨p, hp, -⟩ := Option.map_eq_some_iff.1 this.2
  refine ⟨j, p, rfl, hp, ?_⟩
  unfold prevOf
  rw [if_neg (by omega), Nat.add_sub_cancel, hp]
theorem conforms_paired {l : List Fld} (h : conforms 3 l = true) : paired l = true := by
  rw [conforms_split, Bool.and_eq_true] at h
  rw [← pairRec_paired]
  exact h.2
theorem down_at {w : World} {ver : Int} : ∀ (n : Nat) (l d : List Fld), l.length ≤ n → (∀ f ∈ l, FldAt w f) → downL ver l = some d → ∀ g ∈ d, FldAt w g
  | _, [], d, _, _, hd, g, hg => by simp only [downL, Option.some.injEq] at hd; subst hd; cases hg
  | 0, f :: r, _, h, _, _, _, _ => by simp at h
  | n + 1, f :: r, d, hn, hf, hd, g, hg => by
    simp only [List.length_cons] at hn
    by_cases c1 : ver = 2 ∧ f.tag = t264
    · rw [downL_back c1] at hd
      obtain ⟨d', hd', rfl⟩ := Option.map_eq_some_iff.1 hd
      rcases List.mem_cons.1 hg with rfl | hg
      · exact hf f List.mem_cons_self
      · exact down_at n r d' (by omega) (fun x hx => hf x (List.mem_cons_of_mem _ hx)) hd' g hg
    · by_cases c2 : ver = 3 ∧ f.tag = t490
      · cases r with
        | nil =>
          simp only [downL] at hd
          rw [if_neg c1, if_pos c2] at hd
          cases hd
        | cons x r' =>
          rw [downL, if_neg c1, if_pos c2] at hd
          split at hd
          · obtain ⟨d', hd', rfl⟩ := Option.map_eq_some_iff.1 hd
            rcases List.mem_cons.1 hg with rfl | hg
            · exact hf x (List.mem_cons_of_mem _ List.mem_cons_self)
            · exact down_at n r' d' (by simp only [List.length_cons] at hn; omega) (fun y hy => hf y (List.mem_cons_of_mem _ (List.mem_cons_of_mem _ hy))) hd' g hg
          · cases hd
      · rw [downL_keep c1 c2] at hd
        obtain ⟨d', hd', rfl⟩ := Option.map_eq_some_iff.1 hd
        rcases List.mem_cons.1 hg with rfl | hg
        · exact hf g List.mem_cons_self
        · exact down_at n r d' (by omega) (fun x hx => hf x (List.mem_cons_of_mem _ hx)) hd' g hg
open Go.RowKit
theorem gen_world {F : World → Prop} {W : World} (P : World → Prop) (hP : P W) (h : ∀ wz, P wz → F wz) : F W := h W hP
theorem late_block {wr w3 : World} {O : Obj} {cs : Array Value} {T : TypeId} (h : Below ((wr.alloc O).alloc (.cells cs T)).drew.heap.size ((wr.alloc O).alloc (.cells cs T)).drew w3) : w3.heap[wr.heap.size + 1]? = some (.cells cs T (0, 0)) := by
  have e : (wr.alloc O).heap.size = wr.heap.size + 1 := World.size_alloc _ _
  have hs : wr.heap.size + 1 < ((wr.alloc O).alloc (.cells cs T)).drew.heap.size := by
    show _ < ((wr.alloc O).alloc (.cells cs T)).heap.size
    rw [World.size_alloc, e]; exact Nat.lt_succ_self _
  rw [h.block _ hs, ← e]
  exact heap_alloc_new (wr.alloc O) _
theorem set_block (w : World) (p : Addr) (v : Value) (k : Nat) (h : p.block ≠ k) : (w.setCell p v).heap[k]? = w.heap[k]? := by
  simp [World.setCell, Array.getElem?_modify, h]
theorem set_size (w : World) (p : Addr) (v : Value) : (w.setCell p v).heap.size = w.heap.size := by simp [World.setCell]
theorem OwnF.same {w w' : World} {B : Nat} {v : Value} {l : List Fld} (h : OwnF w B v l) (hb : ∀ g, v.ownBlock = some g → w'.heap[g]? = w.heap[g]?) : OwnF w' B v l := by
  refine ⟨h.1, ?_⟩
  rcases h.2 with h0 | ⟨g, cap, cur, hv, hg, hh, rest⟩
  · exact .inl h0
  · exact .inr ⟨g, cap, cur, hv, hg, (hb g (by rw [hv]; rfl)).trans hh, rest⟩
/-- What holds behind the statement that joins two fields, wherever its block was made. -/
structure JoinI (w1 : World) (u4 : Value) (out : List Fld) (g bx : Nat) (T I T' I' : ByteArray) (s s' : Value) (au au' : Int) (wz : World) : Prop where
  bel : Below w1.heap.size w1 wz
  own : OwnF wz w1.heap.size u4 out
  blk : wz.heap[g]? = some (.cells #[.string T, .string I, s, .int .i64 au] 41 (0, 0))
  x0 : wz.cell? ⟨bx, 0, none⟩ = some (.string T')
  x1 : wz.cell? ⟨bx, 1, none⟩ = some (.string I')
  x2 : wz.cell? ⟨bx, 2, none⟩ = some s'
  x3 : wz.cell? ⟨bx, 3, none⟩ = some (.int .i64 au')
/-- The block made behind the call. -/
theorem join_after {w1 wr w3 X : World} {u4 : Value} {out : List Fld} {T I T' I' : ByteArray} {s s' : Value} {au au' : Int} (hB : Below w1.heap.size w1 X) (hO : OwnF X w1.heap.size u4 out)
    (hX : X.heap[wr.heap.size]? = some (.cells #[.string T, .string I, s, .int .i64 au] 41 (0, 0))) (hl : wr.heap.size < X.heap.size) (b3 : Below X.heap.size X w3) :
    JoinI w1 u4 out wr.heap.size w3.heap.size T I T' I' s s' au au' (w3.alloc (.cells #[.string T', .string I', s', .int .i64 au'] 41)) := by
  have ha : Below w3.heap.size w3 (w3.alloc (.cells #[.string T', .string I', s', .int .i64 au'] 41)) := (Below.refl _ _).alloc (Nat.le_refl _) _
  refine ⟨(hB.trans (b3.mono hB.size)).trans (ha.mono (Nat.le_trans hB.size b3.size)), (hO.below b3).below ha, ?_, ?_, ?_, ?_, ?_⟩
  · rw [ha.block _ (Nat.lt_of_lt_of_le hl b3.size), b3.block _ hl, hX]
  all_goals
    rw [Lib.cell_of_heap (heap_alloc_new w3 _)]; rfl
/-- The block made ahead of the call. -/
theorem join_ahead {w1 wr w3 X : World} {u4 : Value} {out : List Fld} {T I T' I' : ByteArray} {s s' : Value} {au au' : Int} {cs : Array Value} (hB : Below w1.heap.size w1 X) (hO : OwnF X w1.heap.size u4 out)
    (hX : X.heap[wr.heap.size]? = some (.cells #[.string T, .string I, s, .int .i64 au] 41 (0, 0))) (hl : wr.heap.size < X.heap.size) (b3 : Below X.heap.size X w3)
    (hh : w3.heap[wr.heap.size + 1]? = some (.cells cs 41 (0, 0))) (hcs : cs.size = 4) (hg : ∀ g, u4.ownBlock = some g → g < wr.heap.size) (hw : w1.heap.size ≤ wr.heap.size) :
    JoinI w1 u4 out wr.heap.size (wr.heap.size + 1) T I T' I' s s' au au' (put4 w3 (wr.heap.size + 1) T' I' s' au') := by
  have hsm : ∀ j, j < 4 → (w3.cell? ⟨wr.heap.size + 1, j, none⟩).isSome = true := fun j hj => by
    rw [Lib.cell_of_heap hh, Array.getElem?_eq_getElem (by omega)]; rfl
  have hfp := four_put (T := T') (I := I') (s := s') (au := au') hsm
  have hk : ∀ k, k ≠ wr.heap.size + 1 → (put4 w3 (wr.heap.size + 1) T' I' s' au').heap[k]? = w3.heap[k]? := fun k hk => by
    unfold put4
    rw [set_block _ _ _ _ (Ne.symm hk), set_block _ _ _ _ (Ne.symm hk), set_block _ _ _ _ (Ne.symm hk), set_block _ _ _ _ (Ne.symm hk)]
  refine ⟨below_put4 (hB.trans (b3.mono hB.size)) (by omega), (hO.below b3).same (fun g hgg => hk g (by have := hg g hgg; omega)), ?_, hfp.1, hfp.2.1, hfp.2.2.1, hfp.2.2.2⟩
  rw [hk _ (by omega), b3.block _ hl, hX]
theorem put4_size (w : World) (g : Nat) (T I : ByteArray) (s : Value) (au : Int) : (put4 w g T I s au).heap.size = w.heap.size := by
  unfold put4
  rw [set_size, set_size, set_size, set_size]
theorem own_put {w : World} {B g : Nat} {v : Value} {l : List Fld} {T I : ByteArray} {s : Value} {au : Int} (O : Obj) (h : OwnF w B v l) (hg : ∀ k, v.ownBlock = some k → k < g) : OwnF ((put4 w g T I s au).alloc O) B v l := by
  refine OwnF.below (w := put4 w g T I s au) (h.same (fun k hk => ?_)) ((Below.refl _ _).alloc (Nat.le_refl _) _)
  have := hg k hk
  unfold put4
  rw [set_block _ _ _ _ (by show g ≠ k; omega), set_block _ _ _ _ (by show g ≠ k; omega), set_block _ _ _ _ (by show g ≠ k; omega), set_block _ _ _ _ (by show g ≠ k; omega)]
theorem four_put_new (w : World) (g : Nat) (T I : ByteArray) (s : Value) (au : Int) (Ty : TypeId) (f : Fld) (x y : ByteArray) (hx : x = lb f.tag) (hy : y = lb f.ind) (n : Nat) (hn : n = f.subs.length) : Four ((put4 w g T I s au).alloc (.cells #[.string x, .string y, .slice f.sa n f.sc, .int .i64 f.auth] Ty)) w.heap.size 0 f := by
  have := four_new (put4 w g T I s au) Ty f x y hx hy n hn
  rwa [put4_size] at this
end Go.Proofs.YtimecccphbgdeaaDoor
