/- The merging of the examples, whatever the order of its operations (layer 16). -/
import Derived.Test.YtcdlgmncalmihaaDoorGam
namespace Go.Proofs.YtcdlgmncalmihaaDoor
open Go Go.RowKit

theorem set_false {listed : Array Bool} {i m : Nat} (h : (listed.setIfInBounds i true).getD m true = false) : listed.getD m true = false := by
  by_cases hm : i = m
  · subst hm
    rcases Nat.lt_or_ge i listed.size with h' | h'
    · simp [Array.getD, h'] at h
    · simp [Array.getD, Nat.not_lt.2 h'] at h
  · rwa [getD_set_ne true hm] at h
theorem on_off {α : Prop} {listed : Array Bool} {m : Nat} (h : listed.getD m true = true) (h' : listed.getD m true = false) : α := by rw [h] at h'; cases h'
/-- What Merge has returned. -/
structure ResW (W : World) (s1 s2 s3 s4 s5 a' a2 a3 : Option Addr) (c' c2 c3 : Nat) : Prop where
  r : RcdAt W ⟨mergedR s1 s2 s5, a2, c2⟩
  f : RcdAt W (fromX s3 s4 s5 a' c')
  t : IntsAt W (.slice a3 1 c3) [2]
theorem ResW.below {W W' : World} {s1 s2 s3 s4 s5 a' a2 a3 : Option Addr} {c' c2 c3 : Nat} (h : ResW W s1 s2 s3 s4 s5 a' a2 a3 c' c2 c3) (b : Below W.heap.size W W') : ResW W' s1 s2 s3 s4 s5 a' a2 a3 c' c2 c3 :=
  ⟨h.r.below b (Nat.le_refl _), h.f.below b (Nat.le_refl _), Rows.below h.t b (Nat.le_refl _)⟩
/-- A row that cannot lie in a block stays when the block is written. -/
theorem Rows.putL {α : Type} {E : α → List Value} {k : Nat} {W : World} {v : Value} {l : List α} (h : Rows E k W v l) {g : Nat} {cs : Array Value} {T : TypeId} (hg : W.heap[g]? = some (.cells cs T (0, 0))) (hn : ∀ (p : α) (o : Nat), p ∈ l → (∀ i u, (E p)[i]? = some u → cs[o + i]? = some u) → False) (i : Nat) (us : List Value) : Rows E k (putL W g i us) v l := by
  obtain ⟨a, c, rfl, hc, h⟩ := h
  refine ⟨a, c, rfl, hc, ?_⟩
  rcases h with h | ⟨b, o, ha, hlt, hx⟩
  · exact .inl h
  · cases l with
    | nil => exact .inl rfl
    | cons p r =>
      have hb : g ≠ b := by
        rintro rfl
        refine hn p (o + 0 * k) List.mem_cons_self (fun i u hi => ?_)
        have := hx 0 p rfl i u hi
        rwa [Lib.cell_of_heap hg] at this
      refine .inr ⟨b, o, ha, by rw [putL_size]; exact hlt, fun j q hj i' u hi => ?_⟩
      exact (World.cell?_of_block (a := ⟨b, o + j * k + i', none⟩) (putL_other us W g i (Ne.symm hb))).trans (hx j q hj i' u hi)
theorem pair_no {cs : Array Value} {x y : Value} (h : ∀ o, ¬ (cs[o]? = some x ∧ cs[o + 1]? = some y)) {l : List Value} (hl : l[0]? = some x ∧ l[1]? = some y) {o : Nat} (hx : ∀ i u, l[i]? = some u → cs[o + i]? = some u) : False :=
  h o ⟨hx 0 x hl.1, hx 1 y hl.2⟩
theorem z5_no {x : ByteArray} {y : ByteArray} (o : Nat) : ¬ ((#[.int .i64 0, .int .i64 0, .int .i64 0, .string ⟨#[]⟩, .slice none 0 0] : Array Value)[o]? = some (.string x) ∧ (#[.int .i64 0, .int .i64 0, .int .i64 0, .string ⟨#[]⟩, .slice none 0 0] : Array Value)[o + 1]? = some (.string y)) := by
  rintro ⟨h1, h2⟩
  have ho : o < 5 := (Array.getElem?_eq_some_iff.1 h1).1
  rcases (by omega : o = 0 ∨ o = 1 ∨ o = 2 ∨ o = 3 ∨ o = 4) with rfl | rfl | rfl | rfl | rfl <;> first | (cases h1; done) | (cases h2; done)
theorem z7_no {x : ByteArray} {y : ByteArray} (o : Nat) : ¬ ((#[.int .i64 0, .int .i64 0, .int .i64 0, .int .i64 0, .string ⟨#[]⟩, .slice none 0 0, .slice none 0 0] : Array Value)[o]? = some (.string x) ∧ (#[.int .i64 0, .int .i64 0, .int .i64 0, .int .i64 0, .string ⟨#[]⟩, .slice none 0 0, .slice none 0 0] : Array Value)[o + 1]? = some (.string y)) := by
  rintro ⟨h1, h2⟩
  have ho : o < 7 := (Array.getElem?_eq_some_iff.1 h1).1
  rcases (by omega : o = 0 ∨ o = 1 ∨ o = 2 ∨ o = 3 ∨ o = 4 ∨ o = 5 ∨ o = 6) with rfl | rfl | rfl | rfl | rfl | rfl | rfl <;> first | (cases h1; done) | (cases h2; done)
theorem z5_no8 {x : Int} (o : Nat) : (#[.int .i64 0, .int .i64 0, .int .i64 0, .string ⟨#[]⟩, .slice none 0 0] : Array Value)[o]? ≠ some (.int .u8 x) := by
  intro h1
  have ho : o < 5 := (Array.getElem?_eq_some_iff.1 h1).1
  rcases (by omega : o = 0 ∨ o = 1 ∨ o = 2 ∨ o = 3 ∨ o = 4) with rfl | rfl | rfl | rfl | rfl <;> cases h1
theorem z7_no8 {x : Int} (o : Nat) : (#[.int .i64 0, .int .i64 0, .int .i64 0, .int .i64 0, .string ⟨#[]⟩, .slice none 0 0, .slice none 0 0] : Array Value)[o]? ≠ some (.int .u8 x) := by
  intro h1
  have ho : o < 7 := (Array.getElem?_eq_some_iff.1 h1).1
  rcases (by omega : o = 0 ∨ o = 1 ∨ o = 2 ∨ o = 3 ∨ o = 4 ∨ o = 5 ∨ o = 6) with rfl | rfl | rfl | rfl | rfl | rfl | rfl <;> cases h1
theorem z5_no2 (o : Nat) : (#[.int .i64 0, .int .i64 0, .int .i64 0, .string ⟨#[]⟩, .slice none 0 0] : Array Value)[o]? ≠ some (.int .i64 2) := by
  intro h1
  have ho : o < 5 := (Array.getElem?_eq_some_iff.1 h1).1
  rcases (by omega : o = 0 ∨ o = 1 ∨ o = 2 ∨ o = 3 ∨ o = 4) with rfl | rfl | rfl | rfl | rfl <;> cases h1
theorem z7_no2 (o : Nat) : (#[.int .i64 0, .int .i64 0, .int .i64 0, .int .i64 0, .string ⟨#[]⟩, .slice none 0 0, .slice none 0 0] : Array Value)[o]? ≠ some (.int .i64 2) := by
  intro h1
  have ho : o < 7 := (Array.getElem?_eq_some_iff.1 h1).1
  rcases (by omega : o = 0 ∨ o = 1 ∨ o = 2 ∨ o = 3 ∨ o = 4 ∨ o = 5 ∨ o = 6) with rfl | rfl | rfl | rfl | rfl | rfl | rfl <;> cases h1
theorem Flds.putL {W : World} {v : Value} {l : List Fld} (h : Flds W v l) {g : Nat} {cs : Array Value} {T : TypeId} (hg : W.heap[g]? = some (.cells cs T (0, 0))) (h1 : ∀ (x y : ByteArray) (o : Nat), ¬ (cs[o]? = some (Value.string x) ∧ cs[o + 1]? = some (Value.string y))) (h2 : ∀ (x : Int) (o : Nat), cs[o]? ≠ some (Value.int .u8 x)) (i : Nat) (us : List Value) : Flds (putL W g i us) v l :=
  ⟨Rows.putL h.1 hg (fun _ o _ hx => h1 _ _ o ⟨hx 0 _ rfl, hx 1 _ rfl⟩) i us, fun f hf => Rows.putL (h.2 f hf) hg (fun _ o _ hx => h2 _ o (hx 0 _ rfl)) i us⟩
theorem ResW.put5 {W : World} {s1 s2 s3 s4 s5 a' a2 a3 : Option Addr} {c' c2 c3 : Nat} (h : ResW W s1 s2 s3 s4 s5 a' a2 a3 c' c2 c3) {g : Nat} {T : TypeId} (hg : W.heap[g]? = some (.cells #[.int .i64 0, .int .i64 0, .int .i64 0, .string ⟨#[]⟩, .slice none 0 0] T (0, 0))) (us : List Value) : ResW (putL W g 0 us) s1 s2 s3 s4 s5 a' a2 a3 c' c2 c3 :=
  ⟨Flds.putL h.r hg (fun _ _ => z5_no) (fun _ => z5_no8) 0 us, Flds.putL h.f hg (fun _ _ => z5_no) (fun _ => z5_no8) 0 us, Rows.putL h.t hg (fun p o hp hx => by cases List.mem_singleton.1 hp; exact z5_no2 o (hx 0 _ rfl)) 0 us⟩
theorem ResW.put7 {W : World} {s1 s2 s3 s4 s5 a' a2 a3 : Option Addr} {c' c2 c3 : Nat} (h : ResW W s1 s2 s3 s4 s5 a' a2 a3 c' c2 c3) {g : Nat} {T : TypeId} (hg : W.heap[g]? = some (.cells #[.int .i64 0, .int .i64 0, .int .i64 0, .int .i64 0, .string ⟨#[]⟩, .slice none 0 0, .slice none 0 0] T (0, 0))) (us : List Value) : ResW (putL W g 0 us) s1 s2 s3 s4 s5 a' a2 a3 c' c2 c3 :=
  ⟨Flds.putL h.r hg (fun _ _ => z7_no) (fun _ => z7_no8) 0 us, Flds.putL h.f hg (fun _ _ => z7_no) (fun _ => z7_no8) 0 us, Rows.putL h.t hg (fun p o hp hx => by cases List.mem_singleton.1 hp; exact z7_no2 o (hx 0 _ rfl)) 0 us⟩
/-- Behind the call of Merge. -/
structure A3R (W : World) (listed : Array Bool) (xs : Nat → Value) (s1 s2 s3 s4 s5 a' a2 a3 : Option Addr) (c' c2 c3 : Nat) : Prop where
  res : ResW W s1 s2 s3 s4 s5 a' a2 a3 c' c2 c3
  x25 : xs 25 = .tuple #[.agg #[.int .i64 1, .int .i64 3, .int .i64 1, .string ⟨#[101, 110, 103]⟩, .slice a2 3 c2], .agg #[.int .i64 1, .int .i64 2, .int .i64 3, .int .i64 1, .string ⟨#[101, 110, 103]⟩, .slice a' 3 c', .slice a3 1 c3], .int .i64 0]
  x21 : listed.getD 4 true = true → xs 21 = .tuple #[.agg #[.int .i64 1, .int .i64 3, .int .i64 1, .string ⟨#[101, 110, 103]⟩, .slice a2 3 c2], .agg #[.int .i64 1, .int .i64 2, .int .i64 3, .int .i64 1, .string ⟨#[101, 110, 103]⟩, .slice a' 3 c', .slice a3 1 c3], .int .i64 0]
  x26 : listed.getD 5 true = true → xs 26 = .agg #[.int .i64 1, .int .i64 3, .int .i64 1, .string ⟨#[101, 110, 103]⟩, .slice a2 3 c2]
  x27 : listed.getD 6 true = true → xs 27 = .agg #[.int .i64 1, .int .i64 2, .int .i64 3, .int .i64 1, .string ⟨#[101, 110, 103]⟩, .slice a' 3 c', .slice a3 1 c3]
  x28 : listed.getD 7 true = true → xs 28 = .int .i64 0
  s10 : listed.getD 10 true = true → ∀ m, xs 3 = .pointer (some ⟨m, 0, none⟩) → W.heap[m]? = some (.cells #[.int .i64 1, .int .i64 3, .int .i64 1, .string ⟨#[101, 110, 103]⟩, .slice a2 3 c2] 31 (0, 0))
  s11 : listed.getD 11 true = true → ∀ m, xs 4 = .pointer (some ⟨m, 0, none⟩) → W.heap[m]? = some (.cells #[.int .i64 1, .int .i64 2, .int .i64 3, .int .i64 1, .string ⟨#[101, 110, 103]⟩, .slice a' 3 c', .slice a3 1 c3] 36 (0, 0))
/-- What holds, whatever operations have come up. -/
structure A3I (A W : World) (listed : Array Bool) (xs : Nat → Value) (s1 s2 s3 s4 s5 a a' : Option Addr) (c c' : Nat) : Prop where
  bel : Below A.heap.size A W
  x22 : listed.getD 0 true = true → xs 22 = .agg #[.int .i64 1, .int .i64 3, .int .i64 1, .string ⟨#[101, 110, 103]⟩, .slice a 2 c]
  x23 : listed.getD 1 true = true → xs 23 = .agg #[.int .i64 2, .int .i64 3, .int .i64 1, .string ⟨#[101, 110, 103]⟩, .slice a' 3 c']
  x24 : listed.getD 2 true = true → listed.getD 3 true = false → Keeps W (xs 24) stdK
  x25 : listed.getD 3 true = true → ∃ a2 a3 c2 c3, A3R W listed xs s1 s2 s3 s4 s5 a' a2 a3 c' c2 c3
  o : ∀ m, m = 4 ∨ m = 5 ∨ m = 6 ∨ m = 7 ∨ m = 10 ∨ m = 11 → listed.getD m true = true → listed.getD 3 true = true
  o10 : listed.getD 10 true = true → listed.getD 8 true = true
  o11 : listed.getD 11 true = true → listed.getD 9 true = true
  x3 : listed.getD 8 true = true → ∃ m cs, xs 3 = .pointer (some ⟨m, 0, none⟩) ∧ A.heap.size ≤ m ∧ W.heap[m]? = some (.cells cs 31 (0, 0)) ∧ (listed.getD 10 true = false → cs = #[.int .i64 0, .int .i64 0, .int .i64 0, .string ⟨#[]⟩, .slice none 0 0])
  x4 : listed.getD 9 true = true → ∃ m cs, xs 4 = .pointer (some ⟨m, 0, none⟩) ∧ A.heap.size ≤ m ∧ W.heap[m]? = some (.cells cs 36 (0, 0)) ∧ (listed.getD 11 true = false → cs = #[.int .i64 0, .int .i64 0, .int .i64 0, .int .i64 0, .string ⟨#[]⟩, .slice none 0 0, .slice none 0 0])
  x5 : listed.getD 12 true = true → xs 5 = .int .i64 0
theorem A3I.world {A W W' : World} {listed : Array Bool} {xs : Nat → Value} {s1 s2 s3 s4 s5 a a' : Option Addr} {c c' : Nat} (h : A3I A W listed xs s1 s2 s3 s4 s5 a a' c c') (b : Below W.heap.size W W') : A3I A W' listed xs s1 s2 s3 s4 s5 a a' c c' where
  bel := h.bel.bt b
  x22 := h.x22
  x23 := h.x23
  x24 := fun h1 h2 => Rows.below (h.x24 h1 h2) b (Nat.le_refl _)
  x25 := fun h1 => by
    obtain ⟨a2, a3, c2, c3, r⟩ := h.x25 h1
    exact ⟨a2, a3, c2, c3, r.res.below b, r.x25, r.x21, r.x26, r.x27, r.x28,
      fun h2 m hm => by have := r.s10 h2 m hm; exact (b.block _ (Array.getElem?_eq_some_iff.1 this).1).trans this,
      fun h2 m hm => by have := r.s11 h2 m hm; exact (b.block _ (Array.getElem?_eq_some_iff.1 this).1).trans this⟩
  o := h.o
  o10 := h.o10
  o11 := h.o11
  x3 := fun h1 => by
    obtain ⟨m, cs, e1, e2, e3, e4⟩ := h.x3 h1
    exact ⟨m, cs, e1, e2, (b.block _ (Array.getElem?_eq_some_iff.1 e3).1).trans e3, e4⟩
  x4 := fun h1 => by
    obtain ⟨m, cs, e1, e2, e3, e4⟩ := h.x4 h1
    exact ⟨m, cs, e1, e2, (b.block _ (Array.getElem?_eq_some_iff.1 e3).1).trans e3, e4⟩
  x5 := h.x5

theorem listed_set_mono {listed : Array Bool} {i m : Nat} (h : listed.getD m true = true) : (listed.setIfInBounds i true).getD m true = true := by
  by_cases hm : i = m
  · subst hm
    rcases Nat.lt_or_ge i listed.size with h' | h'
    · simp [Array.getD, h']
    · simp [Array.getD, Nat.not_lt.2 h']
  · rw [getD_set_ne true hm]; exact h
theorem A3I.s0 {A W : World} {listed : Array Bool} {xs : Nat → Value} {s1 s2 s3 s4 s5 a a' : Option Addr} {c c' : Nat} (h : A3I A W listed xs s1 s2 s3 s4 s5 a a' c c')  : A3I A W (listed.setIfInBounds 0 true) (fun k => if k = 22 then (.agg #[.int .i64 1, .int .i64 3, .int .i64 1, .string ⟨#[101, 110, 103]⟩, .slice a 2 c]) else xs k) s1 s2 s3 s4 s5 a a' c c' where
  bel := h.bel
  x22 := fun _ => by simp
  x23 := fun h1 => by have := h.x23 ((set_listed h1).resolve_left (by decide)); simpa using this
  x24 := fun h1 h2 => by have := h.x24 ((set_listed h1).resolve_left (by decide)) (set_false h2); simpa using this
  x25 := fun h1 => by
    obtain ⟨a2, a3, c2, c3, r⟩ := h.x25 ((set_listed h1).resolve_left (by decide))
    exact ⟨a2, a3, c2, c3, r.res, by simpa using r.x25, fun h2 => by have := r.x21 ((set_listed h2).resolve_left (by decide)); simpa using this, fun h2 => by have := r.x26 ((set_listed h2).resolve_left (by decide)); simpa using this, fun h2 => by have := r.x27 ((set_listed h2).resolve_left (by decide)); simpa using this, fun h2 => by have := r.x28 ((set_listed h2).resolve_left (by decide)); simpa using this, fun h2 m hm => r.s10 ((set_listed h2).resolve_left (by decide)) m (by simpa using hm), fun h2 m hm => r.s11 ((set_listed h2).resolve_left (by decide)) m (by simpa using hm)⟩
  o := fun m hm h1 => listed_set_mono (h.o m hm ((set_listed h1).resolve_left (by omega)))
  o10 := fun h1 => listed_set_mono (h.o10 ((set_listed h1).resolve_left (by decide)))
  o11 := fun h1 => listed_set_mono (h.o11 ((set_listed h1).resolve_left (by decide)))
  x3 := fun h1 => by
    obtain ⟨m, cs, e1, e2, e3, e4⟩ := h.x3 ((set_listed h1).resolve_left (by decide))
    exact ⟨m, cs, by simpa using e1, e2, e3, fun h2 => e4 (set_false h2)⟩
  x4 := fun h1 => by
    obtain ⟨m, cs, e1, e2, e3, e4⟩ := h.x4 ((set_listed h1).resolve_left (by decide))
    exact ⟨m, cs, by simpa using e1, e2, e3, fun h2 => e4 (set_false h2)⟩
  x5 := fun h1 => by have := h.x5 ((set_listed h1).resolve_left (by decide)); simpa using this
theorem A3I.s1 {A W : World} {listed : Array Bool} {xs : Nat → Value} {s1 s2 s3 s4 s5 a a' : Option Addr} {c c' : Nat} (h : A3I A W listed xs s1 s2 s3 s4 s5 a a' c c')  : A3I A W (listed.setIfInBounds 1 true) (fun k => if k = 23 then (.agg #[.int .i64 2, .int .i64 3, .int .i64 1, .string ⟨#[101, 110, 103]⟩, .slice a' 3 c']) else xs k) s1 s2 s3 s4 s5 a a' c c' where
  bel := h.bel
  x22 := fun h1 => by have := h.x22 ((set_listed h1).resolve_left (by decide)); simpa using this
  x23 := fun _ => by simp
  x24 := fun h1 h2 => by have := h.x24 ((set_listed h1).resolve_left (by decide)) (set_false h2); simpa using this
  x25 := fun h1 => by
    obtain ⟨a2, a3, c2, c3, r⟩ := h.x25 ((set_listed h1).resolve_left (by decide))
    exact ⟨a2, a3, c2, c3, r.res, by simpa using r.x25, fun h2 => by have := r.x21 ((set_listed h2).resolve_left (by decide)); simpa using this, fun h2 => by have := r.x26 ((set_listed h2).resolve_left (by decide)); simpa using this, fun h2 => by have := r.x27 ((set_listed h2).resolve_left (by decide)); simpa using this, fun h2 => by have := r.x28 ((set_listed h2).resolve_left (by decide)); simpa using this, fun h2 m hm => r.s10 ((set_listed h2).resolve_left (by decide)) m (by simpa using hm), fun h2 m hm => r.s11 ((set_listed h2).resolve_left (by decide)) m (by simpa using hm)⟩
  o := fun m hm h1 => listed_set_mono (h.o m hm ((set_listed h1).resolve_left (by omega)))
  o10 := fun h1 => listed_set_mono (h.o10 ((set_listed h1).resolve_left (by decide)))
  o11 := fun h1 => listed_set_mono (h.o11 ((set_listed h1).resolve_left (by decide)))
  x3 := fun h1 => by
    obtain ⟨m, cs, e1, e2, e3, e4⟩ := h.x3 ((set_listed h1).resolve_left (by decide))
    exact ⟨m, cs, by simpa using e1, e2, e3, fun h2 => e4 (set_false h2)⟩
  x4 := fun h1 => by
    obtain ⟨m, cs, e1, e2, e3, e4⟩ := h.x4 ((set_listed h1).resolve_left (by decide))
    exact ⟨m, cs, by simpa using e1, e2, e3, fun h2 => e4 (set_false h2)⟩
  x5 := fun h1 => by have := h.x5 ((set_listed h1).resolve_left (by decide)); simpa using this
theorem A3I.s2 {A W : World} {listed : Array Bool} {xs : Nat → Value} {s1 s2 s3 s4 s5 a a' : Option Addr} {c c' : Nat} (h : A3I A W listed xs s1 s2 s3 s4 s5 a a' c c') {v : Value} (hk : Keeps W v stdK) : A3I A W (listed.setIfInBounds 2 true) (fun k => if k = 24 then v else xs k) s1 s2 s3 s4 s5 a a' c c' where
  bel := h.bel
  x22 := fun h1 => by have := h.x22 ((set_listed h1).resolve_left (by decide)); simpa using this
  x23 := fun h1 => by have := h.x23 ((set_listed h1).resolve_left (by decide)); simpa using this
  x24 := fun _ _ => by simpa using hk
  x25 := fun h1 => by
    obtain ⟨a2, a3, c2, c3, r⟩ := h.x25 ((set_listed h1).resolve_left (by decide))
    exact ⟨a2, a3, c2, c3, r.res, by simpa using r.x25, fun h2 => by have := r.x21 ((set_listed h2).resolve_left (by decide)); simpa using this, fun h2 => by have := r.x26 ((set_listed h2).resolve_left (by decide)); simpa using this, fun h2 => by have := r.x27 ((set_listed h2).resolve_left (by decide)); simpa using this, fun h2 => by have := r.x28 ((set_listed h2).resolve_left (by decide)); simpa using this, fun h2 m hm => r.s10 ((set_listed h2).resolve_left (by decide)) m (by simpa using hm), fun h2 m hm => r.s11 ((set_listed h2).resolve_left (by decide)) m (by simpa using hm)⟩
  o := fun m hm h1 => listed_set_mono (h.o m hm ((set_listed h1).resolve_left (by omega)))
  o10 := fun h1 => listed_set_mono (h.o10 ((set_listed h1).resolve_left (by decide)))
  o11 := fun h1 => listed_set_mono (h.o11 ((set_listed h1).resolve_left (by decide)))
  x3 := fun h1 => by
    obtain ⟨m, cs, e1, e2, e3, e4⟩ := h.x3 ((set_listed h1).resolve_left (by decide))
    exact ⟨m, cs, by simpa using e1, e2, e3, fun h2 => e4 (set_false h2)⟩
  x4 := fun h1 => by
    obtain ⟨m, cs, e1, e2, e3, e4⟩ := h.x4 ((set_listed h1).resolve_left (by decide))
    exact ⟨m, cs, by simpa using e1, e2, e3, fun h2 => e4 (set_false h2)⟩
  x5 := fun h1 => by have := h.x5 ((set_listed h1).resolve_left (by decide)); simpa using this
theorem A3I.s3 {A W : World} {listed : Array Bool} {xs : Nat → Value} {s1 s2 s3 s4 s5 a a' : Option Addr} {c c' : Nat} (h : A3I A W listed xs s1 s2 s3 s4 s5 a a' c c') {a2 a3 : Option Addr} {c2 c3 : Nat} (h3 : listed.getD 3 true = false) (hr : ResW W s1 s2 s3 s4 s5 a' a2 a3 c' c2 c3) : A3I A W (listed.setIfInBounds 3 true) (fun k => if k = 25 then (.tuple #[.agg #[.int .i64 1, .int .i64 3, .int .i64 1, .string ⟨#[101, 110, 103]⟩, .slice a2 3 c2], .agg #[.int .i64 1, .int .i64 2, .int .i64 3, .int .i64 1, .string ⟨#[101, 110, 103]⟩, .slice a' 3 c', .slice a3 1 c3], .int .i64 0]) else xs k) s1 s2 s3 s4 s5 a a' c c' where
  bel := h.bel
  x22 := fun h1 => by have := h.x22 ((set_listed h1).resolve_left (by decide)); simpa using this
  x23 := fun h1 => by have := h.x23 ((set_listed h1).resolve_left (by decide)); simpa using this
  x24 := fun _ h2 => on_off (h := by
    have : (listed.setIfInBounds 3 true).getD 3 true = true := by
      rcases Nat.lt_or_ge 3 listed.size with h' | h'
      · simp [Array.getD, h']
      · simp [Array.getD, Nat.not_lt.2 h']
    exact this) h2
  x25 := fun _ => ⟨a2, a3, c2, c3, hr, by simp, fun h2 => on_off (h.o _ (by simp) ((set_listed h2).resolve_left (by decide))) h3, fun h2 => on_off (h.o _ (by simp) ((set_listed h2).resolve_left (by decide))) h3, fun h2 => on_off (h.o _ (by simp) ((set_listed h2).resolve_left (by decide))) h3, fun h2 => on_off (h.o _ (by simp) ((set_listed h2).resolve_left (by decide))) h3, fun h2 => on_off (h.o _ (by simp) ((set_listed h2).resolve_left (by decide))) h3, fun h2 => on_off (h.o _ (by simp) ((set_listed h2).resolve_left (by decide))) h3⟩
  o := fun m hm h1 => by
    have : (listed.setIfInBounds 3 true).getD 3 true = true := by
      rcases Nat.lt_or_ge 3 listed.size with h' | h'
      · simp [Array.getD, h']
      · simp [Array.getD, Nat.not_lt.2 h']
    exact this
  o10 := fun h1 => listed_set_mono (h.o10 ((set_listed h1).resolve_left (by decide)))
  o11 := fun h1 => listed_set_mono (h.o11 ((set_listed h1).resolve_left (by decide)))
  x3 := fun h1 => by
    obtain ⟨m, cs, e1, e2, e3, e4⟩ := h.x3 ((set_listed h1).resolve_left (by decide))
    exact ⟨m, cs, by simpa using e1, e2, e3, fun h2 => e4 (set_false h2)⟩
  x4 := fun h1 => by
    obtain ⟨m, cs, e1, e2, e3, e4⟩ := h.x4 ((set_listed h1).resolve_left (by decide))
    exact ⟨m, cs, by simpa using e1, e2, e3, fun h2 => e4 (set_false h2)⟩
  x5 := fun h1 => by have := h.x5 ((set_listed h1).resolve_left (by decide)); simpa using this
theorem A3I.s4 {A W : World} {listed : Array Bool} {xs : Nat → Value} {s1 s2 s3 s4 s5 a a' : Option Addr} {c c' : Nat} (h : A3I A W listed xs s1 s2 s3 s4 s5 a a' c c') {v : Value} (h3 : listed.getD 3 true = true) (hv : ∀ a2 a3 c2 c3, A3R W listed xs s1 s2 s3 s4 s5 a' a2 a3 c' c2 c3 → v = .tuple #[.agg #[.int .i64 1, .int .i64 3, .int .i64 1, .string ⟨#[101, 110, 103]⟩, .slice a2 3 c2], .agg #[.int .i64 1, .int .i64 2, .int .i64 3, .int .i64 1, .string ⟨#[101, 110, 103]⟩, .slice a' 3 c', .slice a3 1 c3], .int .i64 0]) : A3I A W (listed.setIfInBounds 4 true) (fun k => if k = 21 then v else xs k) s1 s2 s3 s4 s5 a a' c c' where
  bel := h.bel
  x22 := fun h1 => by have := h.x22 ((set_listed h1).resolve_left (by decide)); simpa using this
  x23 := fun h1 => by have := h.x23 ((set_listed h1).resolve_left (by decide)); simpa using this
  x24 := fun h1 h2 => by have := h.x24 ((set_listed h1).resolve_left (by decide)) (set_false h2); simpa using this
  x25 := fun h1 => by
    obtain ⟨a2, a3, c2, c3, r⟩ := h.x25 ((set_listed h1).resolve_left (by decide))
    exact ⟨a2, a3, c2, c3, r.res, by simpa using r.x25, fun _ => by simpa using hv a2 a3 c2 c3 r, fun h2 => by have := r.x26 ((set_listed h2).resolve_left (by decide)); simpa using this, fun h2 => by have := r.x27 ((set_listed h2).resolve_left (by decide)); simpa using this, fun h2 => by have := r.x28 ((set_listed h2).resolve_left (by decide)); simpa using this, fun h2 m hm => r.s10 ((set_listed h2).resolve_left (by decide)) m (by simpa using hm), fun h2 m hm => r.s11 ((set_listed h2).resolve_left (by decide)) m (by simpa using hm)⟩
  o := fun m hm h1 => listed_set_mono h3
  o10 := fun h1 => listed_set_mono (h.o10 ((set_listed h1).resolve_left (by decide)))
  o11 := fun h1 => listed_set_mono (h.o11 ((set_listed h1).resolve_left (by decide)))
  x3 := fun h1 => by
    obtain ⟨m, cs, e1, e2, e3, e4⟩ := h.x3 ((set_listed h1).resolve_left (by decide))
    exact ⟨m, cs, by simpa using e1, e2, e3, fun h2 => e4 (set_false h2)⟩
  x4 := fun h1 => by
    obtain ⟨m, cs, e1, e2, e3, e4⟩ := h.x4 ((set_listed h1).resolve_left (by decide))
    exact ⟨m, cs, by simpa using e1, e2, e3, fun h2 => e4 (set_false h2)⟩
  x5 := fun h1 => by have := h.x5 ((set_listed h1).resolve_left (by decide)); simpa using this
theorem A3I.s5 {A W : World} {listed : Array Bool} {xs : Nat → Value} {s1 s2 s3 s4 s5 a a' : Option Addr} {c c' : Nat} (h : A3I A W listed xs s1 s2 s3 s4 s5 a a' c c') {v : Value} (h3 : listed.getD 3 true = true) (hv : ∀ a2 a3 c2 c3, A3R W listed xs s1 s2 s3 s4 s5 a' a2 a3 c' c2 c3 → v = .agg #[.int .i64 1, .int .i64 3, .int .i64 1, .string ⟨#[101, 110, 103]⟩, .slice a2 3 c2]) : A3I A W (listed.setIfInBounds 5 true) (fun k => if k = 26 then v else xs k) s1 s2 s3 s4 s5 a a' c c' where
  bel := h.bel
  x22 := fun h1 => by have := h.x22 ((set_listed h1).resolve_left (by decide)); simpa using this
  x23 := fun h1 => by have := h.x23 ((set_listed h1).resolve_left (by decide)); simpa using this
  x24 := fun h1 h2 => by have := h.x24 ((set_listed h1).resolve_left (by decide)) (set_false h2); simpa using this
  x25 := fun h1 => by
    obtain ⟨a2, a3, c2, c3, r⟩ := h.x25 ((set_listed h1).resolve_left (by decide))
    exact ⟨a2, a3, c2, c3, r.res, by simpa using r.x25, fun h2 => by have := r.x21 ((set_listed h2).resolve_left (by decide)); simpa using this, fun _ => by simpa using hv a2 a3 c2 c3 r, fun h2 => by have := r.x27 ((set_listed h2).resolve_left (by decide)); simpa using this, fun h2 => by have := r.x28 ((set_listed h2).resolve_left (by decide)); simpa using this, fun h2 m hm => r.s10 ((set_listed h2).resolve_left (by decide)) m (by simpa using hm), fun h2 m hm => r.s11 ((set_listed h2).resolve_left (by decide)) m (by simpa using hm)⟩
  o := fun m hm h1 => listed_set_mono h3
  o10 := fun h1 => listed_set_mono (h.o10 ((set_listed h1).resolve_left (by decide)))
  o11 := fun h1 => listed_set_mono (h.o11 ((set_listed h1).resolve_left (by decide)))
  x3 := fun h1 => by
    obtain ⟨m, cs, e1, e2, e3, e4⟩ := h.x3 ((set_listed h1).resolve_left (by decide))
    exact ⟨m, cs, by simpa using e1, e2, e3, fun h2 => e4 (set_false h2)⟩
  x4 := fun h1 => by
    obtain ⟨m, cs, e1, e2, e3, e4⟩ := h.x4 ((set_listed h1).resolve_left (by decide))
    exact ⟨m, cs, by simpa using e1, e2, e3, fun h2 => e4 (set_false h2)⟩
  x5 := fun h1 => by have := h.x5 ((set_listed h1).resolve_left (by decide)); simpa using this
theorem A3I.s6 {A W : World} {listed : Array Bool} {xs : Nat → Value} {s1 s2 s3 s4 s5 a a' : Option Addr} {c c' : Nat} (h : A3I A W listed xs s1 s2 s3 s4 s5 a a' c c') {v : Value} (h3 : listed.getD 3 true = true) (hv : ∀ a2 a3 c2 c3, A3R W listed xs s1 s2 s3 s4 s5 a' a2 a3 c' c2 c3 → v = .agg #[.int .i64 1, .int .i64 2, .int .i64 3, .int .i64 1, .string ⟨#[101, 110, 103]⟩, .slice a' 3 c', .slice a3 1 c3]) : A3I A W (listed.setIfInBounds 6 true) (fun k => if k = 27 then v else xs k) s1 s2 s3 s4 s5 a a' c c' where
  bel := h.bel
  x22 := fun h1 => by have := h.x22 ((set_listed h1).resolve_left (by decide)); simpa using this
  x23 := fun h1 => by have := h.x23 ((set_listed h1).resolve_left (by decide)); simpa using this
  x24 := fun h1 h2 => by have := h.x24 ((set_listed h1).resolve_left (by decide)) (set_false h2); simpa using this
  x25 := fun h1 => by
    obtain ⟨a2, a3, c2, c3, r⟩ := h.x25 ((set_listed h1).resolve_left (by decide))
    exact ⟨a2, a3, c2, c3, r.res, by simpa using r.x25, fun h2 => by have := r.x21 ((set_listed h2).resolve_left (by decide)); simpa using this, fun h2 => by have := r.x26 ((set_listed h2).resolve_left (by decide)); simpa using this, fun _ => by simpa using hv a2 a3 c2 c3 r, fun h2 => by have := r.x28 ((set_listed h2).resolve_left (by decide)); simpa using this, fun h2 m hm => r.s10 ((set_listed h2).resolve_left (by decide)) m (by simpa using hm), fun h2 m hm => r.s11 ((set_listed h2).resolve_left (by decide)) m (by simpa using hm)⟩
  o := fun m hm h1 => listed_set_mono h3
  o10 := fun h1 => listed_set_mono (h.o10 ((set_listed h1).resolve_left (by decide)))
  o11 := fun h1 => listed_set_mono (h.o11 ((set_listed h1).resolve_left (by decide)))
  x3 := fun h1 => by
    obtain ⟨m, cs, e1, e2, e3, e4⟩ := h.x3 ((set_listed h1).resolve_left (by decide))
    exact ⟨m, cs, by simpa using e1, e2, e3, fun h2 => e4 (set_false h2)⟩
  x4 := fun h1 => by
    obtain ⟨m, cs, e1, e2, e3, e4⟩ := h.x4 ((set_listed h1).resolve_left (by decide))
    exact ⟨m, cs, by simpa using e1, e2, e3, fun h2 => e4 (set_false h2)⟩
  x5 := fun h1 => by have := h.x5 ((set_listed h1).resolve_left (by decide)); simpa using this
theorem A3I.s7 {A W : World} {listed : Array Bool} {xs : Nat → Value} {s1 s2 s3 s4 s5 a a' : Option Addr} {c c' : Nat} (h : A3I A W listed xs s1 s2 s3 s4 s5 a a' c c') {v : Value} (h3 : listed.getD 3 true = true) (hv : ∀ a2 a3 c2 c3, A3R W listed xs s1 s2 s3 s4 s5 a' a2 a3 c' c2 c3 → v = .int .i64 0) : A3I A W (listed.setIfInBounds 7 true) (fun k => if k = 28 then v else xs k) s1 s2 s3 s4 s5 a a' c c' where
  bel := h.bel
  x22 := fun h1 => by have := h.x22 ((set_listed h1).resolve_left (by decide)); simpa using this
  x23 := fun h1 => by have := h.x23 ((set_listed h1).resolve_left (by decide)); simpa using this
  x24 := fun h1 h2 => by have := h.x24 ((set_listed h1).resolve_left (by decide)) (set_false h2); simpa using this
  x25 := fun h1 => by
    obtain ⟨a2, a3, c2, c3, r⟩ := h.x25 ((set_listed h1).resolve_left (by decide))
    exact ⟨a2, a3, c2, c3, r.res, by simpa using r.x25, fun h2 => by have := r.x21 ((set_listed h2).resolve_left (by decide)); simpa using this, fun h2 => by have := r.x26 ((set_listed h2).resolve_left (by decide)); simpa using this, fun h2 => by have := r.x27 ((set_listed h2).resolve_left (by decide)); simpa using this, fun _ => by simpa using hv a2 a3 c2 c3 r, fun h2 m hm => r.s10 ((set_listed h2).resolve_left (by decide)) m (by simpa using hm), fun h2 m hm => r.s11 ((set_listed h2).resolve_left (by decide)) m (by simpa using hm)⟩
  o := fun m hm h1 => listed_set_mono h3
  o10 := fun h1 => listed_set_mono (h.o10 ((set_listed h1).resolve_left (by decide)))
  o11 := fun h1 => listed_set_mono (h.o11 ((set_listed h1).resolve_left (by decide)))
  x3 := fun h1 => by
    obtain ⟨m, cs, e1, e2, e3, e4⟩ := h.x3 ((set_listed h1).resolve_left (by decide))
    exact ⟨m, cs, by simpa using e1, e2, e3, fun h2 => e4 (set_false h2)⟩
  x4 := fun h1 => by
    obtain ⟨m, cs, e1, e2, e3, e4⟩ := h.x4 ((set_listed h1).resolve_left (by decide))
    exact ⟨m, cs, by simpa using e1, e2, e3, fun h2 => e4 (set_false h2)⟩
  x5 := fun h1 => by have := h.x5 ((set_listed h1).resolve_left (by decide)); simpa using this
theorem listed_self {listed : Array Bool} (i : Nat) : (listed.setIfInBounds i true).getD i true = true := by
  rcases Nat.lt_or_ge i listed.size with h' | h'
  · simp [Array.getD, h']
  · simp [Array.getD, Nat.not_lt.2 h']
theorem A3I.s8 {A W : World} {listed : Array Bool} {xs : Nat → Value} {s1 s2 s3 s4 s5 a a' : Option Addr} {c c' : Nat} (h : A3I A W listed xs s1 s2 s3 s4 s5 a a' c c') {m : Nat} (h8 : listed.getD 8 true = false) (hm : A.heap.size ≤ m) (hg : W.heap[m]? = some (.cells #[.int .i64 0, .int .i64 0, .int .i64 0, .string ⟨#[]⟩, .slice none 0 0] 31 (0, 0))) : A3I A W (listed.setIfInBounds 8 true) (fun k => if k = 3 then (.pointer (some ⟨m, 0, none⟩)) else xs k) s1 s2 s3 s4 s5 a a' c c' where
  bel := h.bel
  x22 := fun h1 => by have := h.x22 ((set_listed h1).resolve_left (by decide)); simpa using this
  x23 := fun h1 => by have := h.x23 ((set_listed h1).resolve_left (by decide)); simpa using this
  x24 := fun h1 h2 => by have := h.x24 ((set_listed h1).resolve_left (by decide)) (set_false h2); simpa using this
  x25 := fun h1 => by
    obtain ⟨a2, a3, c2, c3, r⟩ := h.x25 ((set_listed h1).resolve_left (by decide))
    exact ⟨a2, a3, c2, c3, r.res, by simpa using r.x25, fun h2 => by have := r.x21 ((set_listed h2).resolve_left (by decide)); simpa using this, fun h2 => by have := r.x26 ((set_listed h2).resolve_left (by decide)); simpa using this, fun h2 => by have := r.x27 ((set_listed h2).resolve_left (by decide)); simpa using this, fun h2 => by have := r.x28 ((set_listed h2).resolve_left (by decide)); simpa using this, fun h2 => on_off (h.o10 ((set_listed h2).resolve_left (by decide))) h8, fun h2 m hm => r.s11 ((set_listed h2).resolve_left (by decide)) m (by simpa using hm)⟩
  o := fun m hm h1 => listed_set_mono (h.o m hm ((set_listed h1).resolve_left (by omega)))
  o10 := fun h1 => listed_set_mono (h.o10 ((set_listed h1).resolve_left (by decide)))
  o11 := fun h1 => listed_set_mono (h.o11 ((set_listed h1).resolve_left (by decide)))
  x3 := fun _ => ⟨m, _, by simp, hm, hg, fun _ => rfl⟩
  x4 := fun h1 => by
    obtain ⟨m, cs, e1, e2, e3, e4⟩ := h.x4 ((set_listed h1).resolve_left (by decide))
    exact ⟨m, cs, by simpa using e1, e2, e3, fun h2 => e4 (set_false h2)⟩
  x5 := fun h1 => by have := h.x5 ((set_listed h1).resolve_left (by decide)); simpa using this
theorem A3I.s9 {A W : World} {listed : Array Bool} {xs : Nat → Value} {s1 s2 s3 s4 s5 a a' : Option Addr} {c c' : Nat} (h : A3I A W listed xs s1 s2 s3 s4 s5 a a' c c') {m : Nat} (h9 : listed.getD 9 true = false) (hm : A.heap.size ≤ m) (hg : W.heap[m]? = some (.cells #[.int .i64 0, .int .i64 0, .int .i64 0, .int .i64 0, .string ⟨#[]⟩, .slice none 0 0, .slice none 0 0] 36 (0, 0))) : A3I A W (listed.setIfInBounds 9 true) (fun k => if k = 4 then (.pointer (some ⟨m, 0, none⟩)) else xs k) s1 s2 s3 s4 s5 a a' c c' where
  bel := h.bel
  x22 := fun h1 => by have := h.x22 ((set_listed h1).resolve_left (by decide)); simpa using this
  x23 := fun h1 => by have := h.x23 ((set_listed h1).resolve_left (by decide)); simpa using this
  x24 := fun h1 h2 => by have := h.x24 ((set_listed h1).resolve_left (by decide)) (set_false h2); simpa using this
  x25 := fun h1 => by
    obtain ⟨a2, a3, c2, c3, r⟩ := h.x25 ((set_listed h1).resolve_left (by decide))
    exact ⟨a2, a3, c2, c3, r.res, by simpa using r.x25, fun h2 => by have := r.x21 ((set_listed h2).resolve_left (by decide)); simpa using this, fun h2 => by have := r.x26 ((set_listed h2).resolve_left (by decide)); simpa using this, fun h2 => by have := r.x27 ((set_listed h2).resolve_left (by decide)); simpa using this, fun h2 => by have := r.x28 ((set_listed h2).resolve_left (by decide)); simpa using this, fun h2 m hm => r.s10 ((set_listed h2).resolve_left (by decide)) m (by simpa using hm), fun h2 => on_off (h.o11 ((set_listed h2).resolve_left (by decide))) h9⟩
  o := fun m hm h1 => listed_set_mono (h.o m hm ((set_listed h1).resolve_left (by omega)))
  o10 := fun h1 => listed_set_mono (h.o10 ((set_listed h1).resolve_left (by decide)))
  o11 := fun h1 => listed_set_mono (h.o11 ((set_listed h1).resolve_left (by decide)))
  x3 := fun h1 => by
    obtain ⟨m, cs, e1, e2, e3, e4⟩ := h.x3 ((set_listed h1).resolve_left (by decide))
    exact ⟨m, cs, by simpa using e1, e2, e3, fun h2 => e4 (set_false h2)⟩
  x4 := fun _ => ⟨m, _, by simp, hm, hg, fun _ => rfl⟩
  x5 := fun h1 => by have := h.x5 ((set_listed h1).resolve_left (by decide)); simpa using this
theorem A3I.s12 {A W : World} {listed : Array Bool} {xs : Nat → Value} {s1 s2 s3 s4 s5 a a' : Option Addr} {c c' : Nat} (h : A3I A W listed xs s1 s2 s3 s4 s5 a a' c c') {v : Value} (hv : v = .int .i64 0) : A3I A W (listed.setIfInBounds 12 true) (fun k => if k = 5 then v else xs k) s1 s2 s3 s4 s5 a a' c c' where
  bel := h.bel
  x22 := fun h1 => by have := h.x22 ((set_listed h1).resolve_left (by decide)); simpa using this
  x23 := fun h1 => by have := h.x23 ((set_listed h1).resolve_left (by decide)); simpa using this
  x24 := fun h1 h2 => by have := h.x24 ((set_listed h1).resolve_left (by decide)) (set_false h2); simpa using this
  x25 := fun h1 => by
    obtain ⟨a2, a3, c2, c3, r⟩ := h.x25 ((set_listed h1).resolve_left (by decide))
    exact ⟨a2, a3, c2, c3, r.res, by simpa using r.x25, fun h2 => by have := r.x21 ((set_listed h2).resolve_left (by decide)); simpa using this, fun h2 => by have := r.x26 ((set_listed h2).resolve_left (by decide)); simpa using this, fun h2 => by have := r.x27 ((set_listed h2).resolve_left (by decide)); simpa using this, fun h2 => by have := r.x28 ((set_listed h2).resolve_left (by decide)); simpa using this, fun h2 m hm => r.s10 ((set_listed h2).resolve_left (by decide)) m (by simpa using hm), fun h2 m hm => r.s11 ((set_listed h2).resolve_left (by decide)) m (by simpa using hm)⟩
  o := fun m hm h1 => listed_set_mono (h.o m hm ((set_listed h1).resolve_left (by omega)))
  o10 := fun h1 => listed_set_mono (h.o10 ((set_listed h1).resolve_left (by decide)))
  o11 := fun h1 => listed_set_mono (h.o11 ((set_listed h1).resolve_left (by decide)))
  x3 := fun h1 => by
    obtain ⟨m, cs, e1, e2, e3, e4⟩ := h.x3 ((set_listed h1).resolve_left (by decide))
    exact ⟨m, cs, by simpa using e1, e2, e3, fun h2 => e4 (set_false h2)⟩
  x4 := fun h1 => by
    obtain ⟨m, cs, e1, e2, e3, e4⟩ := h.x4 ((set_listed h1).resolve_left (by decide))
    exact ⟨m, cs, by simpa using e1, e2, e3, fun h2 => e4 (set_false h2)⟩
  x5 := fun _ => by simpa using hv
theorem A3I.s10 {A W : World} {listed : Array Bool} {xs : Nat → Value} {s1 s2 s3 s4 s5 a a' : Option Addr} {c c' : Nat} (h : A3I A W listed xs s1 s2 s3 s4 s5 a a' c c') {m : Nat} {a2 a3 : Option Addr} {c2 c3 : Nat} (r : A3R W listed xs s1 s2 s3 s4 s5 a' a2 a3 c' c2 c3) (h3 : listed.getD 3 true = true) (hx : xs 3 = .pointer (some ⟨m, 0, none⟩)) (hd : listed.getD 8 true = true) (hm : A.heap.size ≤ m) (hg : W.heap[m]? = some (.cells #[.int .i64 0, .int .i64 0, .int .i64 0, .string ⟨#[]⟩, .slice none 0 0] 31 (0, 0))) : A3I A (putL W m 0 [.int .i64 1, .int .i64 3, .int .i64 1, .string ⟨#[101, 110, 103]⟩, .slice a2 3 c2]) (listed.setIfInBounds 10 true) xs s1 s2 s3 s4 s5 a a' c c' where
  bel := putL_below _ W m 0 h.bel hm
  x22 := fun h1 => h.x22 ((set_listed h1).resolve_left (by decide))
  x23 := fun h1 => h.x23 ((set_listed h1).resolve_left (by decide))
  x24 := fun _ h2 => on_off h3 (set_false h2)
  x25 := fun _ => ⟨a2, a3, c2, c3, r.res.put5 hg _, r.x25, fun h2 => r.x21 ((set_listed h2).resolve_left (by decide)), fun h2 => r.x26 ((set_listed h2).resolve_left (by decide)), fun h2 => r.x27 ((set_listed h2).resolve_left (by decide)), fun h2 => r.x28 ((set_listed h2).resolve_left (by decide)),
      (fun _ m' hm' => by
        have e : m' = m := by rw [hx] at hm'; cases hm'; rfl
        subst e
        exact putL_all _ W _ _ _ hg rfl),
      (fun h2 m' hm' => by
        have e := r.s11 ((set_listed h2).resolve_left (by decide)) m' hm'
        refine (putL_other _ _ _ _ ?_).trans e
        rintro rfl
        rw [hg] at e
        cases e)⟩
  o := fun _ _ _ => listed_set_mono h3
  o10 := fun _ => listed_set_mono hd
  o11 := fun h1 => listed_set_mono (h.o11 ((set_listed h1).resolve_left (by decide)))
  x3 := fun _ => ⟨m, _, hx, hm, putL_all _ W m _ _ hg rfl, fun h2 => on_off (listed_self 10) h2⟩
  x4 := fun h1 => by
    obtain ⟨m', cs, e1, e2, e3, e4⟩ := h.x4 ((set_listed h1).resolve_left (by decide))
    refine ⟨m', cs, e1, e2, (putL_other _ _ _ _ ?_).trans e3, fun h2 => e4 (set_false h2)⟩
    rintro rfl
    rw [hg] at e3
    cases e3
  x5 := fun h1 => h.x5 ((set_listed h1).resolve_left (by decide))
theorem A3I.s11 {A W : World} {listed : Array Bool} {xs : Nat → Value} {s1 s2 s3 s4 s5 a a' : Option Addr} {c c' : Nat} (h : A3I A W listed xs s1 s2 s3 s4 s5 a a' c c') {m : Nat} {a2 a3 : Option Addr} {c2 c3 : Nat} (r : A3R W listed xs s1 s2 s3 s4 s5 a' a2 a3 c' c2 c3) (h3 : listed.getD 3 true = true) (hx : xs 4 = .pointer (some ⟨m, 0, none⟩)) (hd : listed.getD 9 true = true) (hm : A.heap.size ≤ m) (hg : W.heap[m]? = some (.cells #[.int .i64 0, .int .i64 0, .int .i64 0, .int .i64 0, .string ⟨#[]⟩, .slice none 0 0, .slice none 0 0] 36 (0, 0))) : A3I A (putL W m 0 [.int .i64 1, .int .i64 2, .int .i64 3, .int .i64 1, .string ⟨#[101, 110, 103]⟩, .slice a' 3 c', .slice a3 1 c3]) (listed.setIfInBounds 11 true) xs s1 s2 s3 s4 s5 a a' c c' where
  bel := putL_below _ W m 0 h.bel hm
  x22 := fun h1 => h.x22 ((set_listed h1).resolve_left (by decide))
  x23 := fun h1 => h.x23 ((set_listed h1).resolve_left (by decide))
  x24 := fun _ h2 => on_off h3 (set_false h2)
  x25 := fun _ => ⟨a2, a3, c2, c3, r.res.put7 hg _, r.x25, fun h2 => r.x21 ((set_listed h2).resolve_left (by decide)), fun h2 => r.x26 ((set_listed h2).resolve_left (by decide)), fun h2 => r.x27 ((set_listed h2).resolve_left (by decide)), fun h2 => r.x28 ((set_listed h2).resolve_left (by decide)),
      (fun h2 m' hm' => by
        have e := r.s10 ((set_listed h2).resolve_left (by decide)) m' hm'
        refine (putL_other _ _ _ _ ?_).trans e
        rintro rfl
        rw [hg] at e
        cases e),
      (fun _ m' hm' => by
        have e : m' = m := by rw [hx] at hm'; cases hm'; rfl
        subst e
        exact putL_all _ W _ _ _ hg rfl)⟩
  o := fun _ _ _ => listed_set_mono h3
  o10 := fun h1 => listed_set_mono (h.o10 ((set_listed h1).resolve_left (by decide)))
  o11 := fun _ => listed_set_mono hd
  x3 := fun h1 => by
    obtain ⟨m', cs, e1, e2, e3, e4⟩ := h.x3 ((set_listed h1).resolve_left (by decide))
    refine ⟨m', cs, e1, e2, (putL_other _ _ _ _ ?_).trans e3, fun h2 => e4 (set_false h2)⟩
    rintro rfl
    rw [hg] at e3
    cases e3
  x4 := fun _ => ⟨m, _, hx, hm, putL_all _ W m _ _ hg rfl, fun h2 => on_off (listed_self 11) h2⟩
  x5 := fun h1 => h.x5 ((set_listed h1).resolve_left (by decide))

set_option maxRecDepth 100000 in
set_option maxHeartbeats 4000000 in
theorem alive3 {id : Nat} {ty0 : TypeId} {po0 : String} {af0 : Array Edge} {ty1 : TypeId} {po1 : String} {af1 : Array Edge} {ty2 : TypeId} {po2 : String} {af2 : Array Edge} {ty3 : TypeId} {po3 : String} {af3 : Array Edge} {ty4 : TypeId} {po4 : String} {af4 : Array Edge} {ty5 : TypeId} {po5 : String} {af5 : Array Edge} {ty6 : TypeId} {po6 : String} {af6 : Array Edge} {ty7 : TypeId} {po7 : String} {af7 : Array Edge} {ty8 : TypeId} {po8 : String} {af8 : Array Edge} {ty9 : TypeId} {po9 : String} {af9 : Array Edge} {ty10 : TypeId} {po10 : String} {af10 : Array Edge} {ty11 : TypeId} {po11 : String} {af11 : Array Edge} {ty12 : TypeId} {po12 : String} {af12 : Array Edge} {Q : Exit → Act → World → Prop} {A : World} {v0 v6 v7 v8 v9 v10 v11 v12 v13 v14 v15 v16 v17 v18 v19 v20 v29 v30 v31 v32 v33 v34 v35 v36 v37 v38 v39 v40 v41 v42 v43 v44 v45 v46 v47 v48 v49 v50 v51 v52 v53 v54 v55 v56 v57 v58 v59 v60 v61 v62 v63 v64 v65 v66 v67 v68 v69 v70 v71 v72 v73 v74 v75 v76 v77 v78 v79 v80 v81 v82 v83 v84 v85 v86 v87 v88 v89 v90 v91 v92 v93 v94 v95 v96 v97 v98 v99 v100 v101 v102 v103 v104 v105 v106 v107 v108 v109 v110 v111 v112 v113 v114 v115 v116 v117 v118 v119 v120 v121 v122 v123 v124 v125 v126 v127 : Value} {u3 u4 u5 u21 u22 u23 u24 u25 u26 u27 u28 : Value}
    (n1 n2 : Nat) (s1 s2 s3 s4 s5 a a' : Option Addr) (c c' : Nat) (hE : Env A) (h1 : RB A n1 (intoX s1 s2 a c)) (h2 : RB A n2 (fromX s3 s4 s5 a' c'))
    (hw3_0 : waits .any #[⟨some 22, .load 31 (.tmp 1), ty0, po0, af0, none⟩, ⟨some 23, .load 31 (.tmp 2), ty1, po1, af1, none⟩, ⟨some 24, .call { callee := .value (.func 8), args := #[], argTypes := #[] }, ty2, po2, af2, none⟩, ⟨some 25, .call { callee := .value (.func 13), args := #[.tmp 22, .tmp 23, .tmp 24], argTypes := #[31, 31, 22] }, ty3, po3, af3, none⟩, ⟨some 21, .move (.tmp 25), ty4, po4, af4, none⟩, ⟨some 26, .extract (.tmp 21) 0, ty5, po5, af5, none⟩, ⟨some 27, .extract (.tmp 21) 1, ty6, po6, af6, none⟩, ⟨some 28, .extract (.tmp 21) 2, ty7, po7, af7, none⟩, ⟨some 3, .alloc 31, ty8, po8, af8, none⟩, ⟨some 4, .alloc 36, ty9, po9, af9, none⟩, ⟨none, .store 31 (.tmp 3) (.tmp 26), ty10, po10, af10, none⟩, ⟨none, .store 36 (.tmp 4) (.tmp 27), ty11, po11, af11, none⟩, ⟨some 5, .assign (.tmp 28), ty12, po12, af12, none⟩] 3 0 = true)
    (hw3_1 : waits .any #[⟨some 22, .load 31 (.tmp 1), ty0, po0, af0, none⟩, ⟨some 23, .load 31 (.tmp 2), ty1, po1, af1, none⟩, ⟨some 24, .call { callee := .value (.func 8), args := #[], argTypes := #[] }, ty2, po2, af2, none⟩, ⟨some 25, .call { callee := .value (.func 13), args := #[.tmp 22, .tmp 23, .tmp 24], argTypes := #[31, 31, 22] }, ty3, po3, af3, none⟩, ⟨some 21, .move (.tmp 25), ty4, po4, af4, none⟩, ⟨some 26, .extract (.tmp 21) 0, ty5, po5, af5, none⟩, ⟨some 27, .extract (.tmp 21) 1, ty6, po6, af6, none⟩, ⟨some 28, .extract (.tmp 21) 2, ty7, po7, af7, none⟩, ⟨some 3, .alloc 31, ty8, po8, af8, none⟩, ⟨some 4, .alloc 36, ty9, po9, af9, none⟩, ⟨none, .store 31 (.tmp 3) (.tmp 26), ty10, po10, af10, none⟩, ⟨none, .store 36 (.tmp 4) (.tmp 27), ty11, po11, af11, none⟩, ⟨some 5, .assign (.tmp 28), ty12, po12, af12, none⟩] 3 1 = true)
    (hw3_2 : waits .any #[⟨some 22, .load 31 (.tmp 1), ty0, po0, af0, none⟩, ⟨some 23, .load 31 (.tmp 2), ty1, po1, af1, none⟩, ⟨some 24, .call { callee := .value (.func 8), args := #[], argTypes := #[] }, ty2, po2, af2, none⟩, ⟨some 25, .call { callee := .value (.func 13), args := #[.tmp 22, .tmp 23, .tmp 24], argTypes := #[31, 31, 22] }, ty3, po3, af3, none⟩, ⟨some 21, .move (.tmp 25), ty4, po4, af4, none⟩, ⟨some 26, .extract (.tmp 21) 0, ty5, po5, af5, none⟩, ⟨some 27, .extract (.tmp 21) 1, ty6, po6, af6, none⟩, ⟨some 28, .extract (.tmp 21) 2, ty7, po7, af7, none⟩, ⟨some 3, .alloc 31, ty8, po8, af8, none⟩, ⟨some 4, .alloc 36, ty9, po9, af9, none⟩, ⟨none, .store 31 (.tmp 3) (.tmp 26), ty10, po10, af10, none⟩, ⟨none, .store 36 (.tmp 4) (.tmp 27), ty11, po11, af11, none⟩, ⟨some 5, .assign (.tmp 28), ty12, po12, af12, none⟩] 3 2 = true)
    (hw4_3 : waits .any #[⟨some 22, .load 31 (.tmp 1), ty0, po0, af0, none⟩, ⟨some 23, .load 31 (.tmp 2), ty1, po1, af1, none⟩, ⟨some 24, .call { callee := .value (.func 8), args := #[], argTypes := #[] }, ty2, po2, af2, none⟩, ⟨some 25, .call { callee := .value (.func 13), args := #[.tmp 22, .tmp 23, .tmp 24], argTypes := #[31, 31, 22] }, ty3, po3, af3, none⟩, ⟨some 21, .move (.tmp 25), ty4, po4, af4, none⟩, ⟨some 26, .extract (.tmp 21) 0, ty5, po5, af5, none⟩, ⟨some 27, .extract (.tmp 21) 1, ty6, po6, af6, none⟩, ⟨some 28, .extract (.tmp 21) 2, ty7, po7, af7, none⟩, ⟨some 3, .alloc 31, ty8, po8, af8, none⟩, ⟨some 4, .alloc 36, ty9, po9, af9, none⟩, ⟨none, .store 31 (.tmp 3) (.tmp 26), ty10, po10, af10, none⟩, ⟨none, .store 36 (.tmp 4) (.tmp 27), ty11, po11, af11, none⟩, ⟨some 5, .assign (.tmp 28), ty12, po12, af12, none⟩] 4 3 = true)
    (hw5_4 : waits .any #[⟨some 22, .load 31 (.tmp 1), ty0, po0, af0, none⟩, ⟨some 23, .load 31 (.tmp 2), ty1, po1, af1, none⟩, ⟨some 24, .call { callee := .value (.func 8), args := #[], argTypes := #[] }, ty2, po2, af2, none⟩, ⟨some 25, .call { callee := .value (.func 13), args := #[.tmp 22, .tmp 23, .tmp 24], argTypes := #[31, 31, 22] }, ty3, po3, af3, none⟩, ⟨some 21, .move (.tmp 25), ty4, po4, af4, none⟩, ⟨some 26, .extract (.tmp 21) 0, ty5, po5, af5, none⟩, ⟨some 27, .extract (.tmp 21) 1, ty6, po6, af6, none⟩, ⟨some 28, .extract (.tmp 21) 2, ty7, po7, af7, none⟩, ⟨some 3, .alloc 31, ty8, po8, af8, none⟩, ⟨some 4, .alloc 36, ty9, po9, af9, none⟩, ⟨none, .store 31 (.tmp 3) (.tmp 26), ty10, po10, af10, none⟩, ⟨none, .store 36 (.tmp 4) (.tmp 27), ty11, po11, af11, none⟩, ⟨some 5, .assign (.tmp 28), ty12, po12, af12, none⟩] 5 4 = true)
    (hw6_4 : waits .any #[⟨some 22, .load 31 (.tmp 1), ty0, po0, af0, none⟩, ⟨some 23, .load 31 (.tmp 2), ty1, po1, af1, none⟩, ⟨some 24, .call { callee := .value (.func 8), args := #[], argTypes := #[] }, ty2, po2, af2, none⟩, ⟨some 25, .call { callee := .value (.func 13), args := #[.tmp 22, .tmp 23, .tmp 24], argTypes := #[31, 31, 22] }, ty3, po3, af3, none⟩, ⟨some 21, .move (.tmp 25), ty4, po4, af4, none⟩, ⟨some 26, .extract (.tmp 21) 0, ty5, po5, af5, none⟩, ⟨some 27, .extract (.tmp 21) 1, ty6, po6, af6, none⟩, ⟨some 28, .extract (.tmp 21) 2, ty7, po7, af7, none⟩, ⟨some 3, .alloc 31, ty8, po8, af8, none⟩, ⟨some 4, .alloc 36, ty9, po9, af9, none⟩, ⟨none, .store 31 (.tmp 3) (.tmp 26), ty10, po10, af10, none⟩, ⟨none, .store 36 (.tmp 4) (.tmp 27), ty11, po11, af11, none⟩, ⟨some 5, .assign (.tmp 28), ty12, po12, af12, none⟩] 6 4 = true)
    (hw7_4 : waits .any #[⟨some 22, .load 31 (.tmp 1), ty0, po0, af0, none⟩, ⟨some 23, .load 31 (.tmp 2), ty1, po1, af1, none⟩, ⟨some 24, .call { callee := .value (.func 8), args := #[], argTypes := #[] }, ty2, po2, af2, none⟩, ⟨some 25, .call { callee := .value (.func 13), args := #[.tmp 22, .tmp 23, .tmp 24], argTypes := #[31, 31, 22] }, ty3, po3, af3, none⟩, ⟨some 21, .move (.tmp 25), ty4, po4, af4, none⟩, ⟨some 26, .extract (.tmp 21) 0, ty5, po5, af5, none⟩, ⟨some 27, .extract (.tmp 21) 1, ty6, po6, af6, none⟩, ⟨some 28, .extract (.tmp 21) 2, ty7, po7, af7, none⟩, ⟨some 3, .alloc 31, ty8, po8, af8, none⟩, ⟨some 4, .alloc 36, ty9, po9, af9, none⟩, ⟨none, .store 31 (.tmp 3) (.tmp 26), ty10, po10, af10, none⟩, ⟨none, .store 36 (.tmp 4) (.tmp 27), ty11, po11, af11, none⟩, ⟨some 5, .assign (.tmp 28), ty12, po12, af12, none⟩] 7 4 = true)
    (hw10_3 : waits .any #[⟨some 22, .load 31 (.tmp 1), ty0, po0, af0, none⟩, ⟨some 23, .load 31 (.tmp 2), ty1, po1, af1, none⟩, ⟨some 24, .call { callee := .value (.func 8), args := #[], argTypes := #[] }, ty2, po2, af2, none⟩, ⟨some 25, .call { callee := .value (.func 13), args := #[.tmp 22, .tmp 23, .tmp 24], argTypes := #[31, 31, 22] }, ty3, po3, af3, none⟩, ⟨some 21, .move (.tmp 25), ty4, po4, af4, none⟩, ⟨some 26, .extract (.tmp 21) 0, ty5, po5, af5, none⟩, ⟨some 27, .extract (.tmp 21) 1, ty6, po6, af6, none⟩, ⟨some 28, .extract (.tmp 21) 2, ty7, po7, af7, none⟩, ⟨some 3, .alloc 31, ty8, po8, af8, none⟩, ⟨some 4, .alloc 36, ty9, po9, af9, none⟩, ⟨none, .store 31 (.tmp 3) (.tmp 26), ty10, po10, af10, none⟩, ⟨none, .store 36 (.tmp 4) (.tmp 27), ty11, po11, af11, none⟩, ⟨some 5, .assign (.tmp 28), ty12, po12, af12, none⟩] 10 3 = true)
    (hw10_5 : waits .any #[⟨some 22, .load 31 (.tmp 1), ty0, po0, af0, none⟩, ⟨some 23, .load 31 (.tmp 2), ty1, po1, af1, none⟩, ⟨some 24, .call { callee := .value (.func 8), args := #[], argTypes := #[] }, ty2, po2, af2, none⟩, ⟨some 25, .call { callee := .value (.func 13), args := #[.tmp 22, .tmp 23, .tmp 24], argTypes := #[31, 31, 22] }, ty3, po3, af3, none⟩, ⟨some 21, .move (.tmp 25), ty4, po4, af4, none⟩, ⟨some 26, .extract (.tmp 21) 0, ty5, po5, af5, none⟩, ⟨some 27, .extract (.tmp 21) 1, ty6, po6, af6, none⟩, ⟨some 28, .extract (.tmp 21) 2, ty7, po7, af7, none⟩, ⟨some 3, .alloc 31, ty8, po8, af8, none⟩, ⟨some 4, .alloc 36, ty9, po9, af9, none⟩, ⟨none, .store 31 (.tmp 3) (.tmp 26), ty10, po10, af10, none⟩, ⟨none, .store 36 (.tmp 4) (.tmp 27), ty11, po11, af11, none⟩, ⟨some 5, .assign (.tmp 28), ty12, po12, af12, none⟩] 10 5 = true)
    (hw10_8 : waits .any #[⟨some 22, .load 31 (.tmp 1), ty0, po0, af0, none⟩, ⟨some 23, .load 31 (.tmp 2), ty1, po1, af1, none⟩, ⟨some 24, .call { callee := .value (.func 8), args := #[], argTypes := #[] }, ty2, po2, af2, none⟩, ⟨some 25, .call { callee := .value (.func 13), args := #[.tmp 22, .tmp 23, .tmp 24], argTypes := #[31, 31, 22] }, ty3, po3, af3, none⟩, ⟨some 21, .move (.tmp 25), ty4, po4, af4, none⟩, ⟨some 26, .extract (.tmp 21) 0, ty5, po5, af5, none⟩, ⟨some 27, .extract (.tmp 21) 1, ty6, po6, af6, none⟩, ⟨some 28, .extract (.tmp 21) 2, ty7, po7, af7, none⟩, ⟨some 3, .alloc 31, ty8, po8, af8, none⟩, ⟨some 4, .alloc 36, ty9, po9, af9, none⟩, ⟨none, .store 31 (.tmp 3) (.tmp 26), ty10, po10, af10, none⟩, ⟨none, .store 36 (.tmp 4) (.tmp 27), ty11, po11, af11, none⟩, ⟨some 5, .assign (.tmp 28), ty12, po12, af12, none⟩] 10 8 = true)
    (hw11_3 : waits .any #[⟨some 22, .load 31 (.tmp 1), ty0, po0, af0, none⟩, ⟨some 23, .load 31 (.tmp 2), ty1, po1, af1, none⟩, ⟨some 24, .call { callee := .value (.func 8), args := #[], argTypes := #[] }, ty2, po2, af2, none⟩, ⟨some 25, .call { callee := .value (.func 13), args := #[.tmp 22, .tmp 23, .tmp 24], argTypes := #[31, 31, 22] }, ty3, po3, af3, none⟩, ⟨some 21, .move (.tmp 25), ty4, po4, af4, none⟩, ⟨some 26, .extract (.tmp 21) 0, ty5, po5, af5, none⟩, ⟨some 27, .extract (.tmp 21) 1, ty6, po6, af6, none⟩, ⟨some 28, .extract (.tmp 21) 2, ty7, po7, af7, none⟩, ⟨some 3, .alloc 31, ty8, po8, af8, none⟩, ⟨some 4, .alloc 36, ty9, po9, af9, none⟩, ⟨none, .store 31 (.tmp 3) (.tmp 26), ty10, po10, af10, none⟩, ⟨none, .store 36 (.tmp 4) (.tmp 27), ty11, po11, af11, none⟩, ⟨some 5, .assign (.tmp 28), ty12, po12, af12, none⟩] 11 3 = true)
    (hw11_6 : waits .any #[⟨some 22, .load 31 (.tmp 1), ty0, po0, af0, none⟩, ⟨some 23, .load 31 (.tmp 2), ty1, po1, af1, none⟩, ⟨some 24, .call { callee := .value (.func 8), args := #[], argTypes := #[] }, ty2, po2, af2, none⟩, ⟨some 25, .call { callee := .value (.func 13), args := #[.tmp 22, .tmp 23, .tmp 24], argTypes := #[31, 31, 22] }, ty3, po3, af3, none⟩, ⟨some 21, .move (.tmp 25), ty4, po4, af4, none⟩, ⟨some 26, .extract (.tmp 21) 0, ty5, po5, af5, none⟩, ⟨some 27, .extract (.tmp 21) 1, ty6, po6, af6, none⟩, ⟨some 28, .extract (.tmp 21) 2, ty7, po7, af7, none⟩, ⟨some 3, .alloc 31, ty8, po8, af8, none⟩, ⟨some 4, .alloc 36, ty9, po9, af9, none⟩, ⟨none, .store 31 (.tmp 3) (.tmp 26), ty10, po10, af10, none⟩, ⟨none, .store 36 (.tmp 4) (.tmp 27), ty11, po11, af11, none⟩, ⟨some 5, .assign (.tmp 28), ty12, po12, af12, none⟩] 11 6 = true)
    (hw11_9 : waits .any #[⟨some 22, .load 31 (.tmp 1), ty0, po0, af0, none⟩, ⟨some 23, .load 31 (.tmp 2), ty1, po1, af1, none⟩, ⟨some 24, .call { callee := .value (.func 8), args := #[], argTypes := #[] }, ty2, po2, af2, none⟩, ⟨some 25, .call { callee := .value (.func 13), args := #[.tmp 22, .tmp 23, .tmp 24], argTypes := #[31, 31, 22] }, ty3, po3, af3, none⟩, ⟨some 21, .move (.tmp 25), ty4, po4, af4, none⟩, ⟨some 26, .extract (.tmp 21) 0, ty5, po5, af5, none⟩, ⟨some 27, .extract (.tmp 21) 1, ty6, po6, af6, none⟩, ⟨some 28, .extract (.tmp 21) 2, ty7, po7, af7, none⟩, ⟨some 3, .alloc 31, ty8, po8, af8, none⟩, ⟨some 4, .alloc 36, ty9, po9, af9, none⟩, ⟨none, .store 31 (.tmp 3) (.tmp 26), ty10, po10, af10, none⟩, ⟨none, .store 36 (.tmp 4) (.tmp 27), ty11, po11, af11, none⟩, ⟨some 5, .assign (.tmp 28), ty12, po12, af12, none⟩] 11 9 = true)
    (hw11_10 : waits .any #[⟨some 22, .load 31 (.tmp 1), ty0, po0, af0, none⟩, ⟨some 23, .load 31 (.tmp 2), ty1, po1, af1, none⟩, ⟨some 24, .call { callee := .value (.func 8), args := #[], argTypes := #[] }, ty2, po2, af2, none⟩, ⟨some 25, .call { callee := .value (.func 13), args := #[.tmp 22, .tmp 23, .tmp 24], argTypes := #[31, 31, 22] }, ty3, po3, af3, none⟩, ⟨some 21, .move (.tmp 25), ty4, po4, af4, none⟩, ⟨some 26, .extract (.tmp 21) 0, ty5, po5, af5, none⟩, ⟨some 27, .extract (.tmp 21) 1, ty6, po6, af6, none⟩, ⟨some 28, .extract (.tmp 21) 2, ty7, po7, af7, none⟩, ⟨some 3, .alloc 31, ty8, po8, af8, none⟩, ⟨some 4, .alloc 36, ty9, po9, af9, none⟩, ⟨none, .store 31 (.tmp 3) (.tmp 26), ty10, po10, af10, none⟩, ⟨none, .store 36 (.tmp 4) (.tmp 27), ty11, po11, af11, none⟩, ⟨some 5, .assign (.tmp 28), ty12, po12, af12, none⟩] 11 10 = true)
    (hw12_3 : waits .any #[⟨some 22, .load 31 (.tmp 1), ty0, po0, af0, none⟩, ⟨some 23, .load 31 (.tmp 2), ty1, po1, af1, none⟩, ⟨some 24, .call { callee := .value (.func 8), args := #[], argTypes := #[] }, ty2, po2, af2, none⟩, ⟨some 25, .call { callee := .value (.func 13), args := #[.tmp 22, .tmp 23, .tmp 24], argTypes := #[31, 31, 22] }, ty3, po3, af3, none⟩, ⟨some 21, .move (.tmp 25), ty4, po4, af4, none⟩, ⟨some 26, .extract (.tmp 21) 0, ty5, po5, af5, none⟩, ⟨some 27, .extract (.tmp 21) 1, ty6, po6, af6, none⟩, ⟨some 28, .extract (.tmp 21) 2, ty7, po7, af7, none⟩, ⟨some 3, .alloc 31, ty8, po8, af8, none⟩, ⟨some 4, .alloc 36, ty9, po9, af9, none⟩, ⟨none, .store 31 (.tmp 3) (.tmp 26), ty10, po10, af10, none⟩, ⟨none, .store 36 (.tmp 4) (.tmp 27), ty11, po11, af11, none⟩, ⟨some 5, .assign (.tmp 28), ty12, po12, af12, none⟩] 12 3 = true)
    (hw12_7 : waits .any #[⟨some 22, .load 31 (.tmp 1), ty0, po0, af0, none⟩, ⟨some 23, .load 31 (.tmp 2), ty1, po1, af1, none⟩, ⟨some 24, .call { callee := .value (.func 8), args := #[], argTypes := #[] }, ty2, po2, af2, none⟩, ⟨some 25, .call { callee := .value (.func 13), args := #[.tmp 22, .tmp 23, .tmp 24], argTypes := #[31, 31, 22] }, ty3, po3, af3, none⟩, ⟨some 21, .move (.tmp 25), ty4, po4, af4, none⟩, ⟨some 26, .extract (.tmp 21) 0, ty5, po5, af5, none⟩, ⟨some 27, .extract (.tmp 21) 1, ty6, po6, af6, none⟩, ⟨some 28, .extract (.tmp 21) 2, ty7, po7, af7, none⟩, ⟨some 3, .alloc 31, ty8, po8, af8, none⟩, ⟨some 4, .alloc 36, ty9, po9, af9, none⟩, ⟨none, .store 31 (.tmp 3) (.tmp 26), ty10, po10, af10, none⟩, ⟨none, .store 36 (.tmp 4) (.tmp 27), ty11, po11, af11, none⟩, ⟨some 5, .assign (.tmp 28), ty12, po12, af12, none⟩] 12 7 = true)
    (hfw : forwardB .any #[⟨some 22, .load 31 (.tmp 1), ty0, po0, af0, none⟩, ⟨some 23, .load 31 (.tmp 2), ty1, po1, af1, none⟩, ⟨some 24, .call { callee := .value (.func 8), args := #[], argTypes := #[] }, ty2, po2, af2, none⟩, ⟨some 25, .call { callee := .value (.func 13), args := #[.tmp 22, .tmp 23, .tmp 24], argTypes := #[31, 31, 22] }, ty3, po3, af3, none⟩, ⟨some 21, .move (.tmp 25), ty4, po4, af4, none⟩, ⟨some 26, .extract (.tmp 21) 0, ty5, po5, af5, none⟩, ⟨some 27, .extract (.tmp 21) 1, ty6, po6, af6, none⟩, ⟨some 28, .extract (.tmp 21) 2, ty7, po7, af7, none⟩, ⟨some 3, .alloc 31, ty8, po8, af8, none⟩, ⟨some 4, .alloc 36, ty9, po9, af9, none⟩, ⟨none, .store 31 (.tmp 3) (.tmp 26), ty10, po10, af10, none⟩, ⟨none, .store 36 (.tmp 4) (.tmp 27), ty11, po11, af11, none⟩, ⟨some 5, .assign (.tmp 28), ty12, po12, af12, none⟩] = true)
    (hQ : ∀ (xs : Nat → Value) W m3 m4 a2 a3 c2 c3, xs 3 = .pointer (some ⟨m3, 0, none⟩) → xs 4 = .pointer (some ⟨m4, 0, none⟩) → xs 5 = .int .i64 0 → RB W m3 ⟨mergedR s1 s2 s5, a2, c2⟩ → PB W m4 ⟨1, fromX s3 s4 s5 a' c', [2]⟩ a3 1 c3 → Below A.heap.size A W → A.heap.size ≤ m3 → A.heap.size ≤ m4 → Q .normal ⟨#[v0, .pointer (some ⟨n1, 0, none⟩), .pointer (some ⟨n2, 0, none⟩), xs 3, xs 4, xs 5, v6, v7, v8, v9, v10, v11, v12, v13, v14, v15, v16, v17, v18, v19, v20, xs 21, xs 22, xs 23, xs 24, xs 25, xs 26, xs 27, xs 28, v29, v30, v31, v32, v33, v34, v35, v36, v37, v38, v39, v40, v41, v42, v43, v44, v45, v46, v47, v48, v49, v50, v51, v52, v53, v54, v55, v56, v57, v58, v59, v60, v61, v62, v63, v64, v65, v66, v67, v68, v69, v70, v71, v72, v73, v74, v75, v76, v77, v78, v79, v80, v81, v82, v83, v84, v85, v86, v87, v88, v89, v90, v91, v92, v93, v94, v95, v96, v97, v98, v99, v100, v101, v102, v103, v104, v105, v106, v107, v108, v109, v110, v111, v112, v113, v114, v115, v116, v117, v118, v119, v120, v121, v122, v123, v124, v125, v126, v127], []⟩ W)
    : Code.wp Tryd.prog (.region id #[⟨some 22, .load 31 (.tmp 1), ty0, po0, af0, none⟩, ⟨some 23, .load 31 (.tmp 2), ty1, po1, af1, none⟩, ⟨some 24, .call { callee := .value (.func 8), args := #[], argTypes := #[] }, ty2, po2, af2, none⟩, ⟨some 25, .call { callee := .value (.func 13), args := #[.tmp 22, .tmp 23, .tmp 24], argTypes := #[31, 31, 22] }, ty3, po3, af3, none⟩, ⟨some 21, .move (.tmp 25), ty4, po4, af4, none⟩, ⟨some 26, .extract (.tmp 21) 0, ty5, po5, af5, none⟩, ⟨some 27, .extract (.tmp 21) 1, ty6, po6, af6, none⟩, ⟨some 28, .extract (.tmp 21) 2, ty7, po7, af7, none⟩, ⟨some 3, .alloc 31, ty8, po8, af8, none⟩, ⟨some 4, .alloc 36, ty9, po9, af9, none⟩, ⟨none, .store 31 (.tmp 3) (.tmp 26), ty10, po10, af10, none⟩, ⟨none, .store 36 (.tmp 4) (.tmp 27), ty11, po11, af11, none⟩, ⟨some 5, .assign (.tmp 28), ty12, po12, af12, none⟩] true) Q ⟨#[v0, .pointer (some ⟨n1, 0, none⟩), .pointer (some ⟨n2, 0, none⟩), u3, u4, u5, v6, v7, v8, v9, v10, v11, v12, v13, v14, v15, v16, v17, v18, v19, v20, u21, u22, u23, u24, u25, u26, u27, u28, v29, v30, v31, v32, v33, v34, v35, v36, v37, v38, v39, v40, v41, v42, v43, v44, v45, v46, v47, v48, v49, v50, v51, v52, v53, v54, v55, v56, v57, v58, v59, v60, v61, v62, v63, v64, v65, v66, v67, v68, v69, v70, v71, v72, v73, v74, v75, v76, v77, v78, v79, v80, v81, v82, v83, v84, v85, v86, v87, v88, v89, v90, v91, v92, v93, v94, v95, v96, v97, v98, v99, v100, v101, v102, v103, v104, v105, v106, v107, v108, v109, v110, v111, v112, v113, v114, v115, v116, v117, v118, v119, v120, v121, v122, v123, v124, v125, v126, v127], []⟩ A := by
  refine wp_region_inv (by kernel_rfl) (fun listed x W => ∃ xs : Nat → Value, x = ⟨#[v0, .pointer (some ⟨n1, 0, none⟩), .pointer (some ⟨n2, 0, none⟩), xs 3, xs 4, xs 5, v6, v7, v8, v9, v10, v11, v12, v13, v14, v15, v16, v17, v18, v19, v20, xs 21, xs 22, xs 23, xs 24, xs 25, xs 26, xs 27, xs 28, v29, v30, v31, v32, v33, v34, v35, v36, v37, v38, v39, v40, v41, v42, v43, v44, v45, v46, v47, v48, v49, v50, v51, v52, v53, v54, v55, v56, v57, v58, v59, v60, v61, v62, v63, v64, v65, v66, v67, v68, v69, v70, v71, v72, v73, v74, v75, v76, v77, v78, v79, v80, v81, v82, v83, v84, v85, v86, v87, v88, v89, v90, v91, v92, v93, v94, v95, v96, v97, v98, v99, v100, v101, v102, v103, v104, v105, v106, v107, v108, v109, v110, v111, v112, v113, v114, v115, v116, v117, v118, v119, v120, v121, v122, v123, v124, v125, v126, v127], []⟩ ∧ A3I A W listed xs s1 s2 s3 s4 s5 a a' c c') ?start ?step ?done
  case start =>
    have no : ∀ m, m < 13 → (Array.replicate 13 false).getD m true = false := fun m hm => by simp [Array.getD, hm]
    exact ⟨fun k => if k = 3 then u3 else if k = 4 then u4 else if k = 5 then u5 else if k = 21 then u21 else if k = 22 then u22 else if k = 23 then u23 else if k = 24 then u24 else if k = 25 then u25 else if k = 26 then u26 else if k = 27 then u27 else if k = 28 then u28 else undef, rfl, (Below.refl _ _).drew, fun h => on_off h (no 0 (by decide)), fun h => on_off h (no 1 (by decide)), fun h => on_off h (no 2 (by decide)), fun h => on_off h (no 3 (by decide)), fun m hm h => on_off h (no m (by omega)), fun h => on_off h (no 10 (by decide)), fun h => on_off h (no 11 (by decide)), fun h => on_off h (no 8 (by decide)), fun h => on_off h (no 9 (by decide)), fun h => on_off h (no 12 (by decide))⟩
  case done =>
    rintro listed x W hs ⟨xs, rfl, R1⟩ h0
    have hall := all_listedB hfw hs h0
    obtain ⟨a2, a3, c2, c3, r⟩ := R1.x25 (hall 3)
    obtain ⟨m3, cs3, e3, l3, -, -⟩ := R1.x3 (hall 8)
    obtain ⟨m4, cs4, e4, l4, -, -⟩ := R1.x4 (hall 9)
    exact hQ xs W m3 m4 a2 a3 c2 c3 e3 e4 (R1.x5 (hall 12)) ⟨r.s10 (hall 10) m3 e3, r.res.r⟩ ⟨r.s11 (hall 11) m4 e4, r.res.f, r.res.t⟩ R1.bel l3 l4
  case step =>
    rintro listed x W i hs ⟨xs, rfl, R1⟩ hi
    have hin : i < 13 := by
      obtain ⟨-, o, ho, -⟩ := mem_ready.1 hi
      exact (Array.getElem?_eq_some_iff.1 ho).1
    have hno := (mem_ready.1 hi).1
    have RR := Lib.hid R1
    have HH1 := Lib.hid (h1.below R1.bel)
    have HH2 := Lib.hid (h2.below R1.bel)
    have HEN := Lib.hid (hE.below R1.bel)
    have q10 : W.cell? ⟨n1, 0, none⟩ = some (.int .i64 1) := Lib.cell_of_heap HH1.out.1 0
    have q11 : W.cell? ⟨n1, 1, none⟩ = some (.int .i64 3) := Lib.cell_of_heap HH1.out.1 1
    have q12 : W.cell? ⟨n1, 2, none⟩ = some (.int .i64 1) := Lib.cell_of_heap HH1.out.1 2
    have q13 : W.cell? ⟨n1, 3, none⟩ = some (.string ⟨#[101, 110, 103]⟩) := Lib.cell_of_heap HH1.out.1 3
    have q14 : W.cell? ⟨n1, 4, none⟩ = some (.slice a 2 c) := Lib.cell_of_heap HH1.out.1 4
    have q20 : W.cell? ⟨n2, 0, none⟩ = some (.int .i64 2) := Lib.cell_of_heap HH2.out.1 0
    have q21 : W.cell? ⟨n2, 1, none⟩ = some (.int .i64 3) := Lib.cell_of_heap HH2.out.1 1
    have q22 : W.cell? ⟨n2, 2, none⟩ = some (.int .i64 1) := Lib.cell_of_heap HH2.out.1 2
    have q23 : W.cell? ⟨n2, 3, none⟩ = some (.string ⟨#[101, 110, 103]⟩) := Lib.cell_of_heap HH2.out.1 3
    have q24 : W.cell? ⟨n2, 4, none⟩ = some (.slice a' 3 c') := Lib.cell_of_heap HH2.out.1 4
    clear R1 h1 h2 hQ hfw hE
    have hcases : i = 0 ∨ i = 1 ∨ i = 2 ∨ i = 3 ∨ i = 4 ∨ i = 5 ∨ i = 6 ∨ i = 7 ∨ i = 8 ∨ i = 9 ∨ i = 10 ∨ i = 11 ∨ i = 12 := by omega
    rcases hcases with rfl | rfl | rfl | rfl | rfl | rfl | rfl | rfl | rfl | rfl | rfl | rfl | rfl
    · clear hi hw3_0 hw3_1 hw3_2 hw4_3 hw5_4 hw6_4 hw7_4 hw10_3 hw10_5 hw10_8 hw11_3 hw11_6 hw11_9 hw11_10 hw12_3 hw12_7
      refine wpOp_step rfl (fun K hK => ?_)
      go_simp
      exact hK _ _ ⟨fun k => if k = 22 then .agg #[.int .i64 1, .int .i64 3, .int .i64 1, .string ⟨#[101, 110, 103]⟩, .slice a 2 c] else xs k, by simp, RR.out.s0⟩
    · clear hi hw3_0 hw3_1 hw3_2 hw4_3 hw5_4 hw6_4 hw7_4 hw10_3 hw10_5 hw10_8 hw11_3 hw11_6 hw11_9 hw11_10 hw12_3 hw12_7
      refine wpOp_step rfl (fun K hK => ?_)
      go_simp
      exact hK _ _ ⟨fun k => if k = 23 then .agg #[.int .i64 2, .int .i64 3, .int .i64 1, .string ⟨#[101, 110, 103]⟩, .slice a' 3 c'] else xs k, by simp, RR.out.s1⟩
    · clear hi hw3_0 hw3_1 hw3_2 hw4_3 hw5_4 hw6_4 hw7_4 hw10_3 hw10_5 hw10_8 hw11_3 hw11_6 hw11_9 hw11_10 hw12_3 hw12_7
      refine wpOp_step rfl (fun K hK => ?_)
      go_simp
      refine (pStandard W).mono ?_
      rintro e w'' ⟨v, rfl, hk, bb⟩
      exact hK _ _ ⟨fun k => if k = 24 then v else xs k, by simp, (RR.out.world bb).s2 hk⟩
    · have l0 := waited hi hw3_0
      have l1 := waited hi hw3_1
      have l2 := waited hi hw3_2
      have f22 := RR.out.x22 l0
      have f23 := RR.out.x23 l1
      have HK := Lib.hid (RR.out.x24 l2 hno)
      clear hi hw3_0 hw3_1 hw3_2 hw4_3 hw5_4 hw6_4 hw7_4 hw10_3 hw10_5 hw10_8 hw11_3 hw11_6 hw11_9 hw11_10 hw12_3 hw12_7
      refine wpOp_step rfl (fun K hK => ?_)
      simp only [f22, f23]
      go_simp
      refine (callMerge HEN.out HH1.out.2 HH2.out.2 HK.out).mono ?_
      rintro e w'' ⟨a2, c2, a3, c3, rfl, hr, bb⟩
      exact hK _ _ ⟨fun k => if k = 25 then .tuple #[.agg #[.int .i64 1, .int .i64 3, .int .i64 1, .string ⟨#[101, 110, 103]⟩, .slice a2 3 c2], .agg #[.int .i64 1, .int .i64 2, .int .i64 3, .int .i64 1, .string ⟨#[101, 110, 103]⟩, .slice a' 3 c', .slice a3 1 c3], .int .i64 0] else xs k, by simp [f22, f23], (RR.out.world bb).s3 hno ⟨hr.out.1, hr.out.2.1, hr.out.2.2⟩⟩
    · have l3 := waited hi hw4_3
      obtain ⟨a2, a3, c2, c3, r⟩ := RR.out.x25 l3
      have f25 := r.x25
      have HV : Hid (A3R W listed xs s1 s2 s3 s4 s5 a' a2 a3 c' c2 c3) := Lib.hid r
      clear r
      clear hi hw3_0 hw3_1 hw3_2 hw4_3 hw5_4 hw6_4 hw7_4 hw10_3 hw10_5 hw10_8 hw11_3 hw11_6 hw11_9 hw11_10 hw12_3 hw12_7
      refine wpOp_step rfl (fun K hK => ?_)
      simp only [f25]
      go_simp
      refine hK _ _ ⟨fun k => if k = 21 then .tuple #[.agg #[.int .i64 1, .int .i64 3, .int .i64 1, .string ⟨#[101, 110, 103]⟩, .slice a2 3 c2], .agg #[.int .i64 1, .int .i64 2, .int .i64 3, .int .i64 1, .string ⟨#[101, 110, 103]⟩, .slice a' 3 c', .slice a3 1 c3], .int .i64 0] else xs k, by simp [f25], RR.out.s4 l3 (fun b2 b3 d2 d3 r' => ?_)⟩
      have e := r'.x25.symm.trans HV.out.x25
      cases e
      rfl
    · have l4 := waited hi hw5_4
      have l3 := RR.out.o 4 (by simp) l4
      obtain ⟨a2, a3, c2, c3, r⟩ := RR.out.x25 l3
      have f21 := r.x21 l4
      have HV : Hid (A3R W listed xs s1 s2 s3 s4 s5 a' a2 a3 c' c2 c3) := Lib.hid r
      clear r
      clear hi hw3_0 hw3_1 hw3_2 hw4_3 hw5_4 hw6_4 hw7_4 hw10_3 hw10_5 hw10_8 hw11_3 hw11_6 hw11_9 hw11_10 hw12_3 hw12_7
      refine wpOp_step rfl (fun K hK => ?_)
      simp only [f21]
      go_simp
      refine hK _ _ ⟨fun k => if k = 26 then .agg #[.int .i64 1, .int .i64 3, .int .i64 1, .string ⟨#[101, 110, 103]⟩, .slice a2 3 c2] else xs k, by simp [f21], RR.out.s5 l3 (fun b2 b3 d2 d3 r' => ?_)⟩
      have e := r'.x25.symm.trans HV.out.x25
      cases e
      rfl
    · have l4 := waited hi hw6_4
      have l3 := RR.out.o 4 (by simp) l4
      obtain ⟨a2, a3, c2, c3, r⟩ := RR.out.x25 l3
      have f21 := r.x21 l4
      have HV : Hid (A3R W listed xs s1 s2 s3 s4 s5 a' a2 a3 c' c2 c3) := Lib.hid r
      clear r
      clear hi hw3_0 hw3_1 hw3_2 hw4_3 hw5_4 hw6_4 hw7_4 hw10_3 hw10_5 hw10_8 hw11_3 hw11_6 hw11_9 hw11_10 hw12_3 hw12_7
      refine wpOp_step rfl (fun K hK => ?_)
      simp only [f21]
      go_simp
      refine hK _ _ ⟨fun k => if k = 27 then .agg #[.int .i64 1, .int .i64 2, .int .i64 3, .int .i64 1, .string ⟨#[101, 110, 103]⟩, .slice a' 3 c', .slice a3 1 c3] else xs k, by simp [f21], RR.out.s6 l3 (fun b2 b3 d2 d3 r' => ?_)⟩
      have e := r'.x25.symm.trans HV.out.x25
      cases e
      rfl
    · have l4 := waited hi hw7_4
      have l3 := RR.out.o 4 (by simp) l4
      obtain ⟨a2, a3, c2, c3, r⟩ := RR.out.x25 l3
      have f21 := r.x21 l4
      have HV : Hid (A3R W listed xs s1 s2 s3 s4 s5 a' a2 a3 c' c2 c3) := Lib.hid r
      clear r
      clear hi hw3_0 hw3_1 hw3_2 hw4_3 hw5_4 hw6_4 hw7_4 hw10_3 hw10_5 hw10_8 hw11_3 hw11_6 hw11_9 hw11_10 hw12_3 hw12_7
      refine wpOp_step rfl (fun K hK => ?_)
      simp only [f21]
      go_simp
      refine hK _ _ ⟨fun k => if k = 28 then .int .i64 0 else xs k, by simp [f21], RR.out.s7 l3 (fun b2 b3 d2 d3 r' => ?_)⟩
      have e := r'.x25.symm.trans HV.out.x25
      cases e
      rfl
    · clear hi hw3_0 hw3_1 hw3_2 hw4_3 hw5_4 hw6_4 hw7_4 hw10_3 hw10_5 hw10_8 hw11_3 hw11_6 hw11_9 hw11_10 hw12_3 hw12_7
      refine wpOp_step rfl (fun K hK => ?_)
      go_simp
      exact hK _ _ ⟨fun k => if k = 3 then .pointer (some ⟨W.heap.size, 0, none⟩) else xs k, by simp, (RR.out.world ((Below.refl _ _).alloc (Nat.le_refl _) _)).s8 hno RR.out.bel.size (alloc_at rfl)⟩
    · clear hi hw3_0 hw3_1 hw3_2 hw4_3 hw5_4 hw6_4 hw7_4 hw10_3 hw10_5 hw10_8 hw11_3 hw11_6 hw11_9 hw11_10 hw12_3 hw12_7
      refine wpOp_step rfl (fun K hK => ?_)
      go_simp
      exact hK _ _ ⟨fun k => if k = 4 then .pointer (some ⟨W.heap.size, 0, none⟩) else xs k, by simp, (RR.out.world ((Below.refl _ _).alloc (Nat.le_refl _) _)).s9 hno RR.out.bel.size (alloc_at rfl)⟩
    · have l3 := waited hi hw10_3
      have l5 := waited hi hw10_5
      have l8 := waited hi hw10_8
      obtain ⟨a2, a3, c2, c3, r⟩ := RR.out.x25 l3
      have f26 := r.x26 l5
      obtain ⟨m, cs, f3, hm, hg, hz⟩ := RR.out.x3 l8
      obtain rfl := hz hno
      have t0 := Lib.cell_of_heap hg 0
      have g0 := Lib.frozen_of_heap hg 0
      have t1 := Lib.cell_of_heap hg 1
      have g1 := Lib.frozen_of_heap hg 1
      have t2 := Lib.cell_of_heap hg 2
      have g2 := Lib.frozen_of_heap hg 2
      have t3 := Lib.cell_of_heap hg 3
      have g3 := Lib.frozen_of_heap hg 3
      have t4 := Lib.cell_of_heap hg 4
      have g4 := Lib.frozen_of_heap hg 4
      have HG := Lib.hid hg
      have HV : Hid (A3R W listed xs s1 s2 s3 s4 s5 a' a2 a3 c' c2 c3) := Lib.hid r
      clear r hg hz
      clear hi hw3_0 hw3_1 hw3_2 hw4_3 hw5_4 hw6_4 hw7_4 hw10_3 hw10_5 hw10_8 hw11_3 hw11_6 hw11_9 hw11_10 hw12_3 hw12_7
      refine wpOp_step rfl (fun K hK => ?_)
      simp only [f3, f26]
      go_simp
      exact hK _ _ ⟨xs, by simp [f3, f26], RR.out.s10 HV.out l3 f3 l8 hm HG.out⟩
    · have l3 := waited hi hw11_3
      have l6 := waited hi hw11_6
      have l9 := waited hi hw11_9
      have l10 := waited hi hw11_10
      obtain ⟨a2, a3, c2, c3, r⟩ := RR.out.x25 l3
      have f27 := r.x27 l6
      obtain ⟨m, cs, f3, hm, hg, hz⟩ := RR.out.x4 l9
      obtain rfl := hz hno
      have t0 := Lib.cell_of_heap hg 0
      have g0 := Lib.frozen_of_heap hg 0
      have t1 := Lib.cell_of_heap hg 1
      have g1 := Lib.frozen_of_heap hg 1
      have t2 := Lib.cell_of_heap hg 2
      have g2 := Lib.frozen_of_heap hg 2
      have t3 := Lib.cell_of_heap hg 3
      have g3 := Lib.frozen_of_heap hg 3
      have t4 := Lib.cell_of_heap hg 4
      have g4 := Lib.frozen_of_heap hg 4
      have t5 := Lib.cell_of_heap hg 5
      have g5 := Lib.frozen_of_heap hg 5
      have t6 := Lib.cell_of_heap hg 6
      have g6 := Lib.frozen_of_heap hg 6
      have HG := Lib.hid hg
      have HV : Hid (A3R W listed xs s1 s2 s3 s4 s5 a' a2 a3 c' c2 c3) := Lib.hid r
      clear r hg hz
      clear hi hw3_0 hw3_1 hw3_2 hw4_3 hw5_4 hw6_4 hw7_4 hw10_3 hw10_5 hw10_8 hw11_3 hw11_6 hw11_9 hw11_10 hw12_3 hw12_7
      refine wpOp_step rfl (fun K hK => ?_)
      simp only [f3, f27]
      go_simp
      exact hK _ _ ⟨xs, by simp [f3, f27], RR.out.s11 HV.out l3 f3 l9 hm HG.out⟩
    · have l3 := waited hi hw12_3
      have l7 := waited hi hw12_7
      obtain ⟨a2, a3, c2, c3, r⟩ := RR.out.x25 l3
      have f28 := r.x28 l7
      clear r
      clear hi hw3_0 hw3_1 hw3_2 hw4_3 hw5_4 hw6_4 hw7_4 hw10_3 hw10_5 hw10_8 hw11_3 hw11_6 hw11_9 hw11_10 hw12_3 hw12_7
      refine wpOp_step rfl (fun K hK => ?_)
      simp only [f28]
      go_simp
      exact hK _ _ ⟨fun k => if k = 5 then .int .i64 0 else xs k, by simp [f28], RR.out.s12 rfl⟩
end Go.Proofs.YtcdlgmncalmihaaDoor
