/- The reference's Up: what holds within the statement that makes two fields of one, whatever its order (layer 18). -/
import Derived.Test.YtimecccphbgdeaaDoorMrw
import Derived.Test.YtimecccphbgdeaaDoorRinv
namespace Go.Proofs.YtimecccphbgdeaaDoor
open Go Go.RowKit

theorem step_append_grow {ops : Array Oper} {o : Oper} {a : Act} {w : World} {K : Act → World → Prop} {Q : Exit → Act → World → Prop} {E : Prop}
    (hg : o.guard = none) (s x : Operand) (ho : o.op = Op.call { callee := Callee.builtin Builtin.append, args := #[s, x], argTypes := #[22, 22] })
    (B : Nat) (v : Value) (out : List Fld) (hs : a.eval s = v) (hown : OwnF w B v out)
    (ad : Addr) (m c : Nat) (news : List Fld) (hx : a.eval x = .slice (some ad) m c) (hm : m = news.length) (hnews : ∀ j u, (flatE fldE news)[j]? = some u → w.cell? (ad.add j) = some u)
    (hlen : out.length + m ≤ 1000000) (hB : B ≤ w.heap.size)
    (h : ∀ v' w', OwnF w' B v' (out ++ news) → Below B w w' → w.grownBy w' v.ownBlock → K (a.put o.dst v') w') :
    if Region.wanted o (yielded ops a.tmps) = true then Oper.wp Tryd.prog o a w K Q else E := by
  have hw : Region.wanted o (yielded ops a.tmps) = true := by simp [Region.wanted, hg]
  rw [if_pos hw]
  obtain ⟨i0, hi, hz0, hz1, hz2⟩ := info_parts infoFld
  refine wp_append_own w s x 22 ho B 41 i0 (.agg #[.string ⟨#[]⟩, .string ⟨#[]⟩, .slice none 0 0, .int .i64 0]) 4 64 Tryd.underlying22 hi hz0 hz1 hz2 rfl (by decide) v out.length (flatE fldE out) hs hown ad m c (flatE fldE news) hx (by rw [flatE_len fldE_len, hm]) hnews (flatE_one fldE_one news) (by unfold maxLen; omega) (by omega) hB ?_
  intro v' w' h1 h2 _
  refine h v' w' ?_ ((Below.refl B w).grown h2 hB (fun k hk => (World.ownsRow.lt hown k hk).1)) h2
  unfold OwnF
  rw [flatE_append, List.length_append, ← hm]
  exact h1
/-- The field's four cells. -/
structure FC (w : World) (g : Nat) (T I : ByteArray) (s : Value) (au : Int) : Prop where
  lt : g < w.heap.size
  c0 : w.cell? ⟨g, 0, none⟩ = some (.string T)
  c1 : w.cell? ⟨g, 1, none⟩ = some (.string I)
  c2 : w.cell? ⟨g, 2, none⟩ = some s
  c3 : w.cell? ⟨g, 3, none⟩ = some (.int .i64 au)
theorem FC.of_block {w w' : World} {g : Nat} {T I : ByteArray} {s : Value} {au : Int} (h : FC w g T I s au) (hb : w'.heap[g]? = w.heap[g]?) (hs : w.heap.size ≤ w'.heap.size) : FC w' g T I s au :=
  ⟨Nat.lt_of_lt_of_le h.lt hs, (World.cell?_of_block (w := w) (a := ⟨g, 0, none⟩) hb).trans h.c0, (World.cell?_of_block (w := w) (a := ⟨g, 1, none⟩) hb).trans h.c1, (World.cell?_of_block (w := w) (a := ⟨g, 2, none⟩) hb).trans h.c2, (World.cell?_of_block (w := w) (a := ⟨g, 3, none⟩) hb).trans h.c3⟩
theorem FC.below {w w' : World} {g : Nat} {T I : ByteArray} {s : Value} {au : Int} (h : FC w g T I s au) (hb : Below w.heap.size w w') : FC w' g T I s au := h.of_block (hb.block g h.lt) hb.size
/-- A slice whose cells are those of these fields. -/
def SlotCells (w : World) (v : Value) (l : List Fld) : Prop := ∃ b, v = .slice (some ⟨b, 0, none⟩) l.length l.length ∧ ∀ j u, (flatE fldE l)[j]? = some u → b < w.heap.size ∧ w.cell? ((⟨b, 0, none⟩ : Addr).add j) = some u
theorem SlotCells.below {w w' : World} {v : Value} {l : List Fld} (h : SlotCells w v l) (hb : Below w.heap.size w w') : SlotCells w' v l := by
  obtain ⟨b, hv, hc⟩ := h
  refine ⟨b, hv, fun j u hj => ⟨Nat.lt_of_lt_of_le (hc j u hj).1 hb.size, ?_⟩⟩
  rw [Addr.add_lit]
  have := (hc j u hj).2
  rw [Addr.add_lit] at this
  exact (hb.cell (p := ⟨b, 0 + j, none⟩) (hc j u hj).1).trans this
theorem lit_next {listed : Array Bool} {xs : Nat → Value} {i d m dm : Nat} {v u : Value} (h : listed.getD m true = true → xs dm = u) (hm : (m ≠ i ∧ dm ≠ d) ∨ (dm = d ∧ v = u)) : (listed.setIfInBounds i true).getD m true = true → (fun k => if k = d then v else xs k) dm = u := by
  intro hl
  rcases hm with ⟨h1, h2⟩ | ⟨h1, h2⟩
  · rcases set_listed hl with h3 | h3
    · exact absurd h3 h1
    · simp only [h2, if_false]; exact h h3
  · simp only [h1, if_true]; exact h2
/-- What holds, whatever operations of the statement have come up. -/
structure UpI (w1 : World) (u4 : Value) (out N : List Fld) (g : Nat) (T I A C : ByteArray) (s : Option Addr) (n c : Nat) (au : Int) (listed : Array Bool) (xs : Nat → Value) (w' : World) : Prop where
  bel : Below w1.heap.size w1 w'
  fc : FC w' g T I (.slice s n c) au
  l0 : listed.getD 0 true = true → xs 55 = u4
  l1 : listed.getD 1 true = true → xs 56 = .agg #[.string T, .string I, .slice s n c, .int .i64 au]
  l2 : listed.getD 2 true = true → xs 57 = .pointer (some ⟨g, 1, none⟩)
  l3 : listed.getD 3 true = true → xs 58 = .string I
  l4 : listed.getD 4 true = true → xs 59 = .string (I.extract 1 2)
  l5 : listed.getD 5 true = true → xs 60 = .string A
  l6 : listed.getD 6 true = true → xs 61 = .agg #[.string ⟨#[52, 57, 48]⟩, .string A, .slice s n c, .int .i64 0]
  l7 : listed.getD 7 true = true → xs 62 = .agg #[.string T, .string I, .slice s n c, .int .i64 au]
  l8 : listed.getD 8 true = true → xs 63 = .pointer (some ⟨g, 1, none⟩)
  l9 : listed.getD 9 true = true → xs 64 = .string I
  l10 : listed.getD 10 true = true → xs 65 = .string (I.extract 1 2)
  l11 : listed.getD 11 true = true → xs 66 = .string C
  l12 : listed.getD 12 true = true → xs 67 = .pointer (some ⟨g, 3, none⟩)
  l13 : listed.getD 13 true = true → xs 68 = .int .i64 au
  l14 : listed.getD 14 true = true → xs 69 = .agg #[.string ⟨#[56, 51, 48]⟩, .string C, .slice s n c, .int .i64 au]
  row : listed.getD 16 true = false → OwnF w' w1.heap.size u4 out
  bld : listed.getD 15 true = true → listed.getD 16 true = false → SlotCells w' (xs 70) N
  app : listed.getD 16 true = true → OwnF w' w1.heap.size (xs 71) (out ++ N)
  ord : listed.getD 17 true = true → listed.getD 16 true = true
  fin : listed.getD 17 true = true → xs 4 = xs 71
  old : listed.getD 17 true = false → xs 4 = u4
  zer : listed.getD 16 true = true → listed.getD 0 true = true
theorem listed_more {listed : Array Bool} {i m : Nat} (h : listed.getD m true = true) : (listed.setIfInBounds i true).getD m true = true := by
  by_cases e : i = m
  · subst e
    rcases Nat.lt_or_ge i listed.size with hs | hs
    · simp [Array.getD, hs]
    · simp [Array.getD, Nat.not_lt.2 hs]
  · rw [getD_set_ne true e]; exact h
theorem listed_keep {listed : Array Bool} {i m : Nat} (hm : m ≠ i) (h : (listed.setIfInBounds i true).getD m true = false) : listed.getD m true = false := by
  rwa [getD_set_ne true (Ne.symm hm)] at h
/-- An operation that leaves older memory as it is, and yields the value that is told of it. -/
theorem UpI.next {w1 : World} {u4 : Value} {out N : List Fld} {g : Nat} {T I A C : ByteArray} {s : Option Addr} {n c : Nat} {au : Int} {listed : Array Bool} {xs : Nat → Value} {w' w'' : World} (h : UpI w1 u4 out N g T I A C s n c au listed xs w')
    (i d : Nat) (v : Value) (hb : Below w'.heap.size w' w'') (hd4 : d ≠ 4) (hd71 : d ≠ 71) (hd70 : d ≠ 70) (hi15 : i ≠ 15) (hi16 : i ≠ 16) (hi17 : i ≠ 17)
    (f0 : (0 ≠ i ∧ 55 ≠ d) ∨ (55 = d ∧ v = u4))
    (f1 : (1 ≠ i ∧ 56 ≠ d) ∨ (56 = d ∧ v = .agg #[.string T, .string I, .slice s n c, .int .i64 au]))
    (f2 : (2 ≠ i ∧ 57 ≠ d) ∨ (57 = d ∧ v = .pointer (some ⟨g, 1, none⟩)))
    (f3 : (3 ≠ i ∧ 58 ≠ d) ∨ (58 = d ∧ v = .string I))
    (f4 : (4 ≠ i ∧ 59 ≠ d) ∨ (59 = d ∧ v = .string (I.extract 1 2)))
    (f5 : (5 ≠ i ∧ 60 ≠ d) ∨ (60 = d ∧ v = .string A))
    (f6 : (6 ≠ i ∧ 61 ≠ d) ∨ (61 = d ∧ v = .agg #[.string ⟨#[52, 57, 48]⟩, .string A, .slice s n c, .int .i64 0]))
    (f7 : (7 ≠ i ∧ 62 ≠ d) ∨ (62 = d ∧ v = .agg #[.string T, .string I, .slice s n c, .int .i64 au]))
    (f8 : (8 ≠ i ∧ 63 ≠ d) ∨ (63 = d ∧ v = .pointer (some ⟨g, 1, none⟩)))
    (f9 : (9 ≠ i ∧ 64 ≠ d) ∨ (64 = d ∧ v = .string I))
    (f10 : (10 ≠ i ∧ 65 ≠ d) ∨ (65 = d ∧ v = .string (I.extract 1 2)))
    (f11 : (11 ≠ i ∧ 66 ≠ d) ∨ (66 = d ∧ v = .string C))
    (f12 : (12 ≠ i ∧ 67 ≠ d) ∨ (67 = d ∧ v = .pointer (some ⟨g, 3, none⟩)))
    (f13 : (13 ≠ i ∧ 68 ≠ d) ∨ (68 = d ∧ v = .int .i64 au))
    (f14 : (14 ≠ i ∧ 69 ≠ d) ∨ (69 = d ∧ v = .agg #[.string ⟨#[56, 51, 48]⟩, .string C, .slice s n c, .int .i64 au])) :
    UpI w1 u4 out N g T I A C s n c au (listed.setIfInBounds i true) (fun k => if k = d then v else xs k) w'' where
  bel := h.bel.trans (hb.mono h.bel.size)
  fc := h.fc.below hb
  l0 := lit_next h.l0 f0
  l1 := lit_next h.l1 f1
  l2 := lit_next h.l2 f2
  l3 := lit_next h.l3 f3
  l4 := lit_next h.l4 f4
  l5 := lit_next h.l5 f5
  l6 := lit_next h.l6 f6
  l7 := lit_next h.l7 f7
  l8 := lit_next h.l8 f8
  l9 := lit_next h.l9 f9
  l10 := lit_next h.l10 f10
  l11 := lit_next h.l11 f11
  l12 := lit_next h.l12 f12
  l13 := lit_next h.l13 f13
  l14 := lit_next h.l14 f14
  row := fun hl => (h.row (listed_keep (Ne.symm hi16) hl)).below hb
  bld := fun hl hl' => by
    simp only [Ne.symm hd70, if_false]
    rcases set_listed hl with h3 | h3
    · exact absurd h3.symm hi15
    · exact (h.bld h3 (listed_keep (Ne.symm hi16) hl')).below hb
  app := fun hl => by
    simp only [Ne.symm hd71, if_false]
    rcases set_listed hl with h3 | h3
    · exact absurd h3.symm hi16
    · exact (h.app h3).below hb
  ord := fun hl => by
    rcases set_listed hl with h3 | h3
    · exact absurd h3.symm hi17
    · rw [getD_set_ne true hi16]; exact h.ord h3
  fin := fun hl => by
    simp only [Ne.symm hd71, Ne.symm hd4, if_false]
    rcases set_listed hl with h3 | h3
    · exact absurd h3.symm hi17
    · exact h.fin h3
  old := fun hl => by
    simp only [Ne.symm hd4, if_false]
    exact h.old (listed_keep (Ne.symm hi17) hl)
  zer := fun hl => by
    rcases set_listed hl with h3 | h3
    · exact absurd h3.symm hi16
    · exact listed_more (h.zer h3)
theorem UpI.start {w1 : World} {u4 : Value} {out N : List Fld} {g : Nat} {T I A C : ByteArray} {s : Option Addr} {n c : Nat} {au : Int} {listed : Array Bool} {xs : Nat → Value} {w' : World} (hz : ∀ m, m < 18 → listed.getD m true = false)
    (hb : Below w1.heap.size w1 w') (hf : FC w' g T I (.slice s n c) au) (ho : OwnF w' w1.heap.size u4 out) (h4 : xs 4 = u4) : UpI w1 u4 out N g T I A C s n c au listed xs w' := by
  have no : ∀ {m : Nat} {p : Prop}, m < 18 → listed.getD m true = true → p := fun hm h => by rw [hz _ hm] at h; cases h
  exact ⟨hb, hf, no (by decide), no (by decide), no (by decide), no (by decide), no (by decide), no (by decide), no (by decide), no (by decide), no (by decide), no (by decide), no (by decide), no (by decide), no (by decide), no (by decide), no (by decide), fun _ => ho, no (by decide), no (by decide), no (by decide), no (by decide), fun _ => h4, no (by decide)⟩
/-- The slice of two fields is made. -/
theorem UpI.built {w1 : World} {u4 : Value} {out N : List Fld} {g : Nat} {T I A C : ByteArray} {s : Option Addr} {n c : Nat} {au : Int} {listed : Array Bool} {xs : Nat → Value} {w' w'' : World} (h : UpI w1 u4 out N g T I A C s n c au listed xs w') (v : Value)
    (hb : Below w'.heap.size w' w'') (hc : SlotCells w'' v N) : UpI w1 u4 out N g T I A C s n c au (listed.setIfInBounds 15 true) (fun k => if k = 70 then v else xs k) w'' where
  bel := h.bel.trans (hb.mono h.bel.size)
  fc := h.fc.below hb
  l0 := lit_next h.l0 (.inl ⟨by decide, by decide⟩)
  l1 := lit_next h.l1 (.inl ⟨by decide, by decide⟩)
  l2 := lit_next h.l2 (.inl ⟨by decide, by decide⟩)
  l3 := lit_next h.l3 (.inl ⟨by decide, by decide⟩)
  l4 := lit_next h.l4 (.inl ⟨by decide, by decide⟩)
  l5 := lit_next h.l5 (.inl ⟨by decide, by decide⟩)
  l6 := lit_next h.l6 (.inl ⟨by decide, by decide⟩)
  l7 := lit_next h.l7 (.inl ⟨by decide, by decide⟩)
  l8 := lit_next h.l8 (.inl ⟨by decide, by decide⟩)
  l9 := lit_next h.l9 (.inl ⟨by decide, by decide⟩)
  l10 := lit_next h.l10 (.inl ⟨by decide, by decide⟩)
  l11 := lit_next h.l11 (.inl ⟨by decide, by decide⟩)
  l12 := lit_next h.l12 (.inl ⟨by decide, by decide⟩)
  l13 := lit_next h.l13 (.inl ⟨by decide, by decide⟩)
  l14 := lit_next h.l14 (.inl ⟨by decide, by decide⟩)
  row := fun hl => (h.row (listed_keep (by decide) hl)).below hb
  bld := fun _ _ => hc
  app := fun hl => by
    rcases set_listed hl with h3 | h3
    · cases h3
    · exact (h.app h3).below hb
  ord := fun hl => by
    rcases set_listed hl with h3 | h3
    · cases h3
    · rw [getD_set_ne true (by decide)]; exact h.ord h3
  fin := fun hl => by
    rcases set_listed hl with h3 | h3
    · cases h3
    · exact h.fin h3
  old := fun hl => h.old (listed_keep (by decide) hl)
  zer := fun hl => by
    rcases set_listed hl with h3 | h3
    · cases h3
    · exact listed_more (h.zer h3)
/-- The two fields are appended. -/
theorem UpI.appended {w1 : World} {u4 : Value} {out N : List Fld} {g : Nat} {T I A C : ByteArray} {s : Option Addr} {n c : Nat} {au : Int} {listed : Array Bool} {xs : Nat → Value} {w' w'' : World} (h : UpI w1 u4 out N g T I A C s n c au listed xs w') (v : Value)
    (hn : listed.getD 16 true = false) (h0 : listed.getD 0 true = true) (hb : Below w1.heap.size w' w'') (hg : w'.grownBy w'' u4.ownBlock) (hne : u4.ownBlock ≠ some g) (hc : OwnF w'' w1.heap.size v (out ++ N)) : UpI w1 u4 out N g T I A C s n c au (listed.setIfInBounds 16 true) (fun k => if k = 71 then v else xs k) w'' where
  bel := h.bel.trans hb
  fc := h.fc.of_block (hg.block g h.fc.lt (fun e => hne e.symm)) hg.size
  l0 := lit_next h.l0 (.inl ⟨by decide, by decide⟩)
  l1 := lit_next h.l1 (.inl ⟨by decide, by decide⟩)
  l2 := lit_next h.l2 (.inl ⟨by decide, by decide⟩)
  l3 := lit_next h.l3 (.inl ⟨by decide, by decide⟩)
  l4 := lit_next h.l4 (.inl ⟨by decide, by decide⟩)
  l5 := lit_next h.l5 (.inl ⟨by decide, by decide⟩)
  l6 := lit_next h.l6 (.inl ⟨by decide, by decide⟩)
  l7 := lit_next h.l7 (.inl ⟨by decide, by decide⟩)
  l8 := lit_next h.l8 (.inl ⟨by decide, by decide⟩)
  l9 := lit_next h.l9 (.inl ⟨by decide, by decide⟩)
  l10 := lit_next h.l10 (.inl ⟨by decide, by decide⟩)
  l11 := lit_next h.l11 (.inl ⟨by decide, by decide⟩)
  l12 := lit_next h.l12 (.inl ⟨by decide, by decide⟩)
  l13 := lit_next h.l13 (.inl ⟨by decide, by decide⟩)
  l14 := lit_next h.l14 (.inl ⟨by decide, by decide⟩)
  row := fun hl => by
    have : (listed.setIfInBounds 16 true).getD 16 true = true := by
      rcases Nat.lt_or_ge 16 listed.size with hs | hs
      · simp [Array.getD, hs]
      · simp [Array.getD, Nat.not_lt.2 hs]
    rw [this] at hl
    cases hl
  bld := fun _ hl => by
    have : (listed.setIfInBounds 16 true).getD 16 true = true := by
      rcases Nat.lt_or_ge 16 listed.size with hs | hs
      · simp [Array.getD, hs]
      · simp [Array.getD, Nat.not_lt.2 hs]
    rw [this] at hl
    cases hl
  app := fun _ => hc
  ord := fun _ => by
    rcases Nat.lt_or_ge 16 listed.size with hs | hs
    · simp [Array.getD, hs]
    · simp [Array.getD, Nat.not_lt.2 hs]
  fin := fun hl => by
    rcases set_listed hl with h3 | h3
    · cases h3
    · have := h.ord h3
      rw [hn] at this
      cases this
  old := fun hl => h.old (listed_keep (by decide) hl)
  zer := fun _ => listed_more h0
/-- The row is given to the variable. -/
theorem UpI.assigned {w1 : World} {u4 : Value} {out N : List Fld} {g : Nat} {T I A C : ByteArray} {s : Option Addr} {n c : Nat} {au : Int} {listed : Array Bool} {xs : Nat → Value} {w' : World} (h : UpI w1 u4 out N g T I A C s n c au listed xs w')
    (hn : listed.getD 16 true = true) : UpI w1 u4 out N g T I A C s n c au (listed.setIfInBounds 17 true) (fun k => if k = 4 then xs 71 else xs k) w' where
  bel := h.bel
  fc := h.fc
  l0 := lit_next h.l0 (.inl ⟨by decide, by decide⟩)
  l1 := lit_next h.l1 (.inl ⟨by decide, by decide⟩)
  l2 := lit_next h.l2 (.inl ⟨by decide, by decide⟩)
  l3 := lit_next h.l3 (.inl ⟨by decide, by decide⟩)
  l4 := lit_next h.l4 (.inl ⟨by decide, by decide⟩)
  l5 := lit_next h.l5 (.inl ⟨by decide, by decide⟩)
  l6 := lit_next h.l6 (.inl ⟨by decide, by decide⟩)
  l7 := lit_next h.l7 (.inl ⟨by decide, by decide⟩)
  l8 := lit_next h.l8 (.inl ⟨by decide, by decide⟩)
  l9 := lit_next h.l9 (.inl ⟨by decide, by decide⟩)
  l10 := lit_next h.l10 (.inl ⟨by decide, by decide⟩)
  l11 := lit_next h.l11 (.inl ⟨by decide, by decide⟩)
  l12 := lit_next h.l12 (.inl ⟨by decide, by decide⟩)
  l13 := lit_next h.l13 (.inl ⟨by decide, by decide⟩)
  l14 := lit_next h.l14 (.inl ⟨by decide, by decide⟩)
  row := fun hl => by
    have := listed_keep (i := 17) (by decide) hl
    rw [hn] at this
    cases this
  bld := fun _ hl => by
    have := listed_keep (i := 17) (by decide) hl
    rw [hn] at this
    cases this
  app := fun _ => h.app hn
  ord := fun _ => by rw [getD_set_ne true (by decide)]; exact hn
  fin := fun _ => rfl
  old := fun hl => by
    have : (listed.setIfInBounds 17 true).getD 17 true = true := by
      rcases Nat.lt_or_ge 17 listed.size with hs | hs
      · simp [Array.getD, hs]
      · simp [Array.getD, Nat.not_lt.2 hs]
    rw [this] at hl
    cases hl
  zer := fun _ => listed_more (h.zer hn)
end Go.Proofs.YtimecccphbgdeaaDoor
