/- Inserting a field into a copy of a record's fields, whatever the order of the operations (layer 08). -/
import Derived.Test.YtkfjeolpbopcnaaGreatDoorEb
import Derived.Test.YtkfjeolpbopcnaaGreatDoorRinv
namespace Go.Proofs.YtkfjeolpbopcnaaGreatDoor
open Go Go.RowKit
theorem listed_set_mono {listed : Array Bool} {i m : Nat} (h : listed.getD m true = true) : (listed.setIfInBounds i true).getD m true = true := by
  by_cases hm : i = m
  · subst hm
    rcases Nat.lt_or_ge i listed.size with h' | h'
    · simp [Array.getD, h']
    · simp [Array.getD, Nat.not_lt.2 h']
  · rw [getD_set_ne true hm]; exact h
theorem listed_self' {listed : Array Bool} (i : Nat) : (listed.setIfInBounds i true).getD i true = true := by
  rcases Nat.lt_or_ge i listed.size with h' | h'
  · simp [Array.getD, h']
  · simp [Array.getD, Nat.not_lt.2 h']
theorem set_false {listed : Array Bool} {i m : Nat} (h : (listed.setIfInBounds i true).getD m true = false) : listed.getD m true = false := by
  by_cases hm : i = m
  · subst hm
    rw [listed_self'] at h
    cases h
  · rwa [getD_set_ne true hm] at h
/-- Each operation waits for earlier ones alone, as far as the waiting binds. -/
def forwardB (md : Region.Mode) (ops : Array Oper) : Bool := (List.range ops.size).all fun j => match ops[j]? with | some o => o.after.all fun e => !Region.binds md e || decide (e.on < j) | none => true
theorem all_listedB {md : Region.Mode} {ops : Array Oper} {listed : Array Bool} (hf : forwardB md ops = true) (hs : listed.size = ops.size) (h0 : Region.ready md ops listed = []) : ∀ m, listed.getD m true = true := by
  intro m
  induction m using Nat.strongRecOn with
  | _ m ih =>
    rcases Nat.lt_or_ge m listed.size with hm | hm
    · cases hl : listed.getD m true with
      | true => rfl
      | false =>
        have hmo : m < ops.size := by omega
        have : m ∈ Region.ready md ops listed := by
          refine mem_ready.2 ⟨hl, ops[m], by simp [hmo], fun e he hb => ?_⟩
          have hfm := List.all_eq_true.1 hf m (List.mem_range.2 hmo)
          simp only [Array.getElem?_eq_getElem hmo] at hfm
          have hlt : e.on < m := by
            have := Array.all_eq_true'.1 hfm e he
            rw [hb] at this
            simpa using this
          have h1 := ih e.on hlt
          have hin : e.on < listed.size := by omega
          simpa [Array.getD, hin] using h1
        rw [h0] at this
        cases this
    · simp [Array.getD, Nat.not_lt.2 hm]

theorem OwnE.weaken {α : Type} {E : α → List Value} {T : TypeId} {w : World} {B B' : Nat} {v : Value} {l : List α} (h : OwnE E T w B v l) (hB : B' ≤ B) : OwnE E T w B' v l := by
  rcases h with h | ⟨g, cap, sp, h1, h2, h3⟩
  · exact .inl h
  · exact .inr ⟨g, cap, sp, h1, Nat.le_trans hB h2, h3⟩
/-- A slice that begins a block. -/
abbrev Sl (g n c : Nat) : Value := .slice (some ⟨g, 0, none⟩) n c
theorem pInsertAny {w : World} {B : Nat} {v : Value} {l : List Fld} (h : OwnF w B v l) (hn : l.length ≤ 1000) (hbw : B ≤ w.heap.size) (vb : Nat) (p : Fld) (hv : Lone w vb p) (hne : ∀ g, v.ownBlock = some g → vb ≠ g) (i : Nat) (hi : i ≤ l.length) :
    Calls Tryz.prog 45 #[v, .int .i64 i, Sl vb 1 1] w (RetIns w B (l.take i ++ p :: l.drop i)) := by
  have ho := h.own fldE_len
  by_cases he : i = l.length
  · subst he
    rw [List.take_length, List.drop_length]
    exact pInsertEnd ho hn hbw vb p hv.cells
  · obtain ⟨g, cap, rfl⟩ : ∃ g cap, v = .slice (some ⟨g, 0, none⟩) l.length cap := by
      rcases h with ⟨-, rfl⟩ | ⟨g, cap, sp, rfl, -⟩
      · simp at hi; subst hi; exact absurd rfl he
      · exact ⟨g, cap, rfl⟩
    have hg := hne g (by simp [Value.ownBlock])
    by_cases hroom : l.length + 1 ≤ cap
    · exact pInsertShift ho hn vb hg p hv i (by omega) 1 rfl hroom
    · exact pInsertGrow ho hn hbw vb p hv i (by omega) 1 rfl (by omega)

/-- What holds, whatever operations have come up. -/
structure ins_regionI (n3 : Nat) (n5 : Nat) (rn : Nat) (c : Nat) (i : Nat) (a : Option Addr) (rf : List Fld) (f : Fld) (T : ByteArray) (I : ByteArray) (sn : Nat) (A W : World) (listed : Array Bool) (xs : Nat → Value) : Prop where
  bel : Below A.heap.size A W
  o1 : listed.getD 1 true = true → listed.getD 0 true = true
  o2 : listed.getD 2 true = true → listed.getD 1 true = true
  o5 : listed.getD 5 true = true → listed.getD 4 true = true
  o6 : listed.getD 6 true = true → listed.getD 2 true = true ∧ listed.getD 3 true = true ∧ listed.getD 5 true = true
  o7 : listed.getD 7 true = true → listed.getD 6 true = true
  o8 : listed.getD 8 true = true → listed.getD 0 true = true ∧ listed.getD 1 true = true ∧ listed.getD 2 true = true ∧ listed.getD 3 true = true ∧ listed.getD 4 true = true ∧ listed.getD 5 true = true ∧ listed.getD 6 true = true ∧ listed.getD 7 true = true
  f0 : listed.getD 0 true = true → (xs 30) = .pointer (some ⟨n3, 4, none⟩)
  f1 : listed.getD 1 true = true → (xs 31) = .slice a rn c
  f2 : listed.getD 2 true = true → listed.getD 6 true = false → OwnF W A.heap.size (xs 32) rf
  f3 : listed.getD 3 true = true → (xs 33) = .int .i64 (i : Int)
  f4 : listed.getD 4 true = true → (xs 34) = .agg #[.string T, .string I, .slice f.sa sn f.sc, .int .i64 f.auth]
  f5 : listed.getD 5 true = true → listed.getD 6 true = false → ∃ vb, (xs 35) = Sl vb 1 1 ∧ Lone W vb f ∧ A.heap.size ≤ vb
  f6 : listed.getD 6 true = true → Rows fldE 4 W (xs 36) (rf.take i ++ f :: rf.drop i)
  f7 : listed.getD 7 true = true → (xs 37) = .pointer (some ⟨n3, 4, none⟩)
  p2_5 : listed.getD 2 true = true → listed.getD 5 true = true → listed.getD 6 true = false → ∀ vb, (xs 35) = Sl vb 1 1 → (xs 32).ownBlock ≠ some vb
section
variable {n3 : Nat} {n5 : Nat} {rn : Nat} {c : Nat} {i : Nat} {a : Option Addr} {rf : List Fld} {f : Fld} {T : ByteArray} {I : ByteArray} {sn : Nat} {A W : World} {listed : Array Bool} {xs : Nat → Value}
theorem ins_regionI.world (h : ins_regionI n3 n5 rn c i a rf f T I sn A W listed xs) {W' : World} (b : Below W.heap.size W W') : ins_regionI n3 n5 rn c i a rf f T I sn A W' listed xs where
  bel := h.bel.bt b
  o1 := h.o1
  o2 := h.o2
  o5 := h.o5
  o6 := h.o6
  o7 := h.o7
  o8 := h.o8
  f0 := h.f0
  f1 := h.f1
  f2 := fun hl hu => by
    have h := h.f2 hl hu
    exact h.below b (Nat.le_refl _)
  f3 := h.f3
  f4 := h.f4
  f5 := fun hl hu => by
    have h := h.f5 hl hu
    obtain ⟨vb, h1, h2, h3⟩ := h
    exact ⟨vb, h1, (b.block vb (Array.getElem?_eq_some_iff.1 h2).1).trans h2, h3⟩
  f6 := fun hl => by
    have h := h.f6 hl
    exact h.below b (Nat.le_refl _)
  f7 := h.f7
  p2_5 := h.p2_5
theorem ins_regionI.s0 (h : ins_regionI n3 n5 rn c i a rf f T I sn A W listed xs) (_ : listed.getD 0 true = false) {v : Value}  (hf : v = .pointer (some ⟨n3, 4, none⟩))  : ins_regionI n3 n5 rn c i a rf f T I sn A W (listed.setIfInBounds 0 true) (fun k => if k = 30 then v else xs k) where
  bel := h.bel
  o1 := fun h1 => listed_set_mono (h.o1 ((set_listed h1).resolve_left (by decide)))
  o2 := fun h1 => listed_set_mono (h.o2 ((set_listed h1).resolve_left (by decide)))
  o5 := fun h1 => listed_set_mono (h.o5 ((set_listed h1).resolve_left (by decide)))
  o6 := fun h1 => by
    have := h.o6 ((set_listed h1).resolve_left (by decide))
    simp only [listed_set_mono this.1, listed_set_mono this.2.1, listed_set_mono this.2.2, and_self]
  o7 := fun h1 => listed_set_mono (h.o7 ((set_listed h1).resolve_left (by decide)))
  o8 := fun h1 => by
    have := h.o8 ((set_listed h1).resolve_left (by decide))
    simp only [listed_set_mono this.1, listed_set_mono this.2.1, listed_set_mono this.2.2.1, listed_set_mono this.2.2.2.1, listed_set_mono this.2.2.2.2.1, listed_set_mono this.2.2.2.2.2.1, listed_set_mono this.2.2.2.2.2.2.1, listed_set_mono this.2.2.2.2.2.2.2, and_self]
  f0 := fun _ => by simpa using hf
  f1 := fun h1 => by have := h.f1 ((set_listed h1).resolve_left (by decide)); simpa using this
  f2 := fun h1 h2 => by have := h.f2 ((set_listed h1).resolve_left (by decide)) (set_false h2); simpa using this
  f3 := fun h1 => by have := h.f3 ((set_listed h1).resolve_left (by decide)); simpa using this
  f4 := fun h1 => by have := h.f4 ((set_listed h1).resolve_left (by decide)); simpa using this
  f5 := fun h1 h2 => by have := h.f5 ((set_listed h1).resolve_left (by decide)) (set_false h2); simpa using this
  f6 := fun h1 => by have := h.f6 ((set_listed h1).resolve_left (by decide)); simpa using this
  f7 := fun h1 => by have := h.f7 ((set_listed h1).resolve_left (by decide)); simpa using this
  p2_5 := fun h1 h2 h3 => by have := h.p2_5 ((set_listed h1).resolve_left (by decide)) ((set_listed h2).resolve_left (by decide)) (set_false h3); simpa using this
theorem ins_regionI.s1 (h : ins_regionI n3 n5 rn c i a rf f T I sn A W listed xs) (_ : listed.getD 1 true = false) {v : Value} (l0 : listed.getD 0 true = true) (hf : v = .slice a rn c)  : ins_regionI n3 n5 rn c i a rf f T I sn A W (listed.setIfInBounds 1 true) (fun k => if k = 31 then v else xs k) where
  bel := h.bel
  o1 := fun _ => listed_set_mono l0
  o2 := fun h1 => listed_set_mono (h.o2 ((set_listed h1).resolve_left (by decide)))
  o5 := fun h1 => listed_set_mono (h.o5 ((set_listed h1).resolve_left (by decide)))
  o6 := fun h1 => by
    have := h.o6 ((set_listed h1).resolve_left (by decide))
    simp only [listed_set_mono this.1, listed_set_mono this.2.1, listed_set_mono this.2.2, and_self]
  o7 := fun h1 => listed_set_mono (h.o7 ((set_listed h1).resolve_left (by decide)))
  o8 := fun h1 => by
    have := h.o8 ((set_listed h1).resolve_left (by decide))
    simp only [listed_set_mono this.1, listed_set_mono this.2.1, listed_set_mono this.2.2.1, listed_set_mono this.2.2.2.1, listed_set_mono this.2.2.2.2.1, listed_set_mono this.2.2.2.2.2.1, listed_set_mono this.2.2.2.2.2.2.1, listed_set_mono this.2.2.2.2.2.2.2, and_self]
  f0 := fun h1 => by have := h.f0 ((set_listed h1).resolve_left (by decide)); simpa using this
  f1 := fun _ => by simpa using hf
  f2 := fun h1 h2 => by have := h.f2 ((set_listed h1).resolve_left (by decide)) (set_false h2); simpa using this
  f3 := fun h1 => by have := h.f3 ((set_listed h1).resolve_left (by decide)); simpa using this
  f4 := fun h1 => by have := h.f4 ((set_listed h1).resolve_left (by decide)); simpa using this
  f5 := fun h1 h2 => by have := h.f5 ((set_listed h1).resolve_left (by decide)) (set_false h2); simpa using this
  f6 := fun h1 => by have := h.f6 ((set_listed h1).resolve_left (by decide)); simpa using this
  f7 := fun h1 => by have := h.f7 ((set_listed h1).resolve_left (by decide)); simpa using this
  p2_5 := fun h1 h2 h3 => by have := h.p2_5 ((set_listed h1).resolve_left (by decide)) ((set_listed h2).resolve_left (by decide)) (set_false h3); simpa using this
theorem ins_regionI.s2 (h : ins_regionI n3 n5 rn c i a rf f T I sn A W listed xs) (_ : listed.getD 2 true = false) {v : Value} (l1 : listed.getD 1 true = true) (hf : OwnF W A.heap.size v rf) (hp2_5 : listed.getD 5 true = true → listed.getD 6 true = false → ∀ vb, (xs 35) = Sl vb 1 1 → v.ownBlock ≠ some vb) : ins_regionI n3 n5 rn c i a rf f T I sn A W (listed.setIfInBounds 2 true) (fun k => if k = 32 then v else xs k) where
  bel := h.bel
  o1 := fun h1 => listed_set_mono (h.o1 ((set_listed h1).resolve_left (by decide)))
  o2 := fun _ => listed_set_mono l1
  o5 := fun h1 => listed_set_mono (h.o5 ((set_listed h1).resolve_left (by decide)))
  o6 := fun h1 => by
    have := h.o6 ((set_listed h1).resolve_left (by decide))
    simp only [listed_set_mono this.1, listed_set_mono this.2.1, listed_set_mono this.2.2, and_self]
  o7 := fun h1 => listed_set_mono (h.o7 ((set_listed h1).resolve_left (by decide)))
  o8 := fun h1 => by
    have := h.o8 ((set_listed h1).resolve_left (by decide))
    simp only [listed_set_mono this.1, listed_set_mono this.2.1, listed_set_mono this.2.2.1, listed_set_mono this.2.2.2.1, listed_set_mono this.2.2.2.2.1, listed_set_mono this.2.2.2.2.2.1, listed_set_mono this.2.2.2.2.2.2.1, listed_set_mono this.2.2.2.2.2.2.2, and_self]
  f0 := fun h1 => by have := h.f0 ((set_listed h1).resolve_left (by decide)); simpa using this
  f1 := fun h1 => by have := h.f1 ((set_listed h1).resolve_left (by decide)); simpa using this
  f2 := fun _ _ => by simpa using hf
  f3 := fun h1 => by have := h.f3 ((set_listed h1).resolve_left (by decide)); simpa using this
  f4 := fun h1 => by have := h.f4 ((set_listed h1).resolve_left (by decide)); simpa using this
  f5 := fun h1 h2 => by have := h.f5 ((set_listed h1).resolve_left (by decide)) (set_false h2); simpa using this
  f6 := fun h1 => by have := h.f6 ((set_listed h1).resolve_left (by decide)); simpa using this
  f7 := fun h1 => by have := h.f7 ((set_listed h1).resolve_left (by decide)); simpa using this
  p2_5 := fun _ h2 h3 => by have := hp2_5 ((set_listed h2).resolve_left (by decide)) (set_false h3); simpa using this
theorem ins_regionI.s3 (h : ins_regionI n3 n5 rn c i a rf f T I sn A W listed xs) (_ : listed.getD 3 true = false) {v : Value}  (hf : v = .int .i64 (i : Int))  : ins_regionI n3 n5 rn c i a rf f T I sn A W (listed.setIfInBounds 3 true) (fun k => if k = 33 then v else xs k) where
  bel := h.bel
  o1 := fun h1 => listed_set_mono (h.o1 ((set_listed h1).resolve_left (by decide)))
  o2 := fun h1 => listed_set_mono (h.o2 ((set_listed h1).resolve_left (by decide)))
  o5 := fun h1 => listed_set_mono (h.o5 ((set_listed h1).resolve_left (by decide)))
  o6 := fun h1 => by
    have := h.o6 ((set_listed h1).resolve_left (by decide))
    simp only [listed_set_mono this.1, listed_set_mono this.2.1, listed_set_mono this.2.2, and_self]
  o7 := fun h1 => listed_set_mono (h.o7 ((set_listed h1).resolve_left (by decide)))
  o8 := fun h1 => by
    have := h.o8 ((set_listed h1).resolve_left (by decide))
    simp only [listed_set_mono this.1, listed_set_mono this.2.1, listed_set_mono this.2.2.1, listed_set_mono this.2.2.2.1, listed_set_mono this.2.2.2.2.1, listed_set_mono this.2.2.2.2.2.1, listed_set_mono this.2.2.2.2.2.2.1, listed_set_mono this.2.2.2.2.2.2.2, and_self]
  f0 := fun h1 => by have := h.f0 ((set_listed h1).resolve_left (by decide)); simpa using this
  f1 := fun h1 => by have := h.f1 ((set_listed h1).resolve_left (by decide)); simpa using this
  f2 := fun h1 h2 => by have := h.f2 ((set_listed h1).resolve_left (by decide)) (set_false h2); simpa using this
  f3 := fun _ => by simpa using hf
  f4 := fun h1 => by have := h.f4 ((set_listed h1).resolve_left (by decide)); simpa using this
  f5 := fun h1 h2 => by have := h.f5 ((set_listed h1).resolve_left (by decide)) (set_false h2); simpa using this
  f6 := fun h1 => by have := h.f6 ((set_listed h1).resolve_left (by decide)); simpa using this
  f7 := fun h1 => by have := h.f7 ((set_listed h1).resolve_left (by decide)); simpa using this
  p2_5 := fun h1 h2 h3 => by have := h.p2_5 ((set_listed h1).resolve_left (by decide)) ((set_listed h2).resolve_left (by decide)) (set_false h3); simpa using this
theorem ins_regionI.s4 (h : ins_regionI n3 n5 rn c i a rf f T I sn A W listed xs) (_ : listed.getD 4 true = false) {v : Value}  (hf : v = .agg #[.string T, .string I, .slice f.sa sn f.sc, .int .i64 f.auth])  : ins_regionI n3 n5 rn c i a rf f T I sn A W (listed.setIfInBounds 4 true) (fun k => if k = 34 then v else xs k) where
  bel := h.bel
  o1 := fun h1 => listed_set_mono (h.o1 ((set_listed h1).resolve_left (by decide)))
  o2 := fun h1 => listed_set_mono (h.o2 ((set_listed h1).resolve_left (by decide)))
  o5 := fun h1 => listed_set_mono (h.o5 ((set_listed h1).resolve_left (by decide)))
  o6 := fun h1 => by
    have := h.o6 ((set_listed h1).resolve_left (by decide))
    simp only [listed_set_mono this.1, listed_set_mono this.2.1, listed_set_mono this.2.2, and_self]
  o7 := fun h1 => listed_set_mono (h.o7 ((set_listed h1).resolve_left (by decide)))
  o8 := fun h1 => by
    have := h.o8 ((set_listed h1).resolve_left (by decide))
    simp only [listed_set_mono this.1, listed_set_mono this.2.1, listed_set_mono this.2.2.1, listed_set_mono this.2.2.2.1, listed_set_mono this.2.2.2.2.1, listed_set_mono this.2.2.2.2.2.1, listed_set_mono this.2.2.2.2.2.2.1, listed_set_mono this.2.2.2.2.2.2.2, and_self]
  f0 := fun h1 => by have := h.f0 ((set_listed h1).resolve_left (by decide)); simpa using this
  f1 := fun h1 => by have := h.f1 ((set_listed h1).resolve_left (by decide)); simpa using this
  f2 := fun h1 h2 => by have := h.f2 ((set_listed h1).resolve_left (by decide)) (set_false h2); simpa using this
  f3 := fun h1 => by have := h.f3 ((set_listed h1).resolve_left (by decide)); simpa using this
  f4 := fun _ => by simpa using hf
  f5 := fun h1 h2 => by have := h.f5 ((set_listed h1).resolve_left (by decide)) (set_false h2); simpa using this
  f6 := fun h1 => by have := h.f6 ((set_listed h1).resolve_left (by decide)); simpa using this
  f7 := fun h1 => by have := h.f7 ((set_listed h1).resolve_left (by decide)); simpa using this
  p2_5 := fun h1 h2 h3 => by have := h.p2_5 ((set_listed h1).resolve_left (by decide)) ((set_listed h2).resolve_left (by decide)) (set_false h3); simpa using this
theorem ins_regionI.s5 (h : ins_regionI n3 n5 rn c i a rf f T I sn A W listed xs) (_ : listed.getD 5 true = false) {v : Value} (l4 : listed.getD 4 true = true) (hf : ∃ vb, v = Sl vb 1 1 ∧ Lone W vb f ∧ A.heap.size ≤ vb) (hp2_5 : listed.getD 2 true = true → listed.getD 6 true = false → ∀ vb, v = Sl vb 1 1 → (xs 32).ownBlock ≠ some vb) : ins_regionI n3 n5 rn c i a rf f T I sn A W (listed.setIfInBounds 5 true) (fun k => if k = 35 then v else xs k) where
  bel := h.bel
  o1 := fun h1 => listed_set_mono (h.o1 ((set_listed h1).resolve_left (by decide)))
  o2 := fun h1 => listed_set_mono (h.o2 ((set_listed h1).resolve_left (by decide)))
  o5 := fun _ => listed_set_mono l4
  o6 := fun h1 => by
    have := h.o6 ((set_listed h1).resolve_left (by decide))
    simp only [listed_set_mono this.1, listed_set_mono this.2.1, listed_set_mono this.2.2, and_self]
  o7 := fun h1 => listed_set_mono (h.o7 ((set_listed h1).resolve_left (by decide)))
  o8 := fun h1 => by
    have := h.o8 ((set_listed h1).resolve_left (by decide))
    simp only [listed_set_mono this.1, listed_set_mono this.2.1, listed_set_mono this.2.2.1, listed_set_mono this.2.2.2.1, listed_set_mono this.2.2.2.2.1, listed_set_mono this.2.2.2.2.2.1, listed_set_mono this.2.2.2.2.2.2.1, listed_set_mono this.2.2.2.2.2.2.2, and_self]
  f0 := fun h1 => by have := h.f0 ((set_listed h1).resolve_left (by decide)); simpa using this
  f1 := fun h1 => by have := h.f1 ((set_listed h1).resolve_left (by decide)); simpa using this
  f2 := fun h1 h2 => by have := h.f2 ((set_listed h1).resolve_left (by decide)) (set_false h2); simpa using this
  f3 := fun h1 => by have := h.f3 ((set_listed h1).resolve_left (by decide)); simpa using this
  f4 := fun h1 => by have := h.f4 ((set_listed h1).resolve_left (by decide)); simpa using this
  f5 := fun _ _ => by simpa using hf
  f6 := fun h1 => by have := h.f6 ((set_listed h1).resolve_left (by decide)); simpa using this
  f7 := fun h1 => by have := h.f7 ((set_listed h1).resolve_left (by decide)); simpa using this
  p2_5 := fun h1 _ h3 => by have := hp2_5 ((set_listed h1).resolve_left (by decide)) (set_false h3); simpa using this
theorem ins_regionI.s6 (h : ins_regionI n3 n5 rn c i a rf f T I sn A W listed xs) (_ : listed.getD 6 true = false) {v : Value} (l2 : listed.getD 2 true = true) (l3 : listed.getD 3 true = true) (l5 : listed.getD 5 true = true) {W' : World} (hb : Below A.heap.size A W') (hf : Rows fldE 4 W' v (rf.take i ++ f :: rf.drop i))  : ins_regionI n3 n5 rn c i a rf f T I sn A W' (listed.setIfInBounds 6 true) (fun k => if k = 36 then v else xs k) where
  bel := hb
  o1 := fun h1 => listed_set_mono (h.o1 ((set_listed h1).resolve_left (by decide)))
  o2 := fun h1 => listed_set_mono (h.o2 ((set_listed h1).resolve_left (by decide)))
  o5 := fun h1 => listed_set_mono (h.o5 ((set_listed h1).resolve_left (by decide)))
  o6 := fun _ => ⟨listed_set_mono l2, listed_set_mono l3, listed_set_mono l5⟩
  o7 := fun h1 => listed_set_mono (h.o7 ((set_listed h1).resolve_left (by decide)))
  o8 := fun h1 => by
    have := h.o8 ((set_listed h1).resolve_left (by decide))
    simp only [listed_set_mono this.1, listed_set_mono this.2.1, listed_set_mono this.2.2.1, listed_set_mono this.2.2.2.1, listed_set_mono this.2.2.2.2.1, listed_set_mono this.2.2.2.2.2.1, listed_set_mono this.2.2.2.2.2.2.1, listed_set_mono this.2.2.2.2.2.2.2, and_self]
  f0 := fun h1 => by have := h.f0 ((set_listed h1).resolve_left (by decide)); simpa using this
  f1 := fun h1 => by have := h.f1 ((set_listed h1).resolve_left (by decide)); simpa using this
  f2 := fun _ h2 => absurd (listed_self' 6) (by rw [h2]; decide)
  f3 := fun h1 => by have := h.f3 ((set_listed h1).resolve_left (by decide)); simpa using this
  f4 := fun h1 => by have := h.f4 ((set_listed h1).resolve_left (by decide)); simpa using this
  f5 := fun _ h2 => absurd (listed_self' 6) (by rw [h2]; decide)
  f6 := fun _ => by simpa using hf
  f7 := fun h1 => by have := h.f7 ((set_listed h1).resolve_left (by decide)); simpa using this
  p2_5 := fun _ _ h3 => absurd (listed_self' 6) (by rw [h3]; decide)
theorem ins_regionI.s7 (h : ins_regionI n3 n5 rn c i a rf f T I sn A W listed xs) (_ : listed.getD 7 true = false) {v : Value} (l6 : listed.getD 6 true = true) (hf : v = .pointer (some ⟨n3, 4, none⟩))  : ins_regionI n3 n5 rn c i a rf f T I sn A W (listed.setIfInBounds 7 true) (fun k => if k = 37 then v else xs k) where
  bel := h.bel
  o1 := fun h1 => listed_set_mono (h.o1 ((set_listed h1).resolve_left (by decide)))
  o2 := fun h1 => listed_set_mono (h.o2 ((set_listed h1).resolve_left (by decide)))
  o5 := fun h1 => listed_set_mono (h.o5 ((set_listed h1).resolve_left (by decide)))
  o6 := fun h1 => by
    have := h.o6 ((set_listed h1).resolve_left (by decide))
    simp only [listed_set_mono this.1, listed_set_mono this.2.1, listed_set_mono this.2.2, and_self]
  o7 := fun _ => listed_set_mono l6
  o8 := fun h1 => by
    have := h.o8 ((set_listed h1).resolve_left (by decide))
    simp only [listed_set_mono this.1, listed_set_mono this.2.1, listed_set_mono this.2.2.1, listed_set_mono this.2.2.2.1, listed_set_mono this.2.2.2.2.1, listed_set_mono this.2.2.2.2.2.1, listed_set_mono this.2.2.2.2.2.2.1, listed_set_mono this.2.2.2.2.2.2.2, and_self]
  f0 := fun h1 => by have := h.f0 ((set_listed h1).resolve_left (by decide)); simpa using this
  f1 := fun h1 => by have := h.f1 ((set_listed h1).resolve_left (by decide)); simpa using this
  f2 := fun h1 h2 => by have := h.f2 ((set_listed h1).resolve_left (by decide)) (set_false h2); simpa using this
  f3 := fun h1 => by have := h.f3 ((set_listed h1).resolve_left (by decide)); simpa using this
  f4 := fun h1 => by have := h.f4 ((set_listed h1).resolve_left (by decide)); simpa using this
  f5 := fun h1 h2 => by have := h.f5 ((set_listed h1).resolve_left (by decide)) (set_false h2); simpa using this
  f6 := fun h1 => by have := h.f6 ((set_listed h1).resolve_left (by decide)); simpa using this
  f7 := fun _ => by simpa using hf
  p2_5 := fun h1 h2 h3 => by have := h.p2_5 ((set_listed h1).resolve_left (by decide)) ((set_listed h2).resolve_left (by decide)) (set_false h3); simpa using this
theorem ins_regionI.s8 (h : ins_regionI n3 n5 rn c i a rf f T I sn A W listed xs) (_ : listed.getD 8 true = false) (l0 : listed.getD 0 true = true) (l1 : listed.getD 1 true = true) (l2 : listed.getD 2 true = true) (l3 : listed.getD 3 true = true) (l4 : listed.getD 4 true = true) (l5 : listed.getD 5 true = true) (l6 : listed.getD 6 true = true) (l7 : listed.getD 7 true = true)   : ins_regionI n3 n5 rn c i a rf f T I sn A W (listed.setIfInBounds 8 true) xs where
  bel := h.bel
  o1 := fun h1 => listed_set_mono (h.o1 ((set_listed h1).resolve_left (by decide)))
  o2 := fun h1 => listed_set_mono (h.o2 ((set_listed h1).resolve_left (by decide)))
  o5 := fun h1 => listed_set_mono (h.o5 ((set_listed h1).resolve_left (by decide)))
  o6 := fun h1 => by
    have := h.o6 ((set_listed h1).resolve_left (by decide))
    simp only [listed_set_mono this.1, listed_set_mono this.2.1, listed_set_mono this.2.2, and_self]
  o7 := fun h1 => listed_set_mono (h.o7 ((set_listed h1).resolve_left (by decide)))
  o8 := fun _ => ⟨listed_set_mono l0, listed_set_mono l1, listed_set_mono l2, listed_set_mono l3, listed_set_mono l4, listed_set_mono l5, listed_set_mono l6, listed_set_mono l7⟩
  f0 := fun h1 => h.f0 ((set_listed h1).resolve_left (by decide))
  f1 := fun h1 => h.f1 ((set_listed h1).resolve_left (by decide))
  f2 := fun h1 h2 => h.f2 ((set_listed h1).resolve_left (by decide)) (set_false h2)
  f3 := fun h1 => h.f3 ((set_listed h1).resolve_left (by decide))
  f4 := fun h1 => h.f4 ((set_listed h1).resolve_left (by decide))
  f5 := fun h1 h2 => h.f5 ((set_listed h1).resolve_left (by decide)) (set_false h2)
  f6 := fun h1 => h.f6 ((set_listed h1).resolve_left (by decide))
  f7 := fun h1 => h.f7 ((set_listed h1).resolve_left (by decide))
  p2_5 := fun h1 h2 h3 => by have := h.p2_5 ((set_listed h1).resolve_left (by decide)) ((set_listed h2).resolve_left (by decide)) (set_false h3); simpa using this
end

set_option maxRecDepth 100000 in
set_option maxHeartbeats 4000000 in
theorem ins_region {id : Nat} {ty0 : TypeId} {po0 : String} {af0 : Array Edge} {ty1 : TypeId} {po1 : String} {af1 : Array Edge} {ty2 : TypeId} {po2 : String} {af2 : Array Edge} {ty3 : TypeId} {po3 : String} {af3 : Array Edge} {ty4 : TypeId} {po4 : String} {af4 : Array Edge} {po5 : String} {af5 : Array Edge} {ty6 : TypeId} {po6 : String} {af6 : Array Edge} {ty7 : TypeId} {po7 : String} {af7 : Array Edge} {ty8 : TypeId} {po8 : String} {af8 : Array Edge} {Q : Exit → Act → World → Prop} {A : World} {v0 v2 v4 v6 v7 v8 v9 v10 v11 v12 v13 v14 v15 v16 v17 v18 v19 v20 v21 v22 v23 v24 v25 v26 v27 v28 v29 v38 : Value} {u30 u31 u32 u33 u34 u35 u36 u37 : Value} (n3 : Nat) (n5 : Nat) (rn : Nat) (c : Nat) (i : Nat) (a : Option Addr) (rf : List Fld) (f : Fld) (T : ByteArray) (I : ByteArray) (sn : Nat)
    (hT : T = lb f.tag) (hI : I = lb f.ind) (hsn : sn = f.subs.length) (hrn : rn = rf.length) (hr40 : rn ≤ 900) (hin2 : i ≤ rn) (hA : Flds A (.slice a rn c) rf) (h3 : A.cell? ⟨n3, 4, none⟩ = some (.slice a rn c)) (h3z : A.frozen? ⟨n3, 4, none⟩ = false)
    (hn5 : A.heap[n5]? = some (.cells #[.string T, .string I, .slice f.sa sn f.sc, .int .i64 f.auth] 35 (0, 0)))
    (hw1_0 : waits .any #[⟨some 30, .fieldAddr 24 (.tmp 3) 4, ty0, po0, af0, none⟩, ⟨some 31, .load 22 (.tmp 30), ty1, po1, af1, none⟩, ⟨some 32, .call { callee := .value (.func 46), args := #[.tmp 31], argTypes := #[22] }, ty2, po2, af2, none⟩, ⟨some 33, .move (.tmp 1), ty3, po3, af3, none⟩, ⟨some 34, .load 35 (.tmp 5), ty4, po4, af4, none⟩, ⟨some 35, .buildSlice 22 1 #[(0, .tmp 34)], 22, po5, af5, none⟩, ⟨some 36, .call { callee := .value (.func 45), args := #[.tmp 32, .tmp 33, .tmp 35], argTypes := #[22, 3, 22] }, ty6, po6, af6, none⟩, ⟨some 37, .fieldAddr 24 (.tmp 3) 4, ty7, po7, af7, none⟩, ⟨none, .store 22 (.tmp 37) (.tmp 36), ty8, po8, af8, none⟩] 1 0 = true)
    (hw2_1 : waits .any #[⟨some 30, .fieldAddr 24 (.tmp 3) 4, ty0, po0, af0, none⟩, ⟨some 31, .load 22 (.tmp 30), ty1, po1, af1, none⟩, ⟨some 32, .call { callee := .value (.func 46), args := #[.tmp 31], argTypes := #[22] }, ty2, po2, af2, none⟩, ⟨some 33, .move (.tmp 1), ty3, po3, af3, none⟩, ⟨some 34, .load 35 (.tmp 5), ty4, po4, af4, none⟩, ⟨some 35, .buildSlice 22 1 #[(0, .tmp 34)], 22, po5, af5, none⟩, ⟨some 36, .call { callee := .value (.func 45), args := #[.tmp 32, .tmp 33, .tmp 35], argTypes := #[22, 3, 22] }, ty6, po6, af6, none⟩, ⟨some 37, .fieldAddr 24 (.tmp 3) 4, ty7, po7, af7, none⟩, ⟨none, .store 22 (.tmp 37) (.tmp 36), ty8, po8, af8, none⟩] 2 1 = true)
    (hw5_4 : waits .any #[⟨some 30, .fieldAddr 24 (.tmp 3) 4, ty0, po0, af0, none⟩, ⟨some 31, .load 22 (.tmp 30), ty1, po1, af1, none⟩, ⟨some 32, .call { callee := .value (.func 46), args := #[.tmp 31], argTypes := #[22] }, ty2, po2, af2, none⟩, ⟨some 33, .move (.tmp 1), ty3, po3, af3, none⟩, ⟨some 34, .load 35 (.tmp 5), ty4, po4, af4, none⟩, ⟨some 35, .buildSlice 22 1 #[(0, .tmp 34)], 22, po5, af5, none⟩, ⟨some 36, .call { callee := .value (.func 45), args := #[.tmp 32, .tmp 33, .tmp 35], argTypes := #[22, 3, 22] }, ty6, po6, af6, none⟩, ⟨some 37, .fieldAddr 24 (.tmp 3) 4, ty7, po7, af7, none⟩, ⟨none, .store 22 (.tmp 37) (.tmp 36), ty8, po8, af8, none⟩] 5 4 = true)
    (hw6_2 : waits .any #[⟨some 30, .fieldAddr 24 (.tmp 3) 4, ty0, po0, af0, none⟩, ⟨some 31, .load 22 (.tmp 30), ty1, po1, af1, none⟩, ⟨some 32, .call { callee := .value (.func 46), args := #[.tmp 31], argTypes := #[22] }, ty2, po2, af2, none⟩, ⟨some 33, .move (.tmp 1), ty3, po3, af3, none⟩, ⟨some 34, .load 35 (.tmp 5), ty4, po4, af4, none⟩, ⟨some 35, .buildSlice 22 1 #[(0, .tmp 34)], 22, po5, af5, none⟩, ⟨some 36, .call { callee := .value (.func 45), args := #[.tmp 32, .tmp 33, .tmp 35], argTypes := #[22, 3, 22] }, ty6, po6, af6, none⟩, ⟨some 37, .fieldAddr 24 (.tmp 3) 4, ty7, po7, af7, none⟩, ⟨none, .store 22 (.tmp 37) (.tmp 36), ty8, po8, af8, none⟩] 6 2 = true)
    (hw6_3 : waits .any #[⟨some 30, .fieldAddr 24 (.tmp 3) 4, ty0, po0, af0, none⟩, ⟨some 31, .load 22 (.tmp 30), ty1, po1, af1, none⟩, ⟨some 32, .call { callee := .value (.func 46), args := #[.tmp 31], argTypes := #[22] }, ty2, po2, af2, none⟩, ⟨some 33, .move (.tmp 1), ty3, po3, af3, none⟩, ⟨some 34, .load 35 (.tmp 5), ty4, po4, af4, none⟩, ⟨some 35, .buildSlice 22 1 #[(0, .tmp 34)], 22, po5, af5, none⟩, ⟨some 36, .call { callee := .value (.func 45), args := #[.tmp 32, .tmp 33, .tmp 35], argTypes := #[22, 3, 22] }, ty6, po6, af6, none⟩, ⟨some 37, .fieldAddr 24 (.tmp 3) 4, ty7, po7, af7, none⟩, ⟨none, .store 22 (.tmp 37) (.tmp 36), ty8, po8, af8, none⟩] 6 3 = true)
    (hw6_5 : waits .any #[⟨some 30, .fieldAddr 24 (.tmp 3) 4, ty0, po0, af0, none⟩, ⟨some 31, .load 22 (.tmp 30), ty1, po1, af1, none⟩, ⟨some 32, .call { callee := .value (.func 46), args := #[.tmp 31], argTypes := #[22] }, ty2, po2, af2, none⟩, ⟨some 33, .move (.tmp 1), ty3, po3, af3, none⟩, ⟨some 34, .load 35 (.tmp 5), ty4, po4, af4, none⟩, ⟨some 35, .buildSlice 22 1 #[(0, .tmp 34)], 22, po5, af5, none⟩, ⟨some 36, .call { callee := .value (.func 45), args := #[.tmp 32, .tmp 33, .tmp 35], argTypes := #[22, 3, 22] }, ty6, po6, af6, none⟩, ⟨some 37, .fieldAddr 24 (.tmp 3) 4, ty7, po7, af7, none⟩, ⟨none, .store 22 (.tmp 37) (.tmp 36), ty8, po8, af8, none⟩] 6 5 = true)
    (hw7_6 : waits .any #[⟨some 30, .fieldAddr 24 (.tmp 3) 4, ty0, po0, af0, none⟩, ⟨some 31, .load 22 (.tmp 30), ty1, po1, af1, none⟩, ⟨some 32, .call { callee := .value (.func 46), args := #[.tmp 31], argTypes := #[22] }, ty2, po2, af2, none⟩, ⟨some 33, .move (.tmp 1), ty3, po3, af3, none⟩, ⟨some 34, .load 35 (.tmp 5), ty4, po4, af4, none⟩, ⟨some 35, .buildSlice 22 1 #[(0, .tmp 34)], 22, po5, af5, none⟩, ⟨some 36, .call { callee := .value (.func 45), args := #[.tmp 32, .tmp 33, .tmp 35], argTypes := #[22, 3, 22] }, ty6, po6, af6, none⟩, ⟨some 37, .fieldAddr 24 (.tmp 3) 4, ty7, po7, af7, none⟩, ⟨none, .store 22 (.tmp 37) (.tmp 36), ty8, po8, af8, none⟩] 7 6 = true)
    (hw8_0 : waits .any #[⟨some 30, .fieldAddr 24 (.tmp 3) 4, ty0, po0, af0, none⟩, ⟨some 31, .load 22 (.tmp 30), ty1, po1, af1, none⟩, ⟨some 32, .call { callee := .value (.func 46), args := #[.tmp 31], argTypes := #[22] }, ty2, po2, af2, none⟩, ⟨some 33, .move (.tmp 1), ty3, po3, af3, none⟩, ⟨some 34, .load 35 (.tmp 5), ty4, po4, af4, none⟩, ⟨some 35, .buildSlice 22 1 #[(0, .tmp 34)], 22, po5, af5, none⟩, ⟨some 36, .call { callee := .value (.func 45), args := #[.tmp 32, .tmp 33, .tmp 35], argTypes := #[22, 3, 22] }, ty6, po6, af6, none⟩, ⟨some 37, .fieldAddr 24 (.tmp 3) 4, ty7, po7, af7, none⟩, ⟨none, .store 22 (.tmp 37) (.tmp 36), ty8, po8, af8, none⟩] 8 0 = true)
    (hw8_1 : waits .any #[⟨some 30, .fieldAddr 24 (.tmp 3) 4, ty0, po0, af0, none⟩, ⟨some 31, .load 22 (.tmp 30), ty1, po1, af1, none⟩, ⟨some 32, .call { callee := .value (.func 46), args := #[.tmp 31], argTypes := #[22] }, ty2, po2, af2, none⟩, ⟨some 33, .move (.tmp 1), ty3, po3, af3, none⟩, ⟨some 34, .load 35 (.tmp 5), ty4, po4, af4, none⟩, ⟨some 35, .buildSlice 22 1 #[(0, .tmp 34)], 22, po5, af5, none⟩, ⟨some 36, .call { callee := .value (.func 45), args := #[.tmp 32, .tmp 33, .tmp 35], argTypes := #[22, 3, 22] }, ty6, po6, af6, none⟩, ⟨some 37, .fieldAddr 24 (.tmp 3) 4, ty7, po7, af7, none⟩, ⟨none, .store 22 (.tmp 37) (.tmp 36), ty8, po8, af8, none⟩] 8 1 = true)
    (hw8_2 : waits .any #[⟨some 30, .fieldAddr 24 (.tmp 3) 4, ty0, po0, af0, none⟩, ⟨some 31, .load 22 (.tmp 30), ty1, po1, af1, none⟩, ⟨some 32, .call { callee := .value (.func 46), args := #[.tmp 31], argTypes := #[22] }, ty2, po2, af2, none⟩, ⟨some 33, .move (.tmp 1), ty3, po3, af3, none⟩, ⟨some 34, .load 35 (.tmp 5), ty4, po4, af4, none⟩, ⟨some 35, .buildSlice 22 1 #[(0, .tmp 34)], 22, po5, af5, none⟩, ⟨some 36, .call { callee := .value (.func 45), args := #[.tmp 32, .tmp 33, .tmp 35], argTypes := #[22, 3, 22] }, ty6, po6, af6, none⟩, ⟨some 37, .fieldAddr 24 (.tmp 3) 4, ty7, po7, af7, none⟩, ⟨none, .store 22 (.tmp 37) (.tmp 36), ty8, po8, af8, none⟩] 8 2 = true)
    (hw8_3 : waits .any #[⟨some 30, .fieldAddr 24 (.tmp 3) 4, ty0, po0, af0, none⟩, ⟨some 31, .load 22 (.tmp 30), ty1, po1, af1, none⟩, ⟨some 32, .call { callee := .value (.func 46), args := #[.tmp 31], argTypes := #[22] }, ty2, po2, af2, none⟩, ⟨some 33, .move (.tmp 1), ty3, po3, af3, none⟩, ⟨some 34, .load 35 (.tmp 5), ty4, po4, af4, none⟩, ⟨some 35, .buildSlice 22 1 #[(0, .tmp 34)], 22, po5, af5, none⟩, ⟨some 36, .call { callee := .value (.func 45), args := #[.tmp 32, .tmp 33, .tmp 35], argTypes := #[22, 3, 22] }, ty6, po6, af6, none⟩, ⟨some 37, .fieldAddr 24 (.tmp 3) 4, ty7, po7, af7, none⟩, ⟨none, .store 22 (.tmp 37) (.tmp 36), ty8, po8, af8, none⟩] 8 3 = true)
    (hw8_4 : waits .any #[⟨some 30, .fieldAddr 24 (.tmp 3) 4, ty0, po0, af0, none⟩, ⟨some 31, .load 22 (.tmp 30), ty1, po1, af1, none⟩, ⟨some 32, .call { callee := .value (.func 46), args := #[.tmp 31], argTypes := #[22] }, ty2, po2, af2, none⟩, ⟨some 33, .move (.tmp 1), ty3, po3, af3, none⟩, ⟨some 34, .load 35 (.tmp 5), ty4, po4, af4, none⟩, ⟨some 35, .buildSlice 22 1 #[(0, .tmp 34)], 22, po5, af5, none⟩, ⟨some 36, .call { callee := .value (.func 45), args := #[.tmp 32, .tmp 33, .tmp 35], argTypes := #[22, 3, 22] }, ty6, po6, af6, none⟩, ⟨some 37, .fieldAddr 24 (.tmp 3) 4, ty7, po7, af7, none⟩, ⟨none, .store 22 (.tmp 37) (.tmp 36), ty8, po8, af8, none⟩] 8 4 = true)
    (hw8_5 : waits .any #[⟨some 30, .fieldAddr 24 (.tmp 3) 4, ty0, po0, af0, none⟩, ⟨some 31, .load 22 (.tmp 30), ty1, po1, af1, none⟩, ⟨some 32, .call { callee := .value (.func 46), args := #[.tmp 31], argTypes := #[22] }, ty2, po2, af2, none⟩, ⟨some 33, .move (.tmp 1), ty3, po3, af3, none⟩, ⟨some 34, .load 35 (.tmp 5), ty4, po4, af4, none⟩, ⟨some 35, .buildSlice 22 1 #[(0, .tmp 34)], 22, po5, af5, none⟩, ⟨some 36, .call { callee := .value (.func 45), args := #[.tmp 32, .tmp 33, .tmp 35], argTypes := #[22, 3, 22] }, ty6, po6, af6, none⟩, ⟨some 37, .fieldAddr 24 (.tmp 3) 4, ty7, po7, af7, none⟩, ⟨none, .store 22 (.tmp 37) (.tmp 36), ty8, po8, af8, none⟩] 8 5 = true)
    (hw8_6 : waits .any #[⟨some 30, .fieldAddr 24 (.tmp 3) 4, ty0, po0, af0, none⟩, ⟨some 31, .load 22 (.tmp 30), ty1, po1, af1, none⟩, ⟨some 32, .call { callee := .value (.func 46), args := #[.tmp 31], argTypes := #[22] }, ty2, po2, af2, none⟩, ⟨some 33, .move (.tmp 1), ty3, po3, af3, none⟩, ⟨some 34, .load 35 (.tmp 5), ty4, po4, af4, none⟩, ⟨some 35, .buildSlice 22 1 #[(0, .tmp 34)], 22, po5, af5, none⟩, ⟨some 36, .call { callee := .value (.func 45), args := #[.tmp 32, .tmp 33, .tmp 35], argTypes := #[22, 3, 22] }, ty6, po6, af6, none⟩, ⟨some 37, .fieldAddr 24 (.tmp 3) 4, ty7, po7, af7, none⟩, ⟨none, .store 22 (.tmp 37) (.tmp 36), ty8, po8, af8, none⟩] 8 6 = true)
    (hw8_7 : waits .any #[⟨some 30, .fieldAddr 24 (.tmp 3) 4, ty0, po0, af0, none⟩, ⟨some 31, .load 22 (.tmp 30), ty1, po1, af1, none⟩, ⟨some 32, .call { callee := .value (.func 46), args := #[.tmp 31], argTypes := #[22] }, ty2, po2, af2, none⟩, ⟨some 33, .move (.tmp 1), ty3, po3, af3, none⟩, ⟨some 34, .load 35 (.tmp 5), ty4, po4, af4, none⟩, ⟨some 35, .buildSlice 22 1 #[(0, .tmp 34)], 22, po5, af5, none⟩, ⟨some 36, .call { callee := .value (.func 45), args := #[.tmp 32, .tmp 33, .tmp 35], argTypes := #[22, 3, 22] }, ty6, po6, af6, none⟩, ⟨some 37, .fieldAddr 24 (.tmp 3) 4, ty7, po7, af7, none⟩, ⟨none, .store 22 (.tmp 37) (.tmp 36), ty8, po8, af8, none⟩] 8 7 = true)
    (hfw : forwardB .any #[⟨some 30, .fieldAddr 24 (.tmp 3) 4, ty0, po0, af0, none⟩, ⟨some 31, .load 22 (.tmp 30), ty1, po1, af1, none⟩, ⟨some 32, .call { callee := .value (.func 46), args := #[.tmp 31], argTypes := #[22] }, ty2, po2, af2, none⟩, ⟨some 33, .move (.tmp 1), ty3, po3, af3, none⟩, ⟨some 34, .load 35 (.tmp 5), ty4, po4, af4, none⟩, ⟨some 35, .buildSlice 22 1 #[(0, .tmp 34)], 22, po5, af5, none⟩, ⟨some 36, .call { callee := .value (.func 45), args := #[.tmp 32, .tmp 33, .tmp 35], argTypes := #[22, 3, 22] }, ty6, po6, af6, none⟩, ⟨some 37, .fieldAddr 24 (.tmp 3) 4, ty7, po7, af7, none⟩, ⟨none, .store 22 (.tmp 37) (.tmp 36), ty8, po8, af8, none⟩] = true)
    (hQ : ∀ (xs : Nat → Value) (W : World) (Z : World), Below A.heap.size A W → (∃ ga gc, (xs 36) = .slice ga (rn + 1) gc ∧ Rows fldE 4 W (.slice ga (rn + 1) gc) (rf.take i ++ f :: rf.drop i) ∧ Z = W.setCell ⟨n3, 4, none⟩ (.slice ga (rn + 1) gc)) → Q .normal ⟨#[v0, .int .i64 (i : Int), v2, .pointer (some ⟨n3, 0, none⟩), v4, .pointer (some ⟨n5, 0, none⟩), v6, v7, v8, v9, v10, v11, v12, v13, v14, v15, v16, v17, v18, v19, v20, v21, v22, v23, v24, v25, v26, v27, v28, v29, xs 30, xs 31, xs 32, xs 33, xs 34, xs 35, xs 36, xs 37, v38], []⟩ Z)
    : Code.wp Tryz.prog (.region id #[⟨some 30, .fieldAddr 24 (.tmp 3) 4, ty0, po0, af0, none⟩, ⟨some 31, .load 22 (.tmp 30), ty1, po1, af1, none⟩, ⟨some 32, .call { callee := .value (.func 46), args := #[.tmp 31], argTypes := #[22] }, ty2, po2, af2, none⟩, ⟨some 33, .move (.tmp 1), ty3, po3, af3, none⟩, ⟨some 34, .load 35 (.tmp 5), ty4, po4, af4, none⟩, ⟨some 35, .buildSlice 22 1 #[(0, .tmp 34)], 22, po5, af5, none⟩, ⟨some 36, .call { callee := .value (.func 45), args := #[.tmp 32, .tmp 33, .tmp 35], argTypes := #[22, 3, 22] }, ty6, po6, af6, none⟩, ⟨some 37, .fieldAddr 24 (.tmp 3) 4, ty7, po7, af7, none⟩, ⟨none, .store 22 (.tmp 37) (.tmp 36), ty8, po8, af8, none⟩] true) Q ⟨#[v0, .int .i64 (i : Int), v2, .pointer (some ⟨n3, 0, none⟩), v4, .pointer (some ⟨n5, 0, none⟩), v6, v7, v8, v9, v10, v11, v12, v13, v14, v15, v16, v17, v18, v19, v20, v21, v22, v23, v24, v25, v26, v27, v28, v29, u30, u31, u32, u33, u34, u35, u36, u37, v38], []⟩ A := by
  refine wp_region_inv (by kernel_rfl) (fun listed x Z => ∃ (xs : Nat → Value) (W : World), x = ⟨#[v0, .int .i64 (i : Int), v2, .pointer (some ⟨n3, 0, none⟩), v4, .pointer (some ⟨n5, 0, none⟩), v6, v7, v8, v9, v10, v11, v12, v13, v14, v15, v16, v17, v18, v19, v20, v21, v22, v23, v24, v25, v26, v27, v28, v29, xs 30, xs 31, xs 32, xs 33, xs 34, xs 35, xs 36, xs 37, v38], []⟩ ∧ ins_regionI n3 n5 rn c i a rf f T I sn A W listed xs ∧ (listed.getD 8 true = false → Z = W) ∧ (listed.getD 8 true = true → ∃ ga gc, (xs 36) = .slice ga (rn + 1) gc ∧ Rows fldE 4 W (.slice ga (rn + 1) gc) (rf.take i ++ f :: rf.drop i) ∧ Z = W.setCell ⟨n3, 4, none⟩ (.slice ga (rn + 1) gc))) ?start ?step ?done
  case start =>
    have no : ∀ m, m < 9 → (Array.replicate 9 false).getD m true = false := fun m hm => by simp [Array.getD, hm]
    exact ⟨fun k => if k = 30 then u30 else if k = 31 then u31 else if k = 32 then u32 else if k = 33 then u33 else if k = 34 then u34 else if k = 35 then u35 else if k = 36 then u36 else if k = 37 then u37 else undef, A.drew, rfl, ⟨(Below.refl _ _).drew, fun h => Bool.noConfusion ((no 1 (by decide)).symm.trans h), fun h => Bool.noConfusion ((no 2 (by decide)).symm.trans h), fun h => Bool.noConfusion ((no 5 (by decide)).symm.trans h), fun h => Bool.noConfusion ((no 6 (by decide)).symm.trans h), fun h => Bool.noConfusion ((no 7 (by decide)).symm.trans h), fun h => Bool.noConfusion ((no 8 (by decide)).symm.trans h), fun h => Bool.noConfusion ((no 0 (by decide)).symm.trans h), fun h => Bool.noConfusion ((no 1 (by decide)).symm.trans h), fun h => Bool.noConfusion ((no 2 (by decide)).symm.trans h), fun h => Bool.noConfusion ((no 3 (by decide)).symm.trans h), fun h => Bool.noConfusion ((no 4 (by decide)).symm.trans h), fun h => Bool.noConfusion ((no 5 (by decide)).symm.trans h), fun h => Bool.noConfusion ((no 6 (by decide)).symm.trans h), fun h => Bool.noConfusion ((no 7 (by decide)).symm.trans h), fun h => Bool.noConfusion ((no 2 (by decide)).symm.trans h)⟩, fun _ => rfl, fun h => Bool.noConfusion ((no 8 (by decide)).symm.trans h)⟩
  case done =>
    rintro listed x Z hs ⟨xs, W, rfl, R1, -, hE⟩ h0
    have hall := all_listedB hfw hs h0
    exact hQ xs W Z R1.bel  (hE (hall 8))
  case step =>
    rintro listed x Z i hs ⟨xs, W, rfl, R1, hZ0, hZ1⟩ hi
    have hin : i < 9 := by
      obtain ⟨-, o, ho, -⟩ := mem_ready.1 hi
      exact (Array.getElem?_eq_some_iff.1 ho).1
    have hno := (mem_ready.1 hi).1
    have bel := R1.bel
    have q4 := (bel.cell (p := ⟨n3, 4, none⟩) (lt_cell h3)).trans h3
    have z4 : W.frozen? ⟨n3, 4, none⟩ = false := by
      unfold World.frozen? at h3z ⊢
      rw [bel.block n3 (lt_cell h3)]
      exact h3z
    have hnW := (bel.block n5 (Array.getElem?_eq_some_iff.1 hn5).1).trans hn5
    have g0 := Lib.cell_of_heap hnW 0
    have g1 := Lib.cell_of_heap hnW 1
    have g2 := Lib.cell_of_heap hnW 2
    have g3 := Lib.cell_of_heap hnW 3
    have HAW := Lib.hid (hA.below bel (Nat.le_refl _))
    have HTT := Lib.hid hT
    have HII := Lib.hid hI
    have HSN := Lib.hid hsn
    have HRN := Lib.hid hrn
    have RR := Lib.hid R1
    have HNO := Lib.hid hno
    have BEL := Lib.hid bel
    have HZ0 := Lib.hid hZ0
    have HZ1 := Lib.hid hZ1
    clear R1 hQ hfw bel hno hA h3 h3z hn5 hnW hT hI hsn hrn hZ0 hZ1
    have hcases : i = 0 ∨ i = 1 ∨ i = 2 ∨ i = 3 ∨ i = 4 ∨ i = 5 ∨ i = 6 ∨ i = 7 ∨ i = 8 := by omega
    rcases hcases with rfl | rfl | rfl | rfl | rfl | rfl | rfl | rfl | rfl
    · clear hi hw1_0 hw2_1 hw5_4 hw6_2 hw6_3 hw6_5 hw7_6 hw8_0 hw8_1 hw8_2 hw8_3 hw8_4 hw8_5 hw8_6 hw8_7
      refine wpOp_step rfl (fun K hK => ?_)
      go_simp
      exact hK _ _ ⟨fun k => if k = 30 then .pointer (some ⟨n3, 4, none⟩) else xs k, _, by simp, RR.out.s0 HNO.out   (rfl) , fun h => HZ0.out (set_false h), fun h => by have := HZ1.out ((set_listed h).resolve_left (by decide)); simpa using this⟩
    · have l0 := waited hi hw1_0
      have hs0 : listed.getD 8 true = false := by
        cases hs0 : listed.getD 8 true with
        | false => rfl
        | true =>
          have h := RR.out
          exact absurd (h.o8 hs0).2.1 (by rw [HNO.out]; decide)
      have hZW := (HZ0.out hs0).symm
      subst hZW
      have e30 := RR.out.f0 l0
      clear hi hw1_0 hw2_1 hw5_4 hw6_2 hw6_3 hw6_5 hw7_6 hw8_0 hw8_1 hw8_2 hw8_3 hw8_4 hw8_5 hw8_6 hw8_7
      refine wpOp_step rfl (fun K hK => ?_)
      simp only [e30]
      go_simp
      exact hK _ _ ⟨fun k => if k = 31 then .slice a rn c else xs k, _, by simp [e30], RR.out.s1 HNO.out l0  (rfl) , fun _ => rfl, fun h => absurd (((set_listed h).resolve_left (by decide))) (by rw [hs0]; decide)⟩
    · have l1 := waited hi hw2_1
      have hs0 : listed.getD 8 true = false := by
        cases hs0 : listed.getD 8 true with
        | false => rfl
        | true =>
          have h := RR.out
          exact absurd (h.o8 hs0).2.2.1 (by rw [HNO.out]; decide)
      have hZW := (HZ0.out hs0).symm
      subst hZW
      have e31 := RR.out.f1 l1
      clear hi hw1_0 hw2_1 hw5_4 hw6_2 hw6_3 hw6_5 hw7_6 hw8_0 hw8_1 hw8_2 hw8_3 hw8_4 hw8_5 hw8_6 hw8_7
      refine wpOp_step rfl (fun K hK => ?_)
      simp only [e31]
      go_simp
      refine (pClone _ rf W HAW.out (by have := HRN.out; omega)).mono ?_
      rintro e w'' ⟨v, rfl, ho, bb⟩
      exact hK _ _ ⟨fun k => if k = 32 then v else xs k, _, by simp [e31], (RR.out.world (bb)).s2 HNO.out l1  (OwnE.weaken ho BEL.out.size) (fun l5 h6 vb e => by
        obtain ⟨vb', e', hl, -⟩ := RR.out.f5 l5 h6
        rw [e'] at e
        cases e
        intro hh
        have h1 := (ho.lt vb hh).1
        have h2 := (Array.getElem?_eq_some_iff.1 hl).1
        omega), fun _ => rfl, fun h => absurd (((set_listed h).resolve_left (by decide))) (by rw [hs0]; decide)⟩
    · clear hi hw1_0 hw2_1 hw5_4 hw6_2 hw6_3 hw6_5 hw7_6 hw8_0 hw8_1 hw8_2 hw8_3 hw8_4 hw8_5 hw8_6 hw8_7
      refine wpOp_step rfl (fun K hK => ?_)
      go_simp
      exact hK _ _ ⟨fun k => if k = 33 then .int .i64 (i : Int) else xs k, _, by simp, RR.out.s3 HNO.out   (rfl) , fun h => HZ0.out (set_false h), fun h => by have := HZ1.out ((set_listed h).resolve_left (by decide)); simpa using this⟩
    · have hs0 : listed.getD 8 true = false := by
        cases hs0 : listed.getD 8 true with
        | false => rfl
        | true =>
          have h := RR.out
          exact absurd (h.o8 hs0).2.2.2.2.1 (by rw [HNO.out]; decide)
      have hZW := (HZ0.out hs0).symm
      subst hZW
      clear hi hw1_0 hw2_1 hw5_4 hw6_2 hw6_3 hw6_5 hw7_6 hw8_0 hw8_1 hw8_2 hw8_3 hw8_4 hw8_5 hw8_6 hw8_7
      refine wpOp_step rfl (fun K hK => ?_)
      go_simp
      exact hK _ _ ⟨fun k => if k = 34 then .agg #[.string T, .string I, .slice f.sa sn f.sc, .int .i64 f.auth] else xs k, _, by simp, RR.out.s4 HNO.out   (rfl) , fun _ => rfl, fun h => absurd (((set_listed h).resolve_left (by decide))) (by rw [hs0]; decide)⟩
    · have l4 := waited hi hw5_4
      have hs0 : listed.getD 8 true = false := by
        cases hs0 : listed.getD 8 true with
        | false => rfl
        | true =>
          have h := RR.out
          exact absurd (h.o8 hs0).2.2.2.2.2.1 (by rw [HNO.out]; decide)
      have hZW := (HZ0.out hs0).symm
      subst hZW
      have e34 := RR.out.f4 l4
      clear hi hw1_0 hw2_1 hw5_4 hw6_2 hw6_3 hw6_5 hw7_6 hw8_0 hw8_1 hw8_2 hw8_3 hw8_4 hw8_5 hw8_6 hw8_7
      refine wpOp_step rfl (fun K hK => ?_)
      simp only [e34]
      go_simp
      exact hK _ _ ⟨fun k => if k = 35 then Sl W.heap.size 1 1 else xs k, _, by simp [e34], (RR.out.world ((Below.refl _ _).alloc (Nat.le_refl _) _)).s5 HNO.out l4  (⟨_, rfl, by unfold Lone; rw [← HTT.out, ← HII.out, ← HSN.out]; exact alloc_at rfl, BEL.out.size⟩) (fun l2 h6 vb e => by
        cases e
        intro hh
        have h1 := ((RR.out.f2 l2 h6).lt _ hh).2
        omega), fun _ => rfl, fun h => absurd (((set_listed h).resolve_left (by decide))) (by rw [hs0]; decide)⟩
    · have l2 := waited hi hw6_2
      have l3 := waited hi hw6_3
      have l5 := waited hi hw6_5
      have hs0 : listed.getD 8 true = false := by
        cases hs0 : listed.getD 8 true with
        | false => rfl
        | true =>
          have h := RR.out
          exact absurd (h.o8 hs0).2.2.2.2.2.2.1 (by rw [HNO.out]; decide)
      have hZW := (HZ0.out hs0).symm
      subst hZW
      have ho := Lib.hid (RR.out.f2 l2 HNO.out)
      have e33 := RR.out.f3 l3
      obtain ⟨vb, e35, hl, -⟩ := RR.out.f5 l5 HNO.out
      have hne := Lib.hid (RR.out.p2_5 l2 l5 HNO.out vb e35)
      have HL := Lib.hid hl
      clear hl
      clear hi hw1_0 hw2_1 hw5_4 hw6_2 hw6_3 hw6_5 hw7_6 hw8_0 hw8_1 hw8_2 hw8_3 hw8_4 hw8_5 hw8_6 hw8_7
      refine wpOp_step rfl (fun K hK => ?_)
      simp only [e33, e35]
      go_simp
      refine (pInsertAny ho.out (by have := HRN.out; omega) BEL.out.size vb f HL.out (fun g hg he => hne.out (by rw [hg, he])) i (by have := HRN.out; omega)).mono ?_
      rintro e w'' ⟨v, rfl, hr, hb⟩
      exact hK _ _ ⟨fun k => if k = 36 then v else xs k, _, by simp [e33, e35], RR.out.s6 HNO.out l2 l3 l5 (hb A.heap.size A BEL.out (Nat.le_refl _) BEL.out.size) (hr) , fun _ => rfl, fun h => absurd (((set_listed h).resolve_left (by decide))) (by rw [hs0]; decide)⟩
    · have l6 := waited hi hw7_6
      clear hi hw1_0 hw2_1 hw5_4 hw6_2 hw6_3 hw6_5 hw7_6 hw8_0 hw8_1 hw8_2 hw8_3 hw8_4 hw8_5 hw8_6 hw8_7
      refine wpOp_step rfl (fun K hK => ?_)
      go_simp
      exact hK _ _ ⟨fun k => if k = 37 then .pointer (some ⟨n3, 4, none⟩) else xs k, _, by simp, RR.out.s7 HNO.out l6  (rfl) , fun h => HZ0.out (set_false h), fun h => by have := HZ1.out ((set_listed h).resolve_left (by decide)); simpa using this⟩
    · have l0 := waited hi hw8_0
      have l1 := waited hi hw8_1
      have l2 := waited hi hw8_2
      have l3 := waited hi hw8_3
      have l4 := waited hi hw8_4
      have l5 := waited hi hw8_5
      have l6 := waited hi hw8_6
      have l7 := waited hi hw8_7
      have hZW := (HZ0.out HNO.out).symm
      subst hZW
      have e37 := RR.out.f7 l7
      have hr := RR.out.f6 l6
      obtain ⟨ga, gc, e36, -⟩ := hr.shape
      rw [show (rf.take i ++ f :: rf.drop i).length = rn + 1 by rw [List.length_append, List.length_cons, List.length_take, List.length_drop]; have := HRN.out; omega] at e36
      have hr2 : Rows fldE 4 W (.slice ga (rn + 1) gc) (rf.take i ++ f :: rf.drop i) := by rw [← e36]; exact hr
      have HR := Lib.hid hr2
      clear hr hr2
      clear hi hw1_0 hw2_1 hw5_4 hw6_2 hw6_3 hw6_5 hw7_6 hw8_0 hw8_1 hw8_2 hw8_3 hw8_4 hw8_5 hw8_6 hw8_7
      refine wpOp_step rfl (fun K hK => ?_)
      simp only [e37, e36]
      go_simp
      exact hK _ _ ⟨xs, _, by simp [e37, e36], RR.out.s8 HNO.out l0 l1 l2 l3 l4 l5 l6 l7   , fun h => absurd (listed_self' 8) (by rw [h]; decide), fun _ => ⟨_, _, e36, HR.out, rfl⟩⟩
end Go.Proofs.YtkfjeolpbopcnaaGreatDoor
