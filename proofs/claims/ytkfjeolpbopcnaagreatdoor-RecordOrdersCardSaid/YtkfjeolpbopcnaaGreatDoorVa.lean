/- Plain Lean: fields in the order of their tags; the stable order is one alone (layer 08). No program in sight. Sorting fields (layer 08): what the memory holds while a record's fields are sorted. Sorting fields (layer 08): the walk of swapRange. Sorting fields (layer 08): the walk of rotate. -/
import Derived.Test.YtkfjeolpbopcnaaGreatDoorMwr
import Derived.Lib.Bytealg
import Derived.Test.YtkfjeolpbopcnaaGreatDoorDrc
import Derived.Lib.FrozenHead2
import Derived.BigRegion
namespace Go.Proofs.YtkfjeolpbopcnaaGreatDoor
open Go

theorem cmp_range : ∀ a b : List UInt8, -1 ≤ Lib.compareBytes a b ∧ Lib.compareBytes a b ≤ 1
  | [], [] => by simp [Lib.compareBytes]
  | [], _ :: _ => by simp [Lib.compareBytes]
  | _ :: _, [] => by simp [Lib.compareBytes]
  | x :: a, y :: b => by
    have := cmp_range a b
    unfold Lib.compareBytes
    split
    · omega
    · split <;> omega
theorem cmp_neg : ∀ a b : List UInt8, Lib.compareBytes a b = - Lib.compareBytes b a
  | [], [] => rfl
  | [], _ :: _ => rfl
  | _ :: _, [] => rfl
  | x :: a, y :: b => by
    unfold Lib.compareBytes
    by_cases h1 : x < y
    · have h2 : ¬ y < x := fun h => by rw [UInt8.lt_iff_toNat_lt] at h h1; omega
      rw [if_pos h1, if_neg h2, if_pos h1]
    · by_cases h2 : y < x
      · rw [if_neg h1, if_pos h2, if_pos h2]; rfl
      · rw [if_neg h1, if_neg h2, if_neg h2, if_neg h1]; exact cmp_neg a b
theorem cmp_eq : ∀ a b : List UInt8, Lib.compareBytes a b = 0 ↔ a = b
  | [], [] => by simp [Lib.compareBytes]
  | [], _ :: _ => by simp [Lib.compareBytes]
  | _ :: _, [] => by simp [Lib.compareBytes]
  | x :: a, y :: b => by
    unfold Lib.compareBytes
    by_cases h1 : x < y
    · rw [if_pos h1]
      constructor
      · intro h; omega
      · intro h; injection h with h; subst h; rw [UInt8.lt_iff_toNat_lt] at h1; omega
    · by_cases h2 : y < x
      · rw [if_neg h1, if_pos h2]
        constructor
        · intro h; omega
        · intro h; injection h with h; subst h; rw [UInt8.lt_iff_toNat_lt] at h2; omega
      · rw [if_neg h1, if_neg h2, cmp_eq a b]
        have e : x = y := UInt8.toNat_inj.1 (by rw [UInt8.lt_iff_toNat_lt] at h1 h2; omega)
        simp [e]
/-- What comes before, comes before what comes later: strict if one of the two is. -/
theorem cmp_trans : ∀ a b c : List UInt8, Lib.compareBytes a b ≤ 0 → Lib.compareBytes b c ≤ 0 →
    Lib.compareBytes a c ≤ 0 ∧ ((Lib.compareBytes a b < 0 ∨ Lib.compareBytes b c < 0) → Lib.compareBytes a c < 0)
  | [], [], [], _, _ => by simp [Lib.compareBytes]
  | [], [], _ :: _, _, _ => by simp [Lib.compareBytes]
  | [], _ :: _, [], _, h => by simp [Lib.compareBytes] at h
  | [], _ :: _, _ :: _, _, _ => by simp [Lib.compareBytes]
  | _ :: _, [], _, h, _ => by simp [Lib.compareBytes] at h
  | _ :: _, _ :: _, [], _, h => by simp [Lib.compareBytes] at h
  | x :: a, y :: b, z :: c, h1, h2 => by
    have ih := cmp_trans a b c
    have r1 := cmp_range a b
    have r2 := cmp_range b c
    unfold Lib.compareBytes at h1 h2 ⊢
    simp only [UInt8.lt_iff_toNat_lt] at h1 h2 ⊢
    by_cases p1 : x.toNat < y.toNat
    · rw [if_pos p1] at h1 ⊢
      by_cases p2 : y.toNat < z.toNat
      · rw [if_pos (by omega : x.toNat < z.toNat)]; omega
      · rw [if_neg p2] at h2
        by_cases p3 : z.toNat < y.toNat
        · rw [if_pos p3] at h2; omega
        · rw [if_pos (by omega : x.toNat < z.toNat)]; omega
    · rw [if_neg p1] at h1 ⊢
      by_cases q1 : y.toNat < x.toNat
      · rw [if_pos q1] at h1; omega
      · rw [if_neg q1] at h1 ⊢
        by_cases p2 : y.toNat < z.toNat
        · rw [if_pos p2] at h2 ⊢; rw [if_pos (by omega : x.toNat < z.toNat)]; omega
        · rw [if_neg p2] at h2 ⊢
          by_cases p3 : z.toNat < y.toNat
          · rw [if_pos p3] at h2; omega
          · rw [if_neg p3] at h2 ⊢
            rw [if_neg (by omega : ¬ x.toNat < z.toNat), if_neg (by omega : ¬ z.toNat < x.toNat)]
            exact ih h1 h2
theorem less_cmp : ∀ a b : List UInt8, Op.bytesLess a b = decide (Lib.compareBytes a b < 0)
  | [], [] => rfl
  | [], _ :: _ => by simp [Op.bytesLess, Lib.compareBytes]
  | _ :: _, [] => by simp [Op.bytesLess, Lib.compareBytes]
  | x :: a, y :: b => by
    have ih := less_cmp a b
    unfold Op.bytesLess Lib.compareBytes
    by_cases h1 : x < y
    · simp [h1]
    · by_cases h2 : y < x
      · have hne : (x == y) = false := by
          rw [beq_eq_false_iff_ne]; rintro rfl; rw [UInt8.lt_iff_toNat_lt] at h2; omega
        rw [if_neg h1, if_pos h2, hne]
        simp [h1]
      · have e : x = y := UInt8.toNat_inj.1 (by rw [UInt8.lt_iff_toNat_lt] at h1 h2; omega)
        rw [if_neg h1, if_neg h2, ← ih, e]
        simp

/-- The order of two fields: that of their tags. (The number is there for the walks that were turned to fields.) -/
def K0 : Nat := 0
def kcmp : Nat → Fld → Fld → Int := fun _ x y => Lib.compareBytes x.tag y.tag
theorem kcmp_neg (k : Nat) (a b : Fld) : kcmp k a b = - kcmp k b a := cmp_neg _ _
theorem kcmp_trans (k : Nat) (a b c : Fld) (h1 : kcmp k a b ≤ 0) (h2 : kcmp k b c ≤ 0) : kcmp k a c ≤ 0 ∧ ((kcmp k a b < 0 ∨ kcmp k b c < 0) → kcmp k a c < 0) := cmp_trans _ _ _ h1 h2
theorem kcmp_tag (k : Nat) {x y : Fld} (h : kcmp k x y < 0) : x.tag ≠ y.tag := fun e => by
  have h0 := (cmp_eq x.tag y.tag).2 e
  unfold kcmp at h
  omega
def kle (m : Nat) (x y : Fld) : Prop := kcmp m x y ≤ 0
theorem kle_of_not (m : Nat) {x y : Fld} (h : ¬ kcmp m y x < 0) : kle m x y := by
  have := kcmp_neg m x y
  unfold kle
  omega
theorem kle_of_lt (m : Nat) {x y : Fld} (h : kcmp m x y < 0) : kle m x y := by unfold kle; omega
theorem kle_trans (m : Nat) {x y z : Fld} (h : kle m x y) (k : kle m y z) : kle m x z := (kcmp_trans m x y z h k).1
theorem kle_refl (m : Nat) (x : Fld) : kle m x x := by
  have := kcmp_neg m x x
  unfold kle
  omega
def SortedK (m : Nat) (l : List Fld) : Prop := l.Pairwise (kle m)
def tagged (T : List UInt8) (l : List Fld) : List Fld := l.filter fun f => decide (f.tag = T)
theorem tagged_append (T : List UInt8) (a b : List Fld) : tagged T (a ++ b) = tagged T a ++ tagged T b := by simp [tagged]
theorem tagged_cons (T : List UInt8) (x : Fld) (a : List Fld) : tagged T (x :: a) = if x.tag = T then x :: tagged T a else tagged T a := by
  unfold tagged
  rw [List.filter_cons]
  by_cases h : x.tag = T <;> simp [h]
theorem tagged_none {T : List UInt8} {l : List Fld} (h : ∀ x ∈ l, x.tag ≠ T) : tagged T l = [] := by
  unfold tagged
  rw [List.filter_eq_nil_iff]
  intro x hx
  simpa using h x hx
/-- The same fields, and of each tag the same in their order. -/
structure _root_.List.Stab (a b : List Fld) : Prop where
  perm : a.Perm b
  filt : ∀ T, tagged T a = tagged T b
theorem _root_.List.Stab.refl (a : List Fld) : a.Stab a := ⟨List.Perm.refl _, fun _ => rfl⟩
theorem _root_.List.Stab.symm {a b : List Fld} (h : a.Stab b) : b.Stab a := ⟨h.perm.symm, fun T => (h.filt T).symm⟩
theorem _root_.List.Stab.trans {a b c : List Fld} (h : a.Stab b) (k : b.Stab c) : a.Stab c := ⟨h.perm.trans k.perm, fun T => (h.filt T).trans (k.filt T)⟩
theorem _root_.List.Stab.append {a b c d : List Fld} (h : a.Stab b) (k : c.Stab d) : (a ++ c).Stab (b ++ d) := ⟨h.perm.append k.perm, fun T => by rw [tagged_append, tagged_append, h.filt T, k.filt T]⟩
theorem _root_.List.Stab.append_left (a : List Fld) {c d : List Fld} (k : c.Stab d) : (a ++ c).Stab (a ++ d) := (List.Stab.refl a).append k
theorem _root_.List.Stab.append_right {a b : List Fld} (c : List Fld) (k : a.Stab b) : (a ++ c).Stab (b ++ c) := k.append (List.Stab.refl c)
theorem _root_.List.Stab.length_eq {a b : List Fld} (h : a.Stab b) : a.length = b.length := h.perm.length_eq
theorem _root_.List.Stab.subset {a b : List Fld} (h : a.Stab b) : a ⊆ b := h.perm.subset
/-- Two lists that share no tag may change places. -/
theorem stab_comm {a b : List Fld} (h : ∀ x ∈ a, ∀ y ∈ b, x.tag ≠ y.tag) : (a ++ b).Stab (b ++ a) := by
  refine ⟨List.perm_append_comm, fun T => ?_⟩
  rw [tagged_append, tagged_append]
  by_cases h1 : ∃ x ∈ a, x.tag = T
  · obtain ⟨x, hx, e⟩ := h1
    rw [tagged_none (l := b) (fun y hy => e ▸ (h x hx y hy).symm)]
    simp
  · rw [tagged_none (l := a) (fun x hx e => h1 ⟨x, hx, e⟩)]
    simp
theorem stab_swap {z e : Fld} (h : z.tag ≠ e.tag) (r : List Fld) : (e :: z :: r).Stab (z :: e :: r) := by
  have := stab_comm (a := [e]) (b := [z]) (by intro x hx y hy; rw [List.mem_singleton.1 hx, List.mem_singleton.1 hy]; exact h.symm)
  exact this.append_right r
theorem sorted_ins (m : Nat) {L1 L2 : List Fld} {e : Fld} (h : SortedK m (L1 ++ L2)) (h1 : ∀ z ∈ L1, kle m z e) (h2 : ∀ z ∈ L2, kle m e z) : SortedK m (L1 ++ e :: L2) := by
  unfold SortedK at *
  rw [List.pairwise_append] at h ⊢
  refine ⟨h.1, List.pairwise_cons.2 ⟨h2, h.2.1⟩, ?_⟩
  intro a ha b hb
  rcases List.mem_cons.1 hb with rfl | hb
  · exact h1 a ha
  · exact h.2.2 a ha b hb
theorem sorted_last (m : Nat) {L : List Fld} {z e : Fld} (h : SortedK m (L ++ [z])) (hz : kle m z e) : ∀ a ∈ L ++ [z], kle m a e := by
  intro a ha
  unfold SortedK at h
  rw [List.pairwise_append] at h
  rcases List.mem_append.1 ha with ha | ha
  · exact kle_trans m (h.2.2 a ha z (by simp)) hz
  · rw [List.mem_singleton.1 ha]; exact hz
/-- There is one stable order alone. -/
theorem stab_unique (m : Nat) : ∀ (a b : List Fld), a.Stab b → SortedK m a → SortedK m b → a = b
  | [], b, hp, _, _ => (List.perm_nil.1 hp.perm.symm).symm
  | x :: a, b, hp, ha, hb => by
    cases b with
    | nil => exact absurd hp.length_eq (by simp)
    | cons y b =>
      have hx : x ∈ y :: b := hp.subset (by simp)
      have hy : y ∈ x :: a := hp.symm.subset (by simp)
      have l1 : kle m y x := by
        rcases List.mem_cons.1 hx with e | h1
        · rw [e]; exact kle_refl m y
        · exact (List.pairwise_cons.1 hb).1 x h1
      have l2 : kle m x y := by
        rcases List.mem_cons.1 hy with e | h1
        · rw [e]; exact kle_refl m x
        · exact (List.pairwise_cons.1 ha).1 y h1
      have ht : x.tag = y.tag := (cmp_eq _ _).1 (by
        have h3 := kcmp_neg m x y
        unfold kle at l1 l2
        show kcmp m x y = 0
        omega)
      have hf := hp.filt x.tag
      rw [tagged_cons, tagged_cons, if_pos rfl, if_pos ht.symm] at hf
      have hxy : x = y := (List.cons.inj hf).1
      subst hxy
      have hs : a.Stab b := by
        refine ⟨(List.perm_cons x).1 hp.perm, fun T => ?_⟩
        have := hp.filt T
        rw [tagged_cons, tagged_cons] at this
        by_cases e : x.tag = T
        · rw [if_pos e, if_pos e] at this
          exact (List.cons.inj this).2
        · rwa [if_neg e, if_neg e] at this
      rw [stab_unique m a b hs (List.pairwise_cons.1 ha).2 (List.pairwise_cons.1 hb).2]
/-- The reference's way: each field in turn, behind the last one that is not greater. -/
def insT (l : List Fld) (f : Fld) : List Fld := (l.reverse.dropWhile fun x => decide (kcmp K0 f x < 0)).reverse ++ f :: (l.reverse.takeWhile fun x => decide (kcmp K0 f x < 0)).reverse
def sortR (l : List Fld) : List Fld := l.foldl insT []
theorem ins_split (l : List Fld) (f : Fld) : (l.reverse.dropWhile fun x => decide (kcmp K0 f x < 0)).reverse ++ (l.reverse.takeWhile fun x => decide (kcmp K0 f x < 0)).reverse = l := by
  rw [← List.reverse_append, List.takeWhile_append_dropWhile, List.reverse_reverse]
theorem insT_len (l : List Fld) (f : Fld) : (insT l f).length = l.length + 1 := by
  have := congrArg List.length (ins_split l f)
  unfold insT
  simp only [List.length_append, List.length_cons] at this ⊢
  omega
theorem insT_good (l : List Fld) (f : Fld) (h : SortedK K0 l) : SortedK K0 (insT l f) ∧ (insT l f).Stab (l ++ [f]) := by
  have hs := ins_split l f
  obtain ⟨A, hA⟩ : ∃ A, A = (l.reverse.dropWhile fun x => decide (kcmp K0 f x < 0)).reverse := ⟨_, rfl⟩
  obtain ⟨C, hC⟩ : ∃ C, C = (l.reverse.takeWhile fun x => decide (kcmp K0 f x < 0)).reverse := ⟨_, rfl⟩
  unfold insT
  rw [← hA, ← hC] at hs ⊢
  have hc : ∀ z ∈ C, kcmp K0 f z < 0 := by
    intro z hz
    rw [hC, List.mem_reverse] at hz
    have := List.all_takeWhile (p := fun x => decide (kcmp K0 f x < 0)) (l := l.reverse)
    simpa using List.all_eq_true.1 this z hz
  have ha : ∀ z ∈ A, kle K0 z f := by
    rcases hd : (l.reverse.dropWhile fun x => decide (kcmp K0 f x < 0)) with _ | ⟨y, r⟩
    · rw [hd] at hA
      rw [hA]
      simp
    · have hy : ¬ kcmp K0 f y < 0 := by
        have := List.head?_dropWhile_not (fun x => decide (kcmp K0 f x < 0)) l.reverse
        rw [hd] at this
        simpa using this
      rw [hd, List.reverse_cons] at hA
      rw [hA]
      refine sorted_last K0 ?_ (kle_of_not K0 hy)
      rw [← hA]
      rw [← hs] at h
      exact (List.pairwise_append.1 h).1
  constructor
  · exact sorted_ins K0 (by rw [hs]; exact h) ha (fun z hz => kle_of_lt K0 (hc z hz))
  · rw [← hs, List.append_assoc]
    refine List.Stab.append_left A ?_
    exact stab_comm (a := [f]) (b := C) (by intro x hx y hy; rw [List.mem_singleton.1 hx]; exact kcmp_tag K0 (hc y hy))
theorem sortR_good : ∀ (r l : List Fld), SortedK K0 l → SortedK K0 (r.foldl insT l) ∧ (r.foldl insT l).Stab (l ++ r)
  | [], l, h => by simpa using ⟨h, List.Stab.refl l⟩
  | f :: r, l, h => by
    obtain ⟨h1, h2⟩ := insT_good l f h
    obtain ⟨h3, h4⟩ := sortR_good r (insT l f) h1
    rw [List.foldl_cons]
    refine ⟨h3, h4.trans ?_⟩
    have := h2.append_right r
    simpa using this
/-- A stable order is the reference's. -/
theorem sort_eq {x l : List Fld} (hs : SortedK K0 x) (hp : x.Stab l) : x = sortR l := by
  obtain ⟨h1, h2⟩ := sortR_good l [] List.Pairwise.nil
  exact stab_unique K0 _ _ (hp.trans (by simpa [sortR] using h2.symm)) hs h1
end Go.Proofs.YtkfjeolpbopcnaaGreatDoor
namespace Go.Proofs.YtkfjeolpbopcnaaGreatDoor
open Go Go.RowKit

/-- A field is written into four cells. -/
def put4 (w : World) (b o : Nat) (f : Fld) : World := (((w.setCell ⟨b, o, none⟩ (.string (lb f.tag))).setCell ⟨b, o + 1, none⟩ (.string (lb f.ind))).setCell ⟨b, o + 2, none⟩ (.slice f.sa f.subs.length f.sc)).setCell ⟨b, o + 3, none⟩ (.int .i64 f.auth)
theorem put4_size (w : World) (b o : Nat) (f : Fld) : (put4 w b o f).heap.size = w.heap.size := by
  unfold put4
  rw [World.size_setCell, World.size_setCell, World.size_setCell, World.size_setCell]
theorem put4_frozen (w : World) (b o : Nat) (f : Fld) (p : Addr) : (put4 w b o f).frozen? p = w.frozen? p := by
  unfold put4
  rw [World.frozen?_setCell, World.frozen?_setCell, World.frozen?_setCell, World.frozen?_setCell]
theorem put4_below {B : Nat} {a w : World} (h : Below B a w) {b : Nat} (hb : B ≤ b) (o : Nat) (f : Fld) : Below B a (put4 w b o f) :=
  (((h.setCell (p := ⟨b, o, none⟩) hb _).setCell (p := ⟨b, o + 1, none⟩) hb _).setCell (p := ⟨b, o + 2, none⟩) hb _).setCell (p := ⟨b, o + 3, none⟩) hb _
theorem put4_other {w : World} {b o b' j : Nat} {f : Fld} (h : b ≠ b' ∨ j < o ∨ o + 4 ≤ j) : (put4 w b o f).cell? ⟨b', j, none⟩ = w.cell? ⟨b', j, none⟩ := by
  unfold put4
  rw [cell_away (by omega), cell_away (by omega), cell_away (by omega), cell_away (by omega)]
theorem put4_four {w : World} {b o o' : Nat} {f g : Fld} (h : Four w b o' g) (ho : o' + 4 ≤ o ∨ o + 4 ≤ o') : Four (put4 w b o f) b o' g :=
  ⟨(put4_other (by omega)).trans h.c0, (put4_other (by omega)).trans h.c1, (put4_other (by omega)).trans h.c2, (put4_other (by omega)).trans h.c3⟩
theorem put4_same {w : World} {b o : Nat} {f g : Fld} (h : Four w b o g) : Four (put4 w b o f) b o f := by
  have s0 : (w.cell? ⟨b, o, none⟩).isSome = true := by rw [h.c0]; rfl
  have s1 : (w.cell? ⟨b, o + 1, none⟩).isSome = true := by rw [h.c1]; rfl
  have s2 : (w.cell? ⟨b, o + 2, none⟩).isSome = true := by rw [h.c2]; rfl
  have s3 : (w.cell? ⟨b, o + 3, none⟩).isSome = true := by rw [h.c3]; rfl
  unfold put4
  refine ⟨?_, ?_, ?_, ?_⟩
  · rw [cell_away (by omega), cell_away (by omega), cell_away (by omega), cell_here s0]
  · rw [cell_away (by omega), cell_away (by omega), cell_here (by rw [cell_away (by omega)]; exact s1)]
  · rw [cell_away (by omega), cell_here (by rw [cell_away (by omega), cell_away (by omega)]; exact s2)]
  · rw [cell_here (by rw [cell_away (by omega), cell_away (by omega), cell_away (by omega)]; exact s3)]
/-- While a list is sorted: the older blocks are as they were, the row holds l. -/
structure SInv (w0 : World) (blk : Nat) (w : World) (l : List Fld) : Prop where
  below : Below w0.heap.size w0 w
  bl : blk < w.heap.size
  b0 : w0.heap.size ≤ blk
  hold : ∀ j x, l[j]? = some x → Four w blk (j * 4) x
  frz : ∀ t, w.frozen? ⟨blk, t, none⟩ = false
  good : ∀ x ∈ l, FldAt w0 x
section
variable {w0 w w' : World} {blk : Nat} {l : List Fld}
theorem SInv.step (h : SInv w0 blk w l) (b : Below w.heap.size w w') : SInv w0 blk w' l :=
  ⟨h.below.trans (b.mono h.below.size), Nat.lt_of_lt_of_le h.bl b.size, h.b0, fun j x hx => (h.hold j x hx).below b h.bl, fun t => (b.frozen (p := ⟨blk, t, none⟩) h.bl).trans (h.frz t), h.good⟩
theorem SInv.drew (h : SInv w0 blk w l) : SInv w0 blk w.drew l := h.step (Below.refl _ _).drew
theorem SInv.eq (h : SInv w0 blk w l) {k : List Fld} (e : l = k) : SInv w0 blk w k := e ▸ h
theorem SInv.at (h : SInv w0 blk w l) {A C : List Fld} {x : Fld} (e : l = A ++ x :: C) {i : Nat} (hi : i = A.length) : Four w blk (i * 4) x := h.hold i x (by rw [e, hi]; simp)
theorem swap_list {A B C : List Fld} {x y : Fld} {i j : Nat} (hi : i = A.length) (hj : j = A.length + 1 + B.length) : A ++ y :: (B ++ x :: C) = ((A ++ x :: (B ++ y :: C)).set i y).set j x := by
  subst hi hj
  rw [List.set_append_right _ _ (Nat.le_refl _), Nat.sub_self, List.set_cons_zero, List.set_append_right _ _ (by omega), show A.length + 1 + B.length - A.length = B.length + 1 by omega, List.set_cons_succ, List.set_append_right _ _ (Nat.le_refl _), Nat.sub_self, List.set_cons_zero]
theorem SInv.swap {A B C : List Fld} {x y : Fld} (h : SInv w0 blk w (A ++ x :: (B ++ y :: C))) {i j : Nat} (hi : i = A.length) (hj : j = A.length + 1 + B.length) :
    SInv w0 blk (put4 (put4 w blk (i * 4) y) blk (j * 4) x) (A ++ y :: (B ++ x :: C)) := by
  have ci := h.at rfl hi
  have cj := h.at (A := A ++ x :: B) (x := y) (C := C) (by simp) (i := j) (by simp; omega)
  have hij : i + 1 ≤ j := by omega
  refine ⟨put4_below (put4_below h.below h.b0 _ _) h.b0 _ _, by rw [put4_size, put4_size]; exact h.bl, h.b0, ?_, fun t => by rw [put4_frozen, put4_frozen]; exact h.frz t, ?_⟩
  · intro k z hz
    have hlen : (A ++ y :: (B ++ x :: C)).length = (A ++ x :: (B ++ y :: C)).length := by simp
    have hk : k < (A ++ x :: (B ++ y :: C)).length := by rw [← hlen]; exact (List.getElem?_eq_some_iff.1 hz).1
    rw [swap_list hi hj] at hz
    by_cases hkj : k = j
    · subst hkj
      rw [List.getElem?_set_self (by rw [List.length_set]; exact hk)] at hz
      cases hz
      exact put4_same (put4_four cj (by omega))
    · rw [List.getElem?_set_ne (fun e => hkj e.symm)] at hz
      by_cases hki : k = i
      · subst hki
        rw [List.getElem?_set_self hk] at hz
        cases hz
        exact put4_four (put4_same ci) (by omega)
      · rw [List.getElem?_set_ne (fun e => hki e.symm)] at hz
        exact put4_four (put4_four (h.hold k z hz) (by omega)) (by omega)
  · intro z hz
    refine h.good z ?_
    simp only [List.mem_append, List.mem_cons] at hz ⊢
    rcases hz with e | e | e | e | e
    · exact .inl e
    · exact .inr (.inr (.inr (.inl e)))
    · exact .inr (.inr (.inl e))
    · exact .inr (.inl e)
    · exact .inr (.inr (.inr (.inr e)))
theorem SInv.swap' {A B C : List Fld} {x y : Fld} (h : SInv w0 blk w (A ++ x :: (B ++ y :: C))) {i j : Nat} (hi : i = A.length) (hj : j = A.length + 1 + B.length) :
    SInv w0 blk (put4 (put4 w blk (j * 4) x) blk (i * 4) y) (A ++ y :: (B ++ x :: C)) := by
  have ci := h.at rfl hi
  have cj := h.at (A := A ++ x :: B) (x := y) (C := C) (by simp) (i := j) (by simp; omega)
  have hij : i + 1 ≤ j := by omega
  refine ⟨put4_below (put4_below h.below h.b0 _ _) h.b0 _ _, by rw [put4_size, put4_size]; exact h.bl, h.b0, ?_, fun t => by rw [put4_frozen, put4_frozen]; exact h.frz t, ?_⟩
  · intro k z hz
    have hlen : (A ++ y :: (B ++ x :: C)).length = (A ++ x :: (B ++ y :: C)).length := by simp
    have hk : k < (A ++ x :: (B ++ y :: C)).length := by rw [← hlen]; exact (List.getElem?_eq_some_iff.1 hz).1
    rw [swap_list hi hj] at hz
    by_cases hkj : k = j
    · subst hkj
      rw [List.getElem?_set_self (by rw [List.length_set]; exact hk)] at hz
      cases hz
      exact put4_four (put4_same cj) (by omega)
    · rw [List.getElem?_set_ne (fun e => hkj e.symm)] at hz
      by_cases hki : k = i
      · subst hki
        rw [List.getElem?_set_self hk] at hz
        cases hz
        exact put4_same (put4_four ci (by omega))
      · rw [List.getElem?_set_ne (fun e => hki e.symm)] at hz
        exact put4_four (put4_four (h.hold k z hz) (by omega)) (by omega)
  · intro z hz
    refine h.good z ?_
    simp only [List.mem_append, List.mem_cons] at hz ⊢
    rcases hz with e | e | e | e | e
    · exact .inl e
    · exact .inr (.inr (.inr (.inl e)))
    · exact .inr (.inr (.inl e))
    · exact .inr (.inl e)
    · exact .inr (.inr (.inr (.inr e)))
end
end Go.Proofs.YtkfjeolpbopcnaaGreatDoor
namespace Go.Proofs.YtkfjeolpbopcnaaGreatDoor
open Go Go.RowKit

set_option maxRecDepth 100000 in
set_option maxHeartbeats 4000000 in
theorem sSwapRange {w0 w : World} {blk : Nat} {p x q y s : List Fld} (h : SInv w0 blk w (p ++ (x ++ (q ++ (y ++ s))))) (hxy : x.length = y.length)
    (n cap a b c : Nat) (hn : n = (p ++ (x ++ (q ++ (y ++ s)))).length) (hn2 : n ≤ 1000) (ha : a = p.length) (hb : b = a + x.length + q.length) (hc : c = x.length) (fv : Value) :
    Calls Tryz.prog 130 #[.slice (some ⟨blk, 0, none⟩) n cap, .int .i64 a, .int .i64 b, .int .i64 c, fv] w fun e w' => e = .returned (.tuple #[]) ∧ SInv w0 blk w' (p ++ (y ++ (q ++ (x ++ s)))) := by
  have hlen : n = a + c + q.length + c + s.length := by rw [hn]; simp; omega
  have hb2 : a + c ≤ b ∧ b ≤ a + c + q.length ∧ a + c + q.length ≤ b ∧ b + c ≤ n := by omega
  have HI : Hid (SInv w0 blk w (p ++ (x ++ (q ++ (y ++ s))))) := Lib.hid h
  have HL := Lib.hid (And.intro hxy (And.intro ha (And.intro hb hc)))
  clear h hxy ha hb hc hn hlen
  go_enter Tryz.func130, Tryz.ntmps130
  go_wp2
  go_loopw [10] (fun i wr => ∃ k : Nat, i = .int .i64 k ∧ k ≤ c ∧ Hid (SInv w0 blk wr (p ++ (y.take k ++ (x.drop k ++ (q ++ (x.take k ++ (y.drop k ++ s)))))))) (fun i _ => c - (intOf i).toNat)
  case atStart => exact ⟨0, rfl, by omega, by simpa using HI⟩
  case round =>
    obtain ⟨k, rfl, hk, HK⟩ := hrel
    by_cases hlt : k < c
    · have hltz : (k : Int) < (c : Int) := by omega
      obtain ⟨hxy, ha, hb, hc⟩ := HL.out
      obtain ⟨xk, hxk⟩ : ∃ v, x[k]? = some v := ⟨_, List.getElem?_eq_getElem (by omega)⟩
      obtain ⟨yk, hyk⟩ : ∃ v, y[k]? = some v := ⟨_, List.getElem?_eq_getElem (by omega)⟩
      have dx : x.drop k = xk :: x.drop (k + 1) := by obtain ⟨h', rfl⟩ := List.getElem?_eq_some_iff.1 hxk; exact List.drop_eq_getElem_cons h'
      have dy : y.drop k = yk :: y.drop (k + 1) := by obtain ⟨h', rfl⟩ := List.getElem?_eq_some_iff.1 hyk; exact List.drop_eq_getElem_cons h'
      have tx : x.take (k + 1) = x.take k ++ [xk] := by rw [List.take_add_one, hxk]; rfl
      have ty : y.take (k + 1) = y.take k ++ [yk] := by rw [List.take_add_one, hyk]; rfl
      have e1 : p ++ (y.take k ++ (x.drop k ++ (q ++ (x.take k ++ (y.drop k ++ s))))) = (p ++ y.take k) ++ xk :: ((x.drop (k + 1) ++ (q ++ x.take k)) ++ yk :: (y.drop (k + 1) ++ s)) := by rw [dx, dy]; simp
      have e2 : (p ++ y.take k) ++ yk :: ((x.drop (k + 1) ++ (q ++ x.take k)) ++ xk :: (y.drop (k + 1) ++ s)) = p ++ (y.take (k + 1) ++ (x.drop (k + 1) ++ (q ++ (x.take (k + 1) ++ (y.drop (k + 1) ++ s))))) := by rw [tx, ty]; simp
      have i1 : a + k = (p ++ y.take k).length := by simp; omega
      have i2 : b + k = (p ++ y.take k).length + 1 + (x.drop (k + 1) ++ (q ++ x.take k)).length := by simp; omega
      have hS := HK.out.eq e1
      obtain ⟨c10, c11, c12, c13⟩ := hS.at rfl i1
      obtain ⟨c20, c21, c22, c23⟩ := hS.at (A := (p ++ y.take k) ++ xk :: (x.drop (k + 1) ++ (q ++ x.take k))) (x := yk) (C := y.drop (k + 1) ++ s) (by simp) (i := b + k) (by rw [i2]; simp; omega)
      have fz := hS.frz
      have f10 := fz ((a + k) * 4)
      have f11 := fz ((a + k) * 4 + 1)
      have f12 := fz ((a + k) * 4 + 2)
      have f13 := fz ((a + k) * 4 + 3)
      have f20 := fz ((b + k) * 4)
      have f21 := fz ((b + k) * 4 + 1)
      have f22 := fz ((b + k) * 4 + 2)
      have f23 := fz ((b + k) * 4 + 3)
      have HS := Lib.hid (And.intro hS (And.intro e2 (And.intro i1 i2)))
      clear hxy ha hb hc hxk hyk dx dy tx ty e1 e2 i1 i2 hS fz
      go_wp2_with fail
      go_region
      all_goals go_wp2
      go_roundw
      case rel => exact ⟨k + 1, by go_num, by omega, Lib.hid (((HS.out.1.swap HS.out.2.2.1 HS.out.2.2.2).drew).eq HS.out.2.1)⟩
      case measure => simp [intOf]; omega
    · have hltz : ¬ (k : Int) < (c : Int) := by omega
      have hkc : k = c := by omega
      have HE : Hid (SInv w0 blk wr (p ++ (y ++ (q ++ (x ++ s))))) := Lib.hid (HK.out.eq (by
        obtain ⟨hxy, ha, hb, hc⟩ := HL.out
        rw [hkc, List.take_of_length_le (by omega), List.drop_eq_nil_of_le (by omega), List.take_of_length_le (by omega), List.drop_eq_nil_of_le (by omega)]; simp))
      clear HK hkc
      go_wp2
      go_end0
      exact ⟨rfl, HE.out⟩
end Go.Proofs.YtkfjeolpbopcnaaGreatDoor
namespace Go.Proofs.YtkfjeolpbopcnaaGreatDoor
open Go Go.RowKit

set_option maxRecDepth 100000 in
set_option maxHeartbeats 400000 in
theorem sRotate {w0 w : World} {blk : Nat} {p u v s : List Fld} (h : SInv w0 blk w (p ++ (u ++ (v ++ s)))) (hu : u ≠ []) (hv : v ≠ [])
    (n cap a m b : Nat) (hn : n = (p ++ (u ++ (v ++ s))).length) (hn2 : n ≤ 1000) (ha : a = p.length) (hm : m = a + u.length) (hb : b = m + v.length) (fv : Value) :
    Calls Tryz.prog 119 #[.slice (some ⟨blk, 0, none⟩) n cap, .int .i64 a, .int .i64 m, .int .i64 b, fv] w fun e w' => e = .returned (.tuple #[]) ∧ SInv w0 blk w' (p ++ (v ++ (u ++ s))) := by
  have hlen : n = a + u.length + v.length + s.length := by rw [hn]; simp; omega
  have hu0 : 0 < u.length := List.length_pos_iff.2 hu
  have hv0 : 0 < v.length := List.length_pos_iff.2 hv
  obtain ⟨d1, hd1⟩ : ∃ d1, m - a = d1 := ⟨_, rfl⟩
  obtain ⟨d2, hd2⟩ : ∃ d2, b - m = d2 := ⟨_, rfl⟩
  have hb2 : a ≤ m ∧ m ≤ b ∧ b ≤ n ∧ m ≤ n := by omega
  have HI : Hid (SInv w0 blk w (p ++ (u ++ (v ++ s)))) := Lib.hid h
  have HL := Lib.hid (And.intro hn (And.intro ha (And.intro hm (And.intro hb (And.intro hu0 hv0)))))
  clear h ha hm hb hn hlen hu hv hd1 hd2 d1 d2
  go_enter Tryz.func119, Tryz.ntmps119
  go_wp2
  -- i elements left of m and j right of m are still to be exchanged: p0 ++ u0 ++ v0 ++ s0, u0 of length i, v0 of length j
  go_loopw [10, 11] (fun vi vj wr => ∃ i j : Nat, vi = .int .i64 i ∧ vj = .int .i64 j ∧ 0 < i ∧ 0 < j ∧ i ≤ m ∧ m + j ≤ n ∧ Hid (∃ p0 u0 v0 s0, SInv w0 blk wr (p0 ++ (u0 ++ (v0 ++ s0))) ∧ u0.length = i ∧ v0.length = j ∧ p0.length + i = m ∧ p0 ++ (v0 ++ (u0 ++ s0)) = p ++ (v ++ (u ++ s)))) (fun vi vj _ => (intOf vi).toNat + (intOf vj).toNat)
  case atStart =>
    obtain ⟨hn, ha, hm, hb, hu0, hv0⟩ := HL.out
    exact ⟨u.length, v.length, by go_num, by go_num, hu0, hv0, by omega, by omega, Lib.hid ⟨p, u, v, s, HI.out, rfl, rfl, by omega, rfl⟩⟩
  case round =>
    obtain ⟨i, j, rfl, rfl, hi, hj, him, hjn, HK⟩ := hrel
    by_cases hij : i = j
    · subst hij
      obtain ⟨p0, u0, v0, s0, hS, hul, hvl, hpl, he⟩ := HK.out
      have hc := sSwapRange (p := p0) (x := u0) (q := []) (y := v0) (s := s0) hS (by omega) n cap (m - i) m i (by rw [(HL.out).1]; have := congrArg List.length he; simp at this ⊢; omega) hn2 (by omega) (by simp; omega) (by omega) fv
      rw [show ((m - i : Nat) : Int) = (m : Int) - (i : Int) by omega] at hc
      have HC := Lib.hid hc
      have HE : Hid (p0 ++ (v0 ++ (u0 ++ s0)) = p ++ (v ++ (u ++ s))) := Lib.hid he
      clear hS hul hvl hpl he hc
      go_wp2_with fail
      refine HC.out.mono ?_
      rintro e w1 ⟨rfl, h1⟩
      go_wp2
      go_end0
      exact ⟨rfl, h1.eq (by simpa using HE.out)⟩
    · by_cases hgt : j < i
      · obtain ⟨p0, u0, v0, s0, hS, hul, hvl, hpl, he⟩ := HK.out
        -- the first j of u0 change places with v0
        have hc := sSwapRange (p := p0) (x := u0.take j) (q := u0.drop j) (y := v0) (s := s0) (hS.eq (by rw [← List.append_assoc (u0.take j), List.take_append_drop])) (by simp; omega) n cap (m - i) m j (by rw [(HL.out).1]; have := congrArg List.length he; simp at this ⊢; omega) hn2 (by omega) (by simp; omega) (by simp; omega) fv
        rw [show ((m - i : Nat) : Int) = (m : Int) - (i : Int) by omega] at hc
        have HC := Lib.hid hc
        have HE := Lib.hid (And.intro hul (And.intro hvl (And.intro hpl he)))
        clear hS hul hvl hpl he hc
        go_wp2_with fail
        refine HC.out.mono ?_
        rintro e w1 ⟨rfl, h1⟩
        have H1 := Lib.hid h1
        clear h1
        go_wp2
        go_roundw
        case rel =>
          obtain ⟨hul, hvl, hpl, he⟩ := HE.out
          exact ⟨i - j, j, by go_num, rfl, by omega, hj, by omega, hjn, Lib.hid ⟨p0 ++ v0, u0.drop j, u0.take j, s0, H1.out.eq (by rw [List.append_assoc]), by simp; omega, by simp; omega, by simp; omega, by rw [← he, ← List.append_assoc (u0.take j), List.take_append_drop, List.append_assoc]⟩⟩
        case measure => simp [intOf]; omega
      · have hlt : i < j := by omega
        obtain ⟨p0, u0, v0, s0, hS, hul, hvl, hpl, he⟩ := HK.out
        -- u0 changes places with the last i of v0
        have hc := sSwapRange (p := p0) (x := u0) (q := v0.take (j - i)) (y := v0.drop (j - i)) (s := s0) (hS.eq (by rw [← List.append_assoc (v0.take (j - i)), List.take_append_drop])) (by simp; omega) n cap (m - i) (m + j - i) i (by rw [(HL.out).1]; have := congrArg List.length he; simp at this ⊢; omega) hn2 (by omega) (by simp; omega) (by omega) fv
        rw [show ((m - i : Nat) : Int) = (m : Int) - (i : Int) by omega, show ((m + j - i : Nat) : Int) = (m : Int) + (j : Int) - (i : Int) by omega] at hc
        have HC := Lib.hid hc
        have HE := Lib.hid (And.intro hul (And.intro hvl (And.intro hpl he)))
        clear hS hul hvl hpl he hc
        go_wp2_with fail
        refine HC.out.mono ?_
        rintro e w1 ⟨rfl, h1⟩
        have H1 := Lib.hid h1
        clear h1
        go_wp2
        go_roundw
        case rel =>
          obtain ⟨hul, hvl, hpl, he⟩ := HE.out
          exact ⟨i, j - i, rfl, by go_num, hi, by omega, him, by omega, Lib.hid ⟨p0, v0.drop (j - i), v0.take (j - i), u0 ++ s0, H1.out, by simp; omega, by simp; omega, by omega, by rw [← he, ← List.append_assoc (v0.take (j - i)), List.take_append_drop]⟩⟩
        case measure => simp [intOf]; omega
end Go.Proofs.YtkfjeolpbopcnaaGreatDoor
