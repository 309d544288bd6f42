/- Plain Lean: the first error of a subfield, a field, a record (layers 18, 16, 08). No program in sight. -/
import Derived.Test.YtkfjeolpbopcnaaGreatDoorMwr
import Derived.Shelf.Strings.SlTrimAscii
import Derived.Lib.Replace
namespace Go.Proofs.YtkfjeolpbopcnaaGreatDoor
open Go

def dgB (b : UInt8) : Bool := decide (48 ≤ b.toNat ∧ b.toNat ≤ 57)
def lowB (b : UInt8) : Bool := decide (97 ≤ b.toNat ∧ b.toNat ≤ 122)
def digSet : List UInt8 := [48, 49, 50, 51, 52, 53, 54, 55, 56, 57]
def lowSet : List UInt8 := [97, 98, 99, 100, 101, 102, 103, 104, 105, 106, 107, 108, 109, 110, 111, 112, 113, 114, 115, 116, 117, 118, 119, 120, 121, 122]
theorem dig_set (b : UInt8) : digSet.contains b = dgB b := by
  have h : ∀ n : Fin 256, digSet.contains (UInt8.ofNat n.val) = dgB (UInt8.ofNat n.val) := by decide +kernel
  have h2 := h ⟨b.toNat, by have := b.toNat_lt; omega⟩
  simpa using h2
theorem low_set (b : UInt8) : lowSet.contains b = lowB b := by
  have h : ∀ n : Fin 256, lowSet.contains (UInt8.ofNat n.val) = lowB (UInt8.ofNat n.val) := by decide +kernel
  have h2 := h ⟨b.toNat, by have := b.toNat_lt; omega⟩
  simpa using h2
theorem dropWhile_empty {α : Type} (p : α → Bool) (l : List α) : (l.dropWhile p).isEmpty = l.all p := by
  induction l with
  | nil => rfl
  | cons a l ih =>
    rw [List.dropWhile_cons, List.all_cons]
    cases h : p a with
    | true => simpa using ih
    | false => simp
theorem trim_set {set : List UInt8} {p : UInt8 → Bool} (hp : ∀ b, set.contains b = p b) (l : List UInt8) : (Lib.trimS l set).isEmpty = l.all p := by
  have hp : (fun b => set.contains b) = p := funext hp
  unfold Lib.trimS Lib.trimLeftS Lib.trimRightS
  rw [hp, dropWhile_empty]
  rw [Bool.eq_iff_iff]
  simp only [List.all_eq_true]
  constructor
  · intro h b hb
    by_cases hm : ∃ x ∈ l.reverse, p x = false
    · exfalso
      obtain ⟨x, hx, hxd⟩ := hm
      have hne : l.reverse.dropWhile p ≠ [] := by
        intro e
        have := dropWhile_empty p l.reverse
        rw [e] at this
        have h2 := List.all_eq_true.1 this.symm x hx
        rw [hxd] at h2; cases h2
      obtain ⟨y, t, hy⟩ := List.exists_cons_of_ne_nil hne
      have hyd : p y = false := by
        have := List.head_dropWhile_not p hne
        simpa [hy] using this
      have := h y (by rw [hy]; simp)
      rw [hyd] at this; cases this
    · cases hd : p b with
      | true => rfl
      | false => exact absurd ⟨b, List.mem_reverse.2 hb, hd⟩ hm
  · intro h b hb
    exact h b (List.mem_reverse.1 ((List.dropWhile_sublist _).subset (List.mem_reverse.1 hb)))
def noBlank (b : UInt8) : UInt8 := if b = 32 then 48 else b
theorem replace_two (x y : UInt8) : Lib.replaceAll [x, y] [32] [48] = [noBlank x, noBlank y] := by
  have e : ∀ z : UInt8, ((32 : UInt8) == z) = decide (z = 32) := fun z => by
    rw [Bool.eq_iff_iff, beq_iff_eq, decide_eq_true_eq]
    exact ⟨fun h => h.symm, fun h => h.symm⟩
  by_cases hx : x = 32 <;> by_cases hy : y = 32 <;>
    simp [Lib.replaceAll, Lib.replace, Lib.replaceNum, Lib.count, Lib.countFrom, Lib.index, Lib.replaceK, List.isPrefixOf, e, hx, hy, noBlank]
/-- A byte of the indicators. -/
def indB (b : UInt8) : Bool := b == 32 || dgB b
theorem noBlank_dg (b : UInt8) : dgB (noBlank b) = indB b := by
  unfold noBlank indB
  by_cases h : b = 32
  · rw [if_pos h, h]; rfl
  · rw [if_neg h]
    have : (b == 32) = false := by simpa using h
    rw [this]; rfl
/-- The code of a subfield. -/
def codeB (c : Nat) : Bool := decide (97 ≤ c ∧ c ≤ 122 ∨ 48 ≤ c ∧ c ≤ 57)
def subErr (s : Nat × ByteArray) : Int :=
  if codeB s.1 = false then 1 else if s.2.size = 0 then 8 else if isText s.2.data.toList = false then 3 else if 200 < s.2.size then 4 else 0
def subsErr : List (Nat × ByteArray) → Int
  | [] => 0
  | s :: r => if subErr s ≠ 0 then subErr s else subsErr r
def tagOk (t : List UInt8) : Bool := t.length == 3 && t.all dgB && !(Op.bytesLess t [48, 49, 48])
def indOk (i : List UInt8) : Bool := i.length == 2 && i.all indB
def fldErr (f : Fld) : Int :=
  if tagOk f.tag = false then 6 else if indOk f.ind = false then 3 else if f.subs.length = 0 then 8 else if 16 < f.subs.length then 4
  else if subsErr f.subs ≠ 0 then subsErr f.subs else if f.auth < 0 ∨ 9999 < f.auth then 2 else 0
def fldsErr : List Fld → Int
  | [] => 0
  | f :: r => if fldErr f ≠ 0 then fldErr f else fldsErr r
def langOk (l : ByteArray) : Bool := l.size == 3 && l.data.toList.all lowB
def recErr (r : Rec) : Int :=
  if r.id < 0 ∨ 9999 < r.id then 2 else if r.ver < 1 ∨ 3 < r.ver then 20 else if r.kind < 1 ∨ 4 < r.kind then 1
  else if langOk r.lang = false then 3 else if 64 < r.fields.length then 4 else fldsErr r.fields
theorem fldsErr_ind : ∀ {l : List Fld}, fldsErr l = 0 → ∀ f ∈ l, f.ind.length = 2 ∧ f.tag.length = 3
  | [], _, f, hf => by cases hf
  | g :: r, h, f, hf => by
    unfold fldsErr at h
    split at h
    · rename_i h1; exact absurd h h1
    · rename_i h1
      have h2 : fldErr g = 0 := Decidable.not_not.1 h1
      rcases List.mem_cons.1 hf with rfl | hf
      · unfold fldErr at h2
        split at h2
        · cases h2
        · rename_i h3
          split at h2
          · cases h2
          · rename_i h4
            have h5 : tagOk f.tag = true := by simpa using h3
            have h6 : indOk f.ind = true := by simpa using h4
            unfold tagOk at h5
            unfold indOk at h6
            simp only [Bool.and_eq_true, beq_iff_eq] at h5 h6
            exact ⟨h6.1, h5.1.1⟩
      · exact fldsErr_ind h f hf
theorem recErr_ok {r : Rec} (h : recErr r = 0) : (0 ≤ r.id ∧ r.id ≤ 9999) ∧ (r.ver = 1 ∨ r.ver = 2 ∨ r.ver = 3) ∧ (1 ≤ r.kind ∧ r.kind ≤ 4) ∧ langOk r.lang = true ∧ r.fields.length ≤ 64 ∧ fldsErr r.fields = 0 := by
  unfold recErr at h
  split at h
  · cases h
  split at h
  · cases h
  split at h
  · cases h
  split at h
  · cases h
  split at h
  · cases h
  rename_i h1 h2 h3 h4 h5
  exact ⟨by omega, by omega, by omega, by simpa using h4, by omega, h⟩
end Go.Proofs.YtkfjeolpbopcnaaGreatDoor
