/- Slices of strings in memory: what it is that a value reads as a list of strings, and that it stays so while older blocks stay as they are; worlds that differ by draws alone. -/
import Derived.Test.YtkfjeolpbopcnaaGreatDoorTxtb
import Derived.Test.YtkfjeolpbopcnaaGreatDoorProg
import Derived.WalkKit
import Derived.Deep.QuietTactic
import Derived.Lib.Hide
namespace Go.Proofs.YtkfjeolpbopcnaaGreatDoor
open Go Go.RowKit

theorem retb {a b : Bool} (h : a = b) : Ending.returned (.bool a) = .returned (.bool b) := by rw [h]
theorem rets {a b : ByteArray} (h : a = b) : Ending.returned (.string a) = .returned (.string b) := by rw [h]
/-- Nothing but draws. -/
def Dr (w w' : World) : Prop := ∃ n, w' = w.drewN n
theorem Dr.refl (w : World) : Dr w w := ⟨0, rfl⟩
theorem drewN_drewN (w : World) : ∀ m n, (w.drewN n).drewN m = w.drewN (n + m)
  | 0, _ => rfl
  | m + 1, n => by
    show ((w.drewN n).drewN m).drew = _
    rw [drewN_drewN w m n]; rfl
theorem Dr.trans {a b c : World} (h : Dr a b) (k : Dr b c) : Dr a c := by
  obtain ⟨n, rfl⟩ := h
  obtain ⟨m, rfl⟩ := k
  exact ⟨n + m, drewN_drewN a m n⟩
theorem Dr.drew {a b : World} (h : Dr a b) : Dr a b.drew := by
  obtain ⟨n, rfl⟩ := h
  exact ⟨n + 1, rfl⟩
theorem Dr.below {a b : World} (h : Dr a b) (B : Nat) : Below B a b := by
  obtain ⟨n, rfl⟩ := h
  induction n with
  | zero => exact Below.refl _ _
  | succ n ih => exact ih.drew
theorem Dr.own {a b : World} (h : Dr a b) {base : Nat} {e : TypeId} {size : Nat} {v : Value} {n : Nat} {xs : List Value} (hw : a.ownsRow base e size v n xs) : b.ownsRow base e size v n xs := by
  obtain ⟨m, rfl⟩ := h
  induction m with
  | zero => exact hw
  | succ m ih => exact ih
theorem Dr.heap {a b : World} (h : Dr a b) : b.heap = a.heap := by
  obtain ⟨m, rfl⟩ := h
  induction m with
  | zero => rfl
  | succ m ih => exact ih
theorem Dr.sizes {a b : World} (h : Dr a b) : b.heap.size = a.heap.size := by rw [h.heap]

end Go.Proofs.YtkfjeolpbopcnaaGreatDoor
namespace Go.RowKit
theorem Below.bt {a b c : World} (h : Below a.heap.size a b) (k : Below b.heap.size b c) : Below a.heap.size a c := h.trans (k.mono h.size)
end Go.RowKit
namespace Go.Proofs.YtkfjeolpbopcnaaGreatDoor
open Go Go.RowKit
/-- The value is a slice whose cells hold these strings. -/
def Strs (w : World) (v : Value) (xs : List ByteArray) : Prop :=
  ∃ (a : Option Addr) (c : Nat), v = .slice a xs.length c ∧ xs.length ≤ c ∧
    (xs = [] ∨ ∃ b o, a = some ⟨b, o, none⟩ ∧ b < w.heap.size ∧ ∀ j x, xs[j]? = some x → w.cell? ⟨b, o + j, none⟩ = some (.string x))
theorem Strs.below {w w' : World} {v : Value} {xs : List ByteArray} (h : Strs w v xs) {B : Nat} (hb : Below B w w') (hB : w.heap.size ≤ B) : Strs w' v xs := by
  obtain ⟨a, c, rfl, hc, h⟩ := h
  refine ⟨a, c, rfl, hc, ?_⟩
  rcases h with h | ⟨b, o, ha, hlt, hx⟩
  · exact .inl h
  · exact .inr ⟨b, o, ha, Nat.lt_of_lt_of_le hlt hb.size, fun j x hj => (hb.cell (p := ⟨b, o + j, none⟩) (by simp; omega)).trans (hx j x hj)⟩
theorem Strs.dr {w w' : World} {v : Value} {xs : List ByteArray} (h : Strs w v xs) (hd : Dr w w') : Strs w' v xs := h.below (hd.below w.heap.size) (Nat.le_refl _)
theorem Strs.of_own {w : World} {v : Value} {base : Nat} {e : TypeId} {xs : List ByteArray} {n : Nat} (h : w.ownsRow base e 1 v n (xs.map Value.string)) (hn : n = xs.length) : Strs w v xs := by
  subst hn
  rcases h.2 with ⟨rfl, h0⟩ | ⟨g, cap, cur, rfl, hg, hh, hc, _⟩
  · have : xs = [] := List.eq_nil_of_length_eq_zero h0
    subst this
    exact ⟨none, 0, rfl, Nat.le_refl _, .inl rfl⟩
  · refine ⟨_, cap, rfl, hc, .inr ⟨g, 0, rfl, ?_, ?_⟩⟩
    · exact (h.lt g rfl).2
    · intro j x hj
      have := h.cells (g := g) rfl j (.string x) (by rw [List.getElem?_map, hj]; rfl)
      by_cases h0 : j = 0
      · subst h0; simpa [Addr.add] using this
      · simpa [Addr.add, h0] using this
/-- A call returns a slice of these strings, and older memory is as it was. -/
def RetStrs (w : World) (xs : List ByteArray) (e : Ending) (w' : World) : Prop := ∃ v, e = .returned v ∧ Strs w' v xs ∧ Below w.heap.size w w'
theorem infoStr : (Tryz.prog.info? 9).map (fun i => (i.zero, i.size, i.bytes)) = some (some (.string ⟨#[]⟩), 1, 16) := by kernel_rfl
end Go.Proofs.YtkfjeolpbopcnaaGreatDoor
