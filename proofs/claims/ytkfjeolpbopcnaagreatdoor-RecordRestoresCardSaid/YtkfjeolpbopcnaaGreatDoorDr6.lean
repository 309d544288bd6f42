/- A region of RecordRestores that draws its order: the field is put back (layer 08). -/
import Derived.Test.YtkfjeolpbopcnaaGreatDoorEf
import Derived.Test.YtkfjeolpbopcnaaGreatDoorEg
import Derived.Test.YtkfjeolpbopcnaaGreatDoorDrp
import Derived.Deep.Quiet
namespace Go.Proofs.YtkfjeolpbopcnaaGreatDoor
open Go Go.RowKit

/-- What holds, whatever operations have come up. -/
structure rst_regionI (n1 : Nat) (n3 : Nat) (rid : Int) (ver : Int) (kind : Int) (lang : ByteArray) (n : Nat) (rc : Nat) (ba : Option Addr) (bn : Nat) (bc : Nat) (kk : Nat) (pb : Nat) (po : Nat) (T : ByteArray) (I : ByteArray) (sa : Option Addr) (sn : Nat) (sc : Nat) (au : Int) (R2 : Rec) (A W : World) (listed : Array Bool) (xs : Nat → Value) : Prop where
  bel : Below A.heap.size A W
  o3 : listed.getD 3 true = true → listed.getD 2 true = true
  o5 : listed.getD 5 true = true → listed.getD 3 true = true ∧ listed.getD 4 true = true
  o6 : listed.getD 6 true = true → listed.getD 5 true = true
  o7 : listed.getD 7 true = true → listed.getD 0 true = true ∧ listed.getD 1 true = true ∧ listed.getD 6 true = true
  o8 : listed.getD 8 true = true → listed.getD 7 true = true
  o9 : listed.getD 9 true = true → listed.getD 8 true = true
  o10 : listed.getD 10 true = true → listed.getD 8 true = true
  o12 : listed.getD 12 true = true → listed.getD 0 true = true ∧ listed.getD 1 true = true ∧ listed.getD 2 true = true ∧ listed.getD 3 true = true ∧ listed.getD 4 true = true ∧ listed.getD 5 true = true ∧ listed.getD 6 true = true ∧ listed.getD 7 true = true ∧ listed.getD 8 true = true ∧ listed.getD 9 true = true ∧ listed.getD 11 true = true
  o13 : listed.getD 13 true = true → listed.getD 10 true = true ∧ listed.getD 12 true = true
  f0 : listed.getD 0 true = true → (xs 88) = .agg #[.int .i64 rid, .int .i64 ver, .int .i64 kind, .string lang, .slice ba bn bc]
  f1 : listed.getD 1 true = true → (xs 89) = .int .i64 (kk : Int)
  f2 : listed.getD 2 true = true → (xs 90) = .pointer (some ⟨n1, 4, none⟩)
  f3 : listed.getD 3 true = true → (xs 91) = .slice (some ⟨pb, po, none⟩) n rc
  f4 : listed.getD 4 true = true → (xs 92) = .int .i64 (kk : Int)
  f5 : listed.getD 5 true = true → (xs 93) = .pointer (some ⟨pb, po + kk * 4, none⟩)
  f6 : listed.getD 6 true = true → (xs 94) = .agg #[.string T, .string I, .slice sa sn sc, .int .i64 au]
  f7 : listed.getD 7 true = true → ∃ (a : Option Addr) (c : Nat), (xs 95) = .tuple #[recV5 ⟨R2, a, c⟩, .int .i64 0] ∧ RcdAt W ⟨R2, a, c⟩
  f8 : listed.getD 8 true = true → ∃ (a : Option Addr) (c : Nat), (xs 87) = .tuple #[recV5 ⟨R2, a, c⟩, .int .i64 0] ∧ RcdAt W ⟨R2, a, c⟩
  f9 : listed.getD 9 true = true → ∃ (a : Option Addr) (c : Nat), (xs 96) = recV5 ⟨R2, a, c⟩ ∧ RcdAt W ⟨R2, a, c⟩
  f10 : listed.getD 10 true = true → (xs 97) = .int .i64 0
  f11 : listed.getD 11 true = true → ∃ g, (xs 13) = .pointer (some ⟨g, 0, none⟩) ∧ W.heap[g]? = some recZ ∧ A.heap.size ≤ g
  f13 : listed.getD 13 true = true → (xs 14) = .int .i64 0
section
variable {n1 : Nat} {n3 : Nat} {rid : Int} {ver : Int} {kind : Int} {lang : ByteArray} {n : Nat} {rc : Nat} {ba : Option Addr} {bn : Nat} {bc : Nat} {kk : Nat} {pb : Nat} {po : Nat} {T : ByteArray} {I : ByteArray} {sa : Option Addr} {sn : Nat} {sc : Nat} {au : Int} {R2 : Rec} {A W : World} {listed : Array Bool} {xs : Nat → Value}
theorem rst_regionI.world (h : rst_regionI n1 n3 rid ver kind lang n rc ba bn bc kk pb po T I sa sn sc au R2 A W listed xs) {W' : World} (b : Below W.heap.size W W') : rst_regionI n1 n3 rid ver kind lang n rc ba bn bc kk pb po T I sa sn sc au R2 A W' listed xs where
  bel := h.bel.bt b
  o3 := h.o3
  o5 := h.o5
  o6 := h.o6
  o7 := h.o7
  o8 := h.o8
  o9 := h.o9
  o10 := h.o10
  o12 := h.o12
  o13 := h.o13
  f0 := h.f0
  f1 := h.f1
  f2 := h.f2
  f3 := h.f3
  f4 := h.f4
  f5 := h.f5
  f6 := h.f6
  f7 := fun hl => by
    have h := h.f7 hl
    obtain ⟨a, c, h1, h2⟩ := h
    exact ⟨a, c, h1, RcdAt.below h2 b (Nat.le_refl _)⟩
  f8 := fun hl => by
    have h := h.f8 hl
    obtain ⟨a, c, h1, h2⟩ := h
    exact ⟨a, c, h1, RcdAt.below h2 b (Nat.le_refl _)⟩
  f9 := fun hl => by
    have h := h.f9 hl
    obtain ⟨a, c, h1, h2⟩ := h
    exact ⟨a, c, h1, RcdAt.below h2 b (Nat.le_refl _)⟩
  f10 := h.f10
  f11 := fun hl => by
    have h := h.f11 hl
    obtain ⟨g, h1, h2, h3⟩ := h
    exact ⟨g, h1, (b.block g (Array.getElem?_eq_some_iff.1 h2).1).trans h2, h3⟩
  f13 := h.f13
theorem rst_regionI.s0 (h : rst_regionI n1 n3 rid ver kind lang n rc ba bn bc kk pb po T I sa sn sc au R2 A W listed xs) (_ : listed.getD 0 true = false) {v : Value}  (hf : v = .agg #[.int .i64 rid, .int .i64 ver, .int .i64 kind, .string lang, .slice ba bn bc])  : rst_regionI n1 n3 rid ver kind lang n rc ba bn bc kk pb po T I sa sn sc au R2 A W (listed.setIfInBounds 0 true) (fun k => if k = 88 then v else xs k) where
  bel := h.bel
  o3 := fun h1 => listed_set_mono (h.o3 ((set_listed h1).resolve_left (by decide)))
  o5 := fun h1 => by
    have := h.o5 ((set_listed h1).resolve_left (by decide))
    simp only [listed_set_mono this.1, listed_set_mono this.2, and_self]
  o6 := fun h1 => listed_set_mono (h.o6 ((set_listed h1).resolve_left (by decide)))
  o7 := fun h1 => by
    have := h.o7 ((set_listed h1).resolve_left (by decide))
    simp only [listed_set_mono this.1, listed_set_mono this.2.1, listed_set_mono this.2.2, and_self]
  o8 := fun h1 => listed_set_mono (h.o8 ((set_listed h1).resolve_left (by decide)))
  o9 := fun h1 => listed_set_mono (h.o9 ((set_listed h1).resolve_left (by decide)))
  o10 := fun h1 => listed_set_mono (h.o10 ((set_listed h1).resolve_left (by decide)))
  o12 := fun h1 => by
    have := h.o12 ((set_listed h1).resolve_left (by decide))
    simp only [listed_set_mono this.1, listed_set_mono this.2.1, listed_set_mono this.2.2.1, listed_set_mono this.2.2.2.1, listed_set_mono this.2.2.2.2.1, listed_set_mono this.2.2.2.2.2.1, listed_set_mono this.2.2.2.2.2.2.1, listed_set_mono this.2.2.2.2.2.2.2.1, listed_set_mono this.2.2.2.2.2.2.2.2.1, listed_set_mono this.2.2.2.2.2.2.2.2.2.1, listed_set_mono this.2.2.2.2.2.2.2.2.2.2, and_self]
  o13 := fun h1 => by
    have := h.o13 ((set_listed h1).resolve_left (by decide))
    simp only [listed_set_mono this.1, listed_set_mono this.2, and_self]
  f0 := fun _ => by simpa using hf
  f1 := fun h1 => by have := h.f1 ((set_listed h1).resolve_left (by decide)); simpa using this
  f2 := fun h1 => by have := h.f2 ((set_listed h1).resolve_left (by decide)); simpa using this
  f3 := fun h1 => by have := h.f3 ((set_listed h1).resolve_left (by decide)); simpa using this
  f4 := fun h1 => by have := h.f4 ((set_listed h1).resolve_left (by decide)); simpa using this
  f5 := fun h1 => by have := h.f5 ((set_listed h1).resolve_left (by decide)); simpa using this
  f6 := fun h1 => by have := h.f6 ((set_listed h1).resolve_left (by decide)); simpa using this
  f7 := fun h1 => by have := h.f7 ((set_listed h1).resolve_left (by decide)); simpa using this
  f8 := fun h1 => by have := h.f8 ((set_listed h1).resolve_left (by decide)); simpa using this
  f9 := fun h1 => by have := h.f9 ((set_listed h1).resolve_left (by decide)); simpa using this
  f10 := fun h1 => by have := h.f10 ((set_listed h1).resolve_left (by decide)); simpa using this
  f11 := fun h1 => by have := h.f11 ((set_listed h1).resolve_left (by decide)); simpa using this
  f13 := fun h1 => by have := h.f13 ((set_listed h1).resolve_left (by decide)); simpa using this
theorem rst_regionI.s1 (h : rst_regionI n1 n3 rid ver kind lang n rc ba bn bc kk pb po T I sa sn sc au R2 A W listed xs) (_ : listed.getD 1 true = false) {v : Value}  (hf : v = .int .i64 (kk : Int))  : rst_regionI n1 n3 rid ver kind lang n rc ba bn bc kk pb po T I sa sn sc au R2 A W (listed.setIfInBounds 1 true) (fun k => if k = 89 then v else xs k) where
  bel := h.bel
  o3 := fun h1 => listed_set_mono (h.o3 ((set_listed h1).resolve_left (by decide)))
  o5 := fun h1 => by
    have := h.o5 ((set_listed h1).resolve_left (by decide))
    simp only [listed_set_mono this.1, listed_set_mono this.2, and_self]
  o6 := fun h1 => listed_set_mono (h.o6 ((set_listed h1).resolve_left (by decide)))
  o7 := fun h1 => by
    have := h.o7 ((set_listed h1).resolve_left (by decide))
    simp only [listed_set_mono this.1, listed_set_mono this.2.1, listed_set_mono this.2.2, and_self]
  o8 := fun h1 => listed_set_mono (h.o8 ((set_listed h1).resolve_left (by decide)))
  o9 := fun h1 => listed_set_mono (h.o9 ((set_listed h1).resolve_left (by decide)))
  o10 := fun h1 => listed_set_mono (h.o10 ((set_listed h1).resolve_left (by decide)))
  o12 := fun h1 => by
    have := h.o12 ((set_listed h1).resolve_left (by decide))
    simp only [listed_set_mono this.1, listed_set_mono this.2.1, listed_set_mono this.2.2.1, listed_set_mono this.2.2.2.1, listed_set_mono this.2.2.2.2.1, listed_set_mono this.2.2.2.2.2.1, listed_set_mono this.2.2.2.2.2.2.1, listed_set_mono this.2.2.2.2.2.2.2.1, listed_set_mono this.2.2.2.2.2.2.2.2.1, listed_set_mono this.2.2.2.2.2.2.2.2.2.1, listed_set_mono this.2.2.2.2.2.2.2.2.2.2, and_self]
  o13 := fun h1 => by
    have := h.o13 ((set_listed h1).resolve_left (by decide))
    simp only [listed_set_mono this.1, listed_set_mono this.2, and_self]
  f0 := fun h1 => by have := h.f0 ((set_listed h1).resolve_left (by decide)); simpa using this
  f1 := fun _ => by simpa using hf
  f2 := fun h1 => by have := h.f2 ((set_listed h1).resolve_left (by decide)); simpa using this
  f3 := fun h1 => by have := h.f3 ((set_listed h1).resolve_left (by decide)); simpa using this
  f4 := fun h1 => by have := h.f4 ((set_listed h1).resolve_left (by decide)); simpa using this
  f5 := fun h1 => by have := h.f5 ((set_listed h1).resolve_left (by decide)); simpa using this
  f6 := fun h1 => by have := h.f6 ((set_listed h1).resolve_left (by decide)); simpa using this
  f7 := fun h1 => by have := h.f7 ((set_listed h1).resolve_left (by decide)); simpa using this
  f8 := fun h1 => by have := h.f8 ((set_listed h1).resolve_left (by decide)); simpa using this
  f9 := fun h1 => by have := h.f9 ((set_listed h1).resolve_left (by decide)); simpa using this
  f10 := fun h1 => by have := h.f10 ((set_listed h1).resolve_left (by decide)); simpa using this
  f11 := fun h1 => by have := h.f11 ((set_listed h1).resolve_left (by decide)); simpa using this
  f13 := fun h1 => by have := h.f13 ((set_listed h1).resolve_left (by decide)); simpa using this
theorem rst_regionI.s2 (h : rst_regionI n1 n3 rid ver kind lang n rc ba bn bc kk pb po T I sa sn sc au R2 A W listed xs) (_ : listed.getD 2 true = false) {v : Value}  (hf : v = .pointer (some ⟨n1, 4, none⟩))  : rst_regionI n1 n3 rid ver kind lang n rc ba bn bc kk pb po T I sa sn sc au R2 A W (listed.setIfInBounds 2 true) (fun k => if k = 90 then v else xs k) where
  bel := h.bel
  o3 := fun h1 => listed_set_mono (h.o3 ((set_listed h1).resolve_left (by decide)))
  o5 := fun h1 => by
    have := h.o5 ((set_listed h1).resolve_left (by decide))
    simp only [listed_set_mono this.1, listed_set_mono this.2, and_self]
  o6 := fun h1 => listed_set_mono (h.o6 ((set_listed h1).resolve_left (by decide)))
  o7 := fun h1 => by
    have := h.o7 ((set_listed h1).resolve_left (by decide))
    simp only [listed_set_mono this.1, listed_set_mono this.2.1, listed_set_mono this.2.2, and_self]
  o8 := fun h1 => listed_set_mono (h.o8 ((set_listed h1).resolve_left (by decide)))
  o9 := fun h1 => listed_set_mono (h.o9 ((set_listed h1).resolve_left (by decide)))
  o10 := fun h1 => listed_set_mono (h.o10 ((set_listed h1).resolve_left (by decide)))
  o12 := fun h1 => by
    have := h.o12 ((set_listed h1).resolve_left (by decide))
    simp only [listed_set_mono this.1, listed_set_mono this.2.1, listed_set_mono this.2.2.1, listed_set_mono this.2.2.2.1, listed_set_mono this.2.2.2.2.1, listed_set_mono this.2.2.2.2.2.1, listed_set_mono this.2.2.2.2.2.2.1, listed_set_mono this.2.2.2.2.2.2.2.1, listed_set_mono this.2.2.2.2.2.2.2.2.1, listed_set_mono this.2.2.2.2.2.2.2.2.2.1, listed_set_mono this.2.2.2.2.2.2.2.2.2.2, and_self]
  o13 := fun h1 => by
    have := h.o13 ((set_listed h1).resolve_left (by decide))
    simp only [listed_set_mono this.1, listed_set_mono this.2, and_self]
  f0 := fun h1 => by have := h.f0 ((set_listed h1).resolve_left (by decide)); simpa using this
  f1 := fun h1 => by have := h.f1 ((set_listed h1).resolve_left (by decide)); simpa using this
  f2 := fun _ => by simpa using hf
  f3 := fun h1 => by have := h.f3 ((set_listed h1).resolve_left (by decide)); simpa using this
  f4 := fun h1 => by have := h.f4 ((set_listed h1).resolve_left (by decide)); simpa using this
  f5 := fun h1 => by have := h.f5 ((set_listed h1).resolve_left (by decide)); simpa using this
  f6 := fun h1 => by have := h.f6 ((set_listed h1).resolve_left (by decide)); simpa using this
  f7 := fun h1 => by have := h.f7 ((set_listed h1).resolve_left (by decide)); simpa using this
  f8 := fun h1 => by have := h.f8 ((set_listed h1).resolve_left (by decide)); simpa using this
  f9 := fun h1 => by have := h.f9 ((set_listed h1).resolve_left (by decide)); simpa using this
  f10 := fun h1 => by have := h.f10 ((set_listed h1).resolve_left (by decide)); simpa using this
  f11 := fun h1 => by have := h.f11 ((set_listed h1).resolve_left (by decide)); simpa using this
  f13 := fun h1 => by have := h.f13 ((set_listed h1).resolve_left (by decide)); simpa using this
theorem rst_regionI.s3 (h : rst_regionI n1 n3 rid ver kind lang n rc ba bn bc kk pb po T I sa sn sc au R2 A W listed xs) (_ : listed.getD 3 true = false) {v : Value} (l2 : listed.getD 2 true = true) (hf : v = .slice (some ⟨pb, po, none⟩) n rc)  : rst_regionI n1 n3 rid ver kind lang n rc ba bn bc kk pb po T I sa sn sc au R2 A W (listed.setIfInBounds 3 true) (fun k => if k = 91 then v else xs k) where
  bel := h.bel
  o3 := fun _ => listed_set_mono l2
  o5 := fun h1 => by
    have := h.o5 ((set_listed h1).resolve_left (by decide))
    simp only [listed_set_mono this.1, listed_set_mono this.2, and_self]
  o6 := fun h1 => listed_set_mono (h.o6 ((set_listed h1).resolve_left (by decide)))
  o7 := fun h1 => by
    have := h.o7 ((set_listed h1).resolve_left (by decide))
    simp only [listed_set_mono this.1, listed_set_mono this.2.1, listed_set_mono this.2.2, and_self]
  o8 := fun h1 => listed_set_mono (h.o8 ((set_listed h1).resolve_left (by decide)))
  o9 := fun h1 => listed_set_mono (h.o9 ((set_listed h1).resolve_left (by decide)))
  o10 := fun h1 => listed_set_mono (h.o10 ((set_listed h1).resolve_left (by decide)))
  o12 := fun h1 => by
    have := h.o12 ((set_listed h1).resolve_left (by decide))
    simp only [listed_set_mono this.1, listed_set_mono this.2.1, listed_set_mono this.2.2.1, listed_set_mono this.2.2.2.1, listed_set_mono this.2.2.2.2.1, listed_set_mono this.2.2.2.2.2.1, listed_set_mono this.2.2.2.2.2.2.1, listed_set_mono this.2.2.2.2.2.2.2.1, listed_set_mono this.2.2.2.2.2.2.2.2.1, listed_set_mono this.2.2.2.2.2.2.2.2.2.1, listed_set_mono this.2.2.2.2.2.2.2.2.2.2, and_self]
  o13 := fun h1 => by
    have := h.o13 ((set_listed h1).resolve_left (by decide))
    simp only [listed_set_mono this.1, listed_set_mono this.2, and_self]
  f0 := fun h1 => by have := h.f0 ((set_listed h1).resolve_left (by decide)); simpa using this
  f1 := fun h1 => by have := h.f1 ((set_listed h1).resolve_left (by decide)); simpa using this
  f2 := fun h1 => by have := h.f2 ((set_listed h1).resolve_left (by decide)); simpa using this
  f3 := fun _ => by simpa using hf
  f4 := fun h1 => by have := h.f4 ((set_listed h1).resolve_left (by decide)); simpa using this
  f5 := fun h1 => by have := h.f5 ((set_listed h1).resolve_left (by decide)); simpa using this
  f6 := fun h1 => by have := h.f6 ((set_listed h1).resolve_left (by decide)); simpa using this
  f7 := fun h1 => by have := h.f7 ((set_listed h1).resolve_left (by decide)); simpa using this
  f8 := fun h1 => by have := h.f8 ((set_listed h1).resolve_left (by decide)); simpa using this
  f9 := fun h1 => by have := h.f9 ((set_listed h1).resolve_left (by decide)); simpa using this
  f10 := fun h1 => by have := h.f10 ((set_listed h1).resolve_left (by decide)); simpa using this
  f11 := fun h1 => by have := h.f11 ((set_listed h1).resolve_left (by decide)); simpa using this
  f13 := fun h1 => by have := h.f13 ((set_listed h1).resolve_left (by decide)); simpa using this
theorem rst_regionI.s4 (h : rst_regionI n1 n3 rid ver kind lang n rc ba bn bc kk pb po T I sa sn sc au R2 A W listed xs) (_ : listed.getD 4 true = false) {v : Value}  (hf : v = .int .i64 (kk : Int))  : rst_regionI n1 n3 rid ver kind lang n rc ba bn bc kk pb po T I sa sn sc au R2 A W (listed.setIfInBounds 4 true) (fun k => if k = 92 then v else xs k) where
  bel := h.bel
  o3 := fun h1 => listed_set_mono (h.o3 ((set_listed h1).resolve_left (by decide)))
  o5 := fun h1 => by
    have := h.o5 ((set_listed h1).resolve_left (by decide))
    simp only [listed_set_mono this.1, listed_set_mono this.2, and_self]
  o6 := fun h1 => listed_set_mono (h.o6 ((set_listed h1).resolve_left (by decide)))
  o7 := fun h1 => by
    have := h.o7 ((set_listed h1).resolve_left (by decide))
    simp only [listed_set_mono this.1, listed_set_mono this.2.1, listed_set_mono this.2.2, and_self]
  o8 := fun h1 => listed_set_mono (h.o8 ((set_listed h1).resolve_left (by decide)))
  o9 := fun h1 => listed_set_mono (h.o9 ((set_listed h1).resolve_left (by decide)))
  o10 := fun h1 => listed_set_mono (h.o10 ((set_listed h1).resolve_left (by decide)))
  o12 := fun h1 => by
    have := h.o12 ((set_listed h1).resolve_left (by decide))
    simp only [listed_set_mono this.1, listed_set_mono this.2.1, listed_set_mono this.2.2.1, listed_set_mono this.2.2.2.1, listed_set_mono this.2.2.2.2.1, listed_set_mono this.2.2.2.2.2.1, listed_set_mono this.2.2.2.2.2.2.1, listed_set_mono this.2.2.2.2.2.2.2.1, listed_set_mono this.2.2.2.2.2.2.2.2.1, listed_set_mono this.2.2.2.2.2.2.2.2.2.1, listed_set_mono this.2.2.2.2.2.2.2.2.2.2, and_self]
  o13 := fun h1 => by
    have := h.o13 ((set_listed h1).resolve_left (by decide))
    simp only [listed_set_mono this.1, listed_set_mono this.2, and_self]
  f0 := fun h1 => by have := h.f0 ((set_listed h1).resolve_left (by decide)); simpa using this
  f1 := fun h1 => by have := h.f1 ((set_listed h1).resolve_left (by decide)); simpa using this
  f2 := fun h1 => by have := h.f2 ((set_listed h1).resolve_left (by decide)); simpa using this
  f3 := fun h1 => by have := h.f3 ((set_listed h1).resolve_left (by decide)); simpa using this
  f4 := fun _ => by simpa using hf
  f5 := fun h1 => by have := h.f5 ((set_listed h1).resolve_left (by decide)); simpa using this
  f6 := fun h1 => by have := h.f6 ((set_listed h1).resolve_left (by decide)); simpa using this
  f7 := fun h1 => by have := h.f7 ((set_listed h1).resolve_left (by decide)); simpa using this
  f8 := fun h1 => by have := h.f8 ((set_listed h1).resolve_left (by decide)); simpa using this
  f9 := fun h1 => by have := h.f9 ((set_listed h1).resolve_left (by decide)); simpa using this
  f10 := fun h1 => by have := h.f10 ((set_listed h1).resolve_left (by decide)); simpa using this
  f11 := fun h1 => by have := h.f11 ((set_listed h1).resolve_left (by decide)); simpa using this
  f13 := fun h1 => by have := h.f13 ((set_listed h1).resolve_left (by decide)); simpa using this
theorem rst_regionI.s5 (h : rst_regionI n1 n3 rid ver kind lang n rc ba bn bc kk pb po T I sa sn sc au R2 A W listed xs) (_ : listed.getD 5 true = false) {v : Value} (l3 : listed.getD 3 true = true) (l4 : listed.getD 4 true = true) (hf : v = .pointer (some ⟨pb, po + kk * 4, none⟩))  : rst_regionI n1 n3 rid ver kind lang n rc ba bn bc kk pb po T I sa sn sc au R2 A W (listed.setIfInBounds 5 true) (fun k => if k = 93 then v else xs k) where
  bel := h.bel
  o3 := fun h1 => listed_set_mono (h.o3 ((set_listed h1).resolve_left (by decide)))
  o5 := fun _ => ⟨listed_set_mono l3, listed_set_mono l4⟩
  o6 := fun h1 => listed_set_mono (h.o6 ((set_listed h1).resolve_left (by decide)))
  o7 := fun h1 => by
    have := h.o7 ((set_listed h1).resolve_left (by decide))
    simp only [listed_set_mono this.1, listed_set_mono this.2.1, listed_set_mono this.2.2, and_self]
  o8 := fun h1 => listed_set_mono (h.o8 ((set_listed h1).resolve_left (by decide)))
  o9 := fun h1 => listed_set_mono (h.o9 ((set_listed h1).resolve_left (by decide)))
  o10 := fun h1 => listed_set_mono (h.o10 ((set_listed h1).resolve_left (by decide)))
  o12 := fun h1 => by
    have := h.o12 ((set_listed h1).resolve_left (by decide))
    simp only [listed_set_mono this.1, listed_set_mono this.2.1, listed_set_mono this.2.2.1, listed_set_mono this.2.2.2.1, listed_set_mono this.2.2.2.2.1, listed_set_mono this.2.2.2.2.2.1, listed_set_mono this.2.2.2.2.2.2.1, listed_set_mono this.2.2.2.2.2.2.2.1, listed_set_mono this.2.2.2.2.2.2.2.2.1, listed_set_mono this.2.2.2.2.2.2.2.2.2.1, listed_set_mono this.2.2.2.2.2.2.2.2.2.2, and_self]
  o13 := fun h1 => by
    have := h.o13 ((set_listed h1).resolve_left (by decide))
    simp only [listed_set_mono this.1, listed_set_mono this.2, and_self]
  f0 := fun h1 => by have := h.f0 ((set_listed h1).resolve_left (by decide)); simpa using this
  f1 := fun h1 => by have := h.f1 ((set_listed h1).resolve_left (by decide)); simpa using this
  f2 := fun h1 => by have := h.f2 ((set_listed h1).resolve_left (by decide)); simpa using this
  f3 := fun h1 => by have := h.f3 ((set_listed h1).resolve_left (by decide)); simpa using this
  f4 := fun h1 => by have := h.f4 ((set_listed h1).resolve_left (by decide)); simpa using this
  f5 := fun _ => by simpa using hf
  f6 := fun h1 => by have := h.f6 ((set_listed h1).resolve_left (by decide)); simpa using this
  f7 := fun h1 => by have := h.f7 ((set_listed h1).resolve_left (by decide)); simpa using this
  f8 := fun h1 => by have := h.f8 ((set_listed h1).resolve_left (by decide)); simpa using this
  f9 := fun h1 => by have := h.f9 ((set_listed h1).resolve_left (by decide)); simpa using this
  f10 := fun h1 => by have := h.f10 ((set_listed h1).resolve_left (by decide)); simpa using this
  f11 := fun h1 => by have := h.f11 ((set_listed h1).resolve_left (by decide)); simpa using this
  f13 := fun h1 => by have := h.f13 ((set_listed h1).resolve_left (by decide)); simpa using this
theorem rst_regionI.s6 (h : rst_regionI n1 n3 rid ver kind lang n rc ba bn bc kk pb po T I sa sn sc au R2 A W listed xs) (_ : listed.getD 6 true = false) {v : Value} (l5 : listed.getD 5 true = true) (hf : v = .agg #[.string T, .string I, .slice sa sn sc, .int .i64 au])  : rst_regionI n1 n3 rid ver kind lang n rc ba bn bc kk pb po T I sa sn sc au R2 A W (listed.setIfInBounds 6 true) (fun k => if k = 94 then v else xs k) where
  bel := h.bel
  o3 := fun h1 => listed_set_mono (h.o3 ((set_listed h1).resolve_left (by decide)))
  o5 := fun h1 => by
    have := h.o5 ((set_listed h1).resolve_left (by decide))
    simp only [listed_set_mono this.1, listed_set_mono this.2, and_self]
  o6 := fun _ => listed_set_mono l5
  o7 := fun h1 => by
    have := h.o7 ((set_listed h1).resolve_left (by decide))
    simp only [listed_set_mono this.1, listed_set_mono this.2.1, listed_set_mono this.2.2, and_self]
  o8 := fun h1 => listed_set_mono (h.o8 ((set_listed h1).resolve_left (by decide)))
  o9 := fun h1 => listed_set_mono (h.o9 ((set_listed h1).resolve_left (by decide)))
  o10 := fun h1 => listed_set_mono (h.o10 ((set_listed h1).resolve_left (by decide)))
  o12 := fun h1 => by
    have := h.o12 ((set_listed h1).resolve_left (by decide))
    simp only [listed_set_mono this.1, listed_set_mono this.2.1, listed_set_mono this.2.2.1, listed_set_mono this.2.2.2.1, listed_set_mono this.2.2.2.2.1, listed_set_mono this.2.2.2.2.2.1, listed_set_mono this.2.2.2.2.2.2.1, listed_set_mono this.2.2.2.2.2.2.2.1, listed_set_mono this.2.2.2.2.2.2.2.2.1, listed_set_mono this.2.2.2.2.2.2.2.2.2.1, listed_set_mono this.2.2.2.2.2.2.2.2.2.2, and_self]
  o13 := fun h1 => by
    have := h.o13 ((set_listed h1).resolve_left (by decide))
    simp only [listed_set_mono this.1, listed_set_mono this.2, and_self]
  f0 := fun h1 => by have := h.f0 ((set_listed h1).resolve_left (by decide)); simpa using this
  f1 := fun h1 => by have := h.f1 ((set_listed h1).resolve_left (by decide)); simpa using this
  f2 := fun h1 => by have := h.f2 ((set_listed h1).resolve_left (by decide)); simpa using this
  f3 := fun h1 => by have := h.f3 ((set_listed h1).resolve_left (by decide)); simpa using this
  f4 := fun h1 => by have := h.f4 ((set_listed h1).resolve_left (by decide)); simpa using this
  f5 := fun h1 => by have := h.f5 ((set_listed h1).resolve_left (by decide)); simpa using this
  f6 := fun _ => by simpa using hf
  f7 := fun h1 => by have := h.f7 ((set_listed h1).resolve_left (by decide)); simpa using this
  f8 := fun h1 => by have := h.f8 ((set_listed h1).resolve_left (by decide)); simpa using this
  f9 := fun h1 => by have := h.f9 ((set_listed h1).resolve_left (by decide)); simpa using this
  f10 := fun h1 => by have := h.f10 ((set_listed h1).resolve_left (by decide)); simpa using this
  f11 := fun h1 => by have := h.f11 ((set_listed h1).resolve_left (by decide)); simpa using this
  f13 := fun h1 => by have := h.f13 ((set_listed h1).resolve_left (by decide)); simpa using this
theorem rst_regionI.s7 (h : rst_regionI n1 n3 rid ver kind lang n rc ba bn bc kk pb po T I sa sn sc au R2 A W listed xs) (_ : listed.getD 7 true = false) {v : Value} (l0 : listed.getD 0 true = true) (l1 : listed.getD 1 true = true) (l6 : listed.getD 6 true = true) (hf : ∃ (a : Option Addr) (c : Nat), v = .tuple #[recV5 ⟨R2, a, c⟩, .int .i64 0] ∧ RcdAt W ⟨R2, a, c⟩)  : rst_regionI n1 n3 rid ver kind lang n rc ba bn bc kk pb po T I sa sn sc au R2 A W (listed.setIfInBounds 7 true) (fun k => if k = 95 then v else xs k) where
  bel := h.bel
  o3 := fun h1 => listed_set_mono (h.o3 ((set_listed h1).resolve_left (by decide)))
  o5 := fun h1 => by
    have := h.o5 ((set_listed h1).resolve_left (by decide))
    simp only [listed_set_mono this.1, listed_set_mono this.2, and_self]
  o6 := fun h1 => listed_set_mono (h.o6 ((set_listed h1).resolve_left (by decide)))
  o7 := fun _ => ⟨listed_set_mono l0, listed_set_mono l1, listed_set_mono l6⟩
  o8 := fun h1 => listed_set_mono (h.o8 ((set_listed h1).resolve_left (by decide)))
  o9 := fun h1 => listed_set_mono (h.o9 ((set_listed h1).resolve_left (by decide)))
  o10 := fun h1 => listed_set_mono (h.o10 ((set_listed h1).resolve_left (by decide)))
  o12 := fun h1 => by
    have := h.o12 ((set_listed h1).resolve_left (by decide))
    simp only [listed_set_mono this.1, listed_set_mono this.2.1, listed_set_mono this.2.2.1, listed_set_mono this.2.2.2.1, listed_set_mono this.2.2.2.2.1, listed_set_mono this.2.2.2.2.2.1, listed_set_mono this.2.2.2.2.2.2.1, listed_set_mono this.2.2.2.2.2.2.2.1, listed_set_mono this.2.2.2.2.2.2.2.2.1, listed_set_mono this.2.2.2.2.2.2.2.2.2.1, listed_set_mono this.2.2.2.2.2.2.2.2.2.2, and_self]
  o13 := fun h1 => by
    have := h.o13 ((set_listed h1).resolve_left (by decide))
    simp only [listed_set_mono this.1, listed_set_mono this.2, and_self]
  f0 := fun h1 => by have := h.f0 ((set_listed h1).resolve_left (by decide)); simpa using this
  f1 := fun h1 => by have := h.f1 ((set_listed h1).resolve_left (by decide)); simpa using this
  f2 := fun h1 => by have := h.f2 ((set_listed h1).resolve_left (by decide)); simpa using this
  f3 := fun h1 => by have := h.f3 ((set_listed h1).resolve_left (by decide)); simpa using this
  f4 := fun h1 => by have := h.f4 ((set_listed h1).resolve_left (by decide)); simpa using this
  f5 := fun h1 => by have := h.f5 ((set_listed h1).resolve_left (by decide)); simpa using this
  f6 := fun h1 => by have := h.f6 ((set_listed h1).resolve_left (by decide)); simpa using this
  f7 := fun _ => by simpa using hf
  f8 := fun h1 => by have := h.f8 ((set_listed h1).resolve_left (by decide)); simpa using this
  f9 := fun h1 => by have := h.f9 ((set_listed h1).resolve_left (by decide)); simpa using this
  f10 := fun h1 => by have := h.f10 ((set_listed h1).resolve_left (by decide)); simpa using this
  f11 := fun h1 => by have := h.f11 ((set_listed h1).resolve_left (by decide)); simpa using this
  f13 := fun h1 => by have := h.f13 ((set_listed h1).resolve_left (by decide)); simpa using this
theorem rst_regionI.s8 (h : rst_regionI n1 n3 rid ver kind lang n rc ba bn bc kk pb po T I sa sn sc au R2 A W listed xs) (_ : listed.getD 8 true = false) {v : Value} (l7 : listed.getD 7 true = true) (hf : ∃ (a : Option Addr) (c : Nat), v = .tuple #[recV5 ⟨R2, a, c⟩, .int .i64 0] ∧ RcdAt W ⟨R2, a, c⟩)  : rst_regionI n1 n3 rid ver kind lang n rc ba bn bc kk pb po T I sa sn sc au R2 A W (listed.setIfInBounds 8 true) (fun k => if k = 87 then v else xs k) where
  bel := h.bel
  o3 := fun h1 => listed_set_mono (h.o3 ((set_listed h1).resolve_left (by decide)))
  o5 := fun h1 => by
    have := h.o5 ((set_listed h1).resolve_left (by decide))
    simp only [listed_set_mono this.1, listed_set_mono this.2, and_self]
  o6 := fun h1 => listed_set_mono (h.o6 ((set_listed h1).resolve_left (by decide)))
  o7 := fun h1 => by
    have := h.o7 ((set_listed h1).resolve_left (by decide))
    simp only [listed_set_mono this.1, listed_set_mono this.2.1, listed_set_mono this.2.2, and_self]
  o8 := fun _ => listed_set_mono l7
  o9 := fun h1 => listed_set_mono (h.o9 ((set_listed h1).resolve_left (by decide)))
  o10 := fun h1 => listed_set_mono (h.o10 ((set_listed h1).resolve_left (by decide)))
  o12 := fun h1 => by
    have := h.o12 ((set_listed h1).resolve_left (by decide))
    simp only [listed_set_mono this.1, listed_set_mono this.2.1, listed_set_mono this.2.2.1, listed_set_mono this.2.2.2.1, listed_set_mono this.2.2.2.2.1, listed_set_mono this.2.2.2.2.2.1, listed_set_mono this.2.2.2.2.2.2.1, listed_set_mono this.2.2.2.2.2.2.2.1, listed_set_mono this.2.2.2.2.2.2.2.2.1, listed_set_mono this.2.2.2.2.2.2.2.2.2.1, listed_set_mono this.2.2.2.2.2.2.2.2.2.2, and_self]
  o13 := fun h1 => by
    have := h.o13 ((set_listed h1).resolve_left (by decide))
    simp only [listed_set_mono this.1, listed_set_mono this.2, and_self]
  f0 := fun h1 => by have := h.f0 ((set_listed h1).resolve_left (by decide)); simpa using this
  f1 := fun h1 => by have := h.f1 ((set_listed h1).resolve_left (by decide)); simpa using this
  f2 := fun h1 => by have := h.f2 ((set_listed h1).resolve_left (by decide)); simpa using this
  f3 := fun h1 => by have := h.f3 ((set_listed h1).resolve_left (by decide)); simpa using this
  f4 := fun h1 => by have := h.f4 ((set_listed h1).resolve_left (by decide)); simpa using this
  f5 := fun h1 => by have := h.f5 ((set_listed h1).resolve_left (by decide)); simpa using this
  f6 := fun h1 => by have := h.f6 ((set_listed h1).resolve_left (by decide)); simpa using this
  f7 := fun h1 => by have := h.f7 ((set_listed h1).resolve_left (by decide)); simpa using this
  f8 := fun _ => by simpa using hf
  f9 := fun h1 => by have := h.f9 ((set_listed h1).resolve_left (by decide)); simpa using this
  f10 := fun h1 => by have := h.f10 ((set_listed h1).resolve_left (by decide)); simpa using this
  f11 := fun h1 => by have := h.f11 ((set_listed h1).resolve_left (by decide)); simpa using this
  f13 := fun h1 => by have := h.f13 ((set_listed h1).resolve_left (by decide)); simpa using this
theorem rst_regionI.s9 (h : rst_regionI n1 n3 rid ver kind lang n rc ba bn bc kk pb po T I sa sn sc au R2 A W listed xs) (_ : listed.getD 9 true = false) {v : Value} (l8 : listed.getD 8 true = true) (hf : ∃ (a : Option Addr) (c : Nat), v = recV5 ⟨R2, a, c⟩ ∧ RcdAt W ⟨R2, a, c⟩)  : rst_regionI n1 n3 rid ver kind lang n rc ba bn bc kk pb po T I sa sn sc au R2 A W (listed.setIfInBounds 9 true) (fun k => if k = 96 then v else xs k) where
  bel := h.bel
  o3 := fun h1 => listed_set_mono (h.o3 ((set_listed h1).resolve_left (by decide)))
  o5 := fun h1 => by
    have := h.o5 ((set_listed h1).resolve_left (by decide))
    simp only [listed_set_mono this.1, listed_set_mono this.2, and_self]
  o6 := fun h1 => listed_set_mono (h.o6 ((set_listed h1).resolve_left (by decide)))
  o7 := fun h1 => by
    have := h.o7 ((set_listed h1).resolve_left (by decide))
    simp only [listed_set_mono this.1, listed_set_mono this.2.1, listed_set_mono this.2.2, and_self]
  o8 := fun h1 => listed_set_mono (h.o8 ((set_listed h1).resolve_left (by decide)))
  o9 := fun _ => listed_set_mono l8
  o10 := fun h1 => listed_set_mono (h.o10 ((set_listed h1).resolve_left (by decide)))
  o12 := fun h1 => by
    have := h.o12 ((set_listed h1).resolve_left (by decide))
    simp only [listed_set_mono this.1, listed_set_mono this.2.1, listed_set_mono this.2.2.1, listed_set_mono this.2.2.2.1, listed_set_mono this.2.2.2.2.1, listed_set_mono this.2.2.2.2.2.1, listed_set_mono this.2.2.2.2.2.2.1, listed_set_mono this.2.2.2.2.2.2.2.1, listed_set_mono this.2.2.2.2.2.2.2.2.1, listed_set_mono this.2.2.2.2.2.2.2.2.2.1, listed_set_mono this.2.2.2.2.2.2.2.2.2.2, and_self]
  o13 := fun h1 => by
    have := h.o13 ((set_listed h1).resolve_left (by decide))
    simp only [listed_set_mono this.1, listed_set_mono this.2, and_self]
  f0 := fun h1 => by have := h.f0 ((set_listed h1).resolve_left (by decide)); simpa using this
  f1 := fun h1 => by have := h.f1 ((set_listed h1).resolve_left (by decide)); simpa using this
  f2 := fun h1 => by have := h.f2 ((set_listed h1).resolve_left (by decide)); simpa using this
  f3 := fun h1 => by have := h.f3 ((set_listed h1).resolve_left (by decide)); simpa using this
  f4 := fun h1 => by have := h.f4 ((set_listed h1).resolve_left (by decide)); simpa using this
  f5 := fun h1 => by have := h.f5 ((set_listed h1).resolve_left (by decide)); simpa using this
  f6 := fun h1 => by have := h.f6 ((set_listed h1).resolve_left (by decide)); simpa using this
  f7 := fun h1 => by have := h.f7 ((set_listed h1).resolve_left (by decide)); simpa using this
  f8 := fun h1 => by have := h.f8 ((set_listed h1).resolve_left (by decide)); simpa using this
  f9 := fun _ => by simpa using hf
  f10 := fun h1 => by have := h.f10 ((set_listed h1).resolve_left (by decide)); simpa using this
  f11 := fun h1 => by have := h.f11 ((set_listed h1).resolve_left (by decide)); simpa using this
  f13 := fun h1 => by have := h.f13 ((set_listed h1).resolve_left (by decide)); simpa using this
theorem rst_regionI.s10 (h : rst_regionI n1 n3 rid ver kind lang n rc ba bn bc kk pb po T I sa sn sc au R2 A W listed xs) (_ : listed.getD 10 true = false) {v : Value} (l8 : listed.getD 8 true = true) (hf : v = .int .i64 0)  : rst_regionI n1 n3 rid ver kind lang n rc ba bn bc kk pb po T I sa sn sc au R2 A W (listed.setIfInBounds 10 true) (fun k => if k = 97 then v else xs k) where
  bel := h.bel
  o3 := fun h1 => listed_set_mono (h.o3 ((set_listed h1).resolve_left (by decide)))
  o5 := fun h1 => by
    have := h.o5 ((set_listed h1).resolve_left (by decide))
    simp only [listed_set_mono this.1, listed_set_mono this.2, and_self]
  o6 := fun h1 => listed_set_mono (h.o6 ((set_listed h1).resolve_left (by decide)))
  o7 := fun h1 => by
    have := h.o7 ((set_listed h1).resolve_left (by decide))
    simp only [listed_set_mono this.1, listed_set_mono this.2.1, listed_set_mono this.2.2, and_self]
  o8 := fun h1 => listed_set_mono (h.o8 ((set_listed h1).resolve_left (by decide)))
  o9 := fun h1 => listed_set_mono (h.o9 ((set_listed h1).resolve_left (by decide)))
  o10 := fun _ => listed_set_mono l8
  o12 := fun h1 => by
    have := h.o12 ((set_listed h1).resolve_left (by decide))
    simp only [listed_set_mono this.1, listed_set_mono this.2.1, listed_set_mono this.2.2.1, listed_set_mono this.2.2.2.1, listed_set_mono this.2.2.2.2.1, listed_set_mono this.2.2.2.2.2.1, listed_set_mono this.2.2.2.2.2.2.1, listed_set_mono this.2.2.2.2.2.2.2.1, listed_set_mono this.2.2.2.2.2.2.2.2.1, listed_set_mono this.2.2.2.2.2.2.2.2.2.1, listed_set_mono this.2.2.2.2.2.2.2.2.2.2, and_self]
  o13 := fun h1 => by
    have := h.o13 ((set_listed h1).resolve_left (by decide))
    simp only [listed_set_mono this.1, listed_set_mono this.2, and_self]
  f0 := fun h1 => by have := h.f0 ((set_listed h1).resolve_left (by decide)); simpa using this
  f1 := fun h1 => by have := h.f1 ((set_listed h1).resolve_left (by decide)); simpa using this
  f2 := fun h1 => by have := h.f2 ((set_listed h1).resolve_left (by decide)); simpa using this
  f3 := fun h1 => by have := h.f3 ((set_listed h1).resolve_left (by decide)); simpa using this
  f4 := fun h1 => by have := h.f4 ((set_listed h1).resolve_left (by decide)); simpa using this
  f5 := fun h1 => by have := h.f5 ((set_listed h1).resolve_left (by decide)); simpa using this
  f6 := fun h1 => by have := h.f6 ((set_listed h1).resolve_left (by decide)); simpa using this
  f7 := fun h1 => by have := h.f7 ((set_listed h1).resolve_left (by decide)); simpa using this
  f8 := fun h1 => by have := h.f8 ((set_listed h1).resolve_left (by decide)); simpa using this
  f9 := fun h1 => by have := h.f9 ((set_listed h1).resolve_left (by decide)); simpa using this
  f10 := fun _ => by simpa using hf
  f11 := fun h1 => by have := h.f11 ((set_listed h1).resolve_left (by decide)); simpa using this
  f13 := fun h1 => by have := h.f13 ((set_listed h1).resolve_left (by decide)); simpa using this
theorem rst_regionI.s11 (h : rst_regionI n1 n3 rid ver kind lang n rc ba bn bc kk pb po T I sa sn sc au R2 A W listed xs) (_ : listed.getD 11 true = false) {v : Value}  (hf : ∃ g, v = .pointer (some ⟨g, 0, none⟩) ∧ W.heap[g]? = some recZ ∧ A.heap.size ≤ g)  : rst_regionI n1 n3 rid ver kind lang n rc ba bn bc kk pb po T I sa sn sc au R2 A W (listed.setIfInBounds 11 true) (fun k => if k = 13 then v else xs k) where
  bel := h.bel
  o3 := fun h1 => listed_set_mono (h.o3 ((set_listed h1).resolve_left (by decide)))
  o5 := fun h1 => by
    have := h.o5 ((set_listed h1).resolve_left (by decide))
    simp only [listed_set_mono this.1, listed_set_mono this.2, and_self]
  o6 := fun h1 => listed_set_mono (h.o6 ((set_listed h1).resolve_left (by decide)))
  o7 := fun h1 => by
    have := h.o7 ((set_listed h1).resolve_left (by decide))
    simp only [listed_set_mono this.1, listed_set_mono this.2.1, listed_set_mono this.2.2, and_self]
  o8 := fun h1 => listed_set_mono (h.o8 ((set_listed h1).resolve_left (by decide)))
  o9 := fun h1 => listed_set_mono (h.o9 ((set_listed h1).resolve_left (by decide)))
  o10 := fun h1 => listed_set_mono (h.o10 ((set_listed h1).resolve_left (by decide)))
  o12 := fun h1 => by
    have := h.o12 ((set_listed h1).resolve_left (by decide))
    simp only [listed_set_mono this.1, listed_set_mono this.2.1, listed_set_mono this.2.2.1, listed_set_mono this.2.2.2.1, listed_set_mono this.2.2.2.2.1, listed_set_mono this.2.2.2.2.2.1, listed_set_mono this.2.2.2.2.2.2.1, listed_set_mono this.2.2.2.2.2.2.2.1, listed_set_mono this.2.2.2.2.2.2.2.2.1, listed_set_mono this.2.2.2.2.2.2.2.2.2.1, listed_set_mono this.2.2.2.2.2.2.2.2.2.2, and_self]
  o13 := fun h1 => by
    have := h.o13 ((set_listed h1).resolve_left (by decide))
    simp only [listed_set_mono this.1, listed_set_mono this.2, and_self]
  f0 := fun h1 => by have := h.f0 ((set_listed h1).resolve_left (by decide)); simpa using this
  f1 := fun h1 => by have := h.f1 ((set_listed h1).resolve_left (by decide)); simpa using this
  f2 := fun h1 => by have := h.f2 ((set_listed h1).resolve_left (by decide)); simpa using this
  f3 := fun h1 => by have := h.f3 ((set_listed h1).resolve_left (by decide)); simpa using this
  f4 := fun h1 => by have := h.f4 ((set_listed h1).resolve_left (by decide)); simpa using this
  f5 := fun h1 => by have := h.f5 ((set_listed h1).resolve_left (by decide)); simpa using this
  f6 := fun h1 => by have := h.f6 ((set_listed h1).resolve_left (by decide)); simpa using this
  f7 := fun h1 => by have := h.f7 ((set_listed h1).resolve_left (by decide)); simpa using this
  f8 := fun h1 => by have := h.f8 ((set_listed h1).resolve_left (by decide)); simpa using this
  f9 := fun h1 => by have := h.f9 ((set_listed h1).resolve_left (by decide)); simpa using this
  f10 := fun h1 => by have := h.f10 ((set_listed h1).resolve_left (by decide)); simpa using this
  f11 := fun _ => by simpa using hf
  f13 := fun h1 => by have := h.f13 ((set_listed h1).resolve_left (by decide)); simpa using this
theorem rst_regionI.s12 (h : rst_regionI n1 n3 rid ver kind lang n rc ba bn bc kk pb po T I sa sn sc au R2 A W listed xs) (_ : listed.getD 12 true = false) (l0 : listed.getD 0 true = true) (l1 : listed.getD 1 true = true) (l2 : listed.getD 2 true = true) (l3 : listed.getD 3 true = true) (l4 : listed.getD 4 true = true) (l5 : listed.getD 5 true = true) (l6 : listed.getD 6 true = true) (l7 : listed.getD 7 true = true) (l8 : listed.getD 8 true = true) (l9 : listed.getD 9 true = true) (l11 : listed.getD 11 true = true)   : rst_regionI n1 n3 rid ver kind lang n rc ba bn bc kk pb po T I sa sn sc au R2 A W (listed.setIfInBounds 12 true) xs where
  bel := h.bel
  o3 := fun h1 => listed_set_mono (h.o3 ((set_listed h1).resolve_left (by decide)))
  o5 := fun h1 => by
    have := h.o5 ((set_listed h1).resolve_left (by decide))
    simp only [listed_set_mono this.1, listed_set_mono this.2, and_self]
  o6 := fun h1 => listed_set_mono (h.o6 ((set_listed h1).resolve_left (by decide)))
  o7 := fun h1 => by
    have := h.o7 ((set_listed h1).resolve_left (by decide))
    simp only [listed_set_mono this.1, listed_set_mono this.2.1, listed_set_mono this.2.2, and_self]
  o8 := fun h1 => listed_set_mono (h.o8 ((set_listed h1).resolve_left (by decide)))
  o9 := fun h1 => listed_set_mono (h.o9 ((set_listed h1).resolve_left (by decide)))
  o10 := fun h1 => listed_set_mono (h.o10 ((set_listed h1).resolve_left (by decide)))
  o12 := fun _ => ⟨listed_set_mono l0, listed_set_mono l1, listed_set_mono l2, listed_set_mono l3, listed_set_mono l4, listed_set_mono l5, listed_set_mono l6, listed_set_mono l7, listed_set_mono l8, listed_set_mono l9, listed_set_mono l11⟩
  o13 := fun h1 => by
    have := h.o13 ((set_listed h1).resolve_left (by decide))
    simp only [listed_set_mono this.1, listed_set_mono this.2, and_self]
  f0 := fun h1 => h.f0 ((set_listed h1).resolve_left (by decide))
  f1 := fun h1 => h.f1 ((set_listed h1).resolve_left (by decide))
  f2 := fun h1 => h.f2 ((set_listed h1).resolve_left (by decide))
  f3 := fun h1 => h.f3 ((set_listed h1).resolve_left (by decide))
  f4 := fun h1 => h.f4 ((set_listed h1).resolve_left (by decide))
  f5 := fun h1 => h.f5 ((set_listed h1).resolve_left (by decide))
  f6 := fun h1 => h.f6 ((set_listed h1).resolve_left (by decide))
  f7 := fun h1 => h.f7 ((set_listed h1).resolve_left (by decide))
  f8 := fun h1 => h.f8 ((set_listed h1).resolve_left (by decide))
  f9 := fun h1 => h.f9 ((set_listed h1).resolve_left (by decide))
  f10 := fun h1 => h.f10 ((set_listed h1).resolve_left (by decide))
  f11 := fun h1 => h.f11 ((set_listed h1).resolve_left (by decide))
  f13 := fun h1 => h.f13 ((set_listed h1).resolve_left (by decide))
theorem rst_regionI.s13 (h : rst_regionI n1 n3 rid ver kind lang n rc ba bn bc kk pb po T I sa sn sc au R2 A W listed xs) (_ : listed.getD 13 true = false) {v : Value} (l10 : listed.getD 10 true = true) (l12 : listed.getD 12 true = true) (hf : v = .int .i64 0)  : rst_regionI n1 n3 rid ver kind lang n rc ba bn bc kk pb po T I sa sn sc au R2 A W (listed.setIfInBounds 13 true) (fun k => if k = 14 then v else xs k) where
  bel := h.bel
  o3 := fun h1 => listed_set_mono (h.o3 ((set_listed h1).resolve_left (by decide)))
  o5 := fun h1 => by
    have := h.o5 ((set_listed h1).resolve_left (by decide))
    simp only [listed_set_mono this.1, listed_set_mono this.2, and_self]
  o6 := fun h1 => listed_set_mono (h.o6 ((set_listed h1).resolve_left (by decide)))
  o7 := fun h1 => by
    have := h.o7 ((set_listed h1).resolve_left (by decide))
    simp only [listed_set_mono this.1, listed_set_mono this.2.1, listed_set_mono this.2.2, and_self]
  o8 := fun h1 => listed_set_mono (h.o8 ((set_listed h1).resolve_left (by decide)))
  o9 := fun h1 => listed_set_mono (h.o9 ((set_listed h1).resolve_left (by decide)))
  o10 := fun h1 => listed_set_mono (h.o10 ((set_listed h1).resolve_left (by decide)))
  o12 := fun h1 => by
    have := h.o12 ((set_listed h1).resolve_left (by decide))
    simp only [listed_set_mono this.1, listed_set_mono this.2.1, listed_set_mono this.2.2.1, listed_set_mono this.2.2.2.1, listed_set_mono this.2.2.2.2.1, listed_set_mono this.2.2.2.2.2.1, listed_set_mono this.2.2.2.2.2.2.1, listed_set_mono this.2.2.2.2.2.2.2.1, listed_set_mono this.2.2.2.2.2.2.2.2.1, listed_set_mono this.2.2.2.2.2.2.2.2.2.1, listed_set_mono this.2.2.2.2.2.2.2.2.2.2, and_self]
  o13 := fun _ => ⟨listed_set_mono l10, listed_set_mono l12⟩
  f0 := fun h1 => by have := h.f0 ((set_listed h1).resolve_left (by decide)); simpa using this
  f1 := fun h1 => by have := h.f1 ((set_listed h1).resolve_left (by decide)); simpa using this
  f2 := fun h1 => by have := h.f2 ((set_listed h1).resolve_left (by decide)); simpa using this
  f3 := fun h1 => by have := h.f3 ((set_listed h1).resolve_left (by decide)); simpa using this
  f4 := fun h1 => by have := h.f4 ((set_listed h1).resolve_left (by decide)); simpa using this
  f5 := fun h1 => by have := h.f5 ((set_listed h1).resolve_left (by decide)); simpa using this
  f6 := fun h1 => by have := h.f6 ((set_listed h1).resolve_left (by decide)); simpa using this
  f7 := fun h1 => by have := h.f7 ((set_listed h1).resolve_left (by decide)); simpa using this
  f8 := fun h1 => by have := h.f8 ((set_listed h1).resolve_left (by decide)); simpa using this
  f9 := fun h1 => by have := h.f9 ((set_listed h1).resolve_left (by decide)); simpa using this
  f10 := fun h1 => by have := h.f10 ((set_listed h1).resolve_left (by decide)); simpa using this
  f11 := fun h1 => by have := h.f11 ((set_listed h1).resolve_left (by decide)); simpa using this
  f13 := fun _ => by simpa using hf
end

set_option maxRecDepth 100000 in
set_option maxHeartbeats 4000000 in
theorem rst_region {id : Nat} {ty0 : TypeId} {po0 : String} {af0 : Array Edge} {ty1 : TypeId} {po1 : String} {af1 : Array Edge} {ty2 : TypeId} {po2 : String} {af2 : Array Edge} {ty3 : TypeId} {po3 : String} {af3 : Array Edge} {ty4 : TypeId} {po4 : String} {af4 : Array Edge} {ty5 : TypeId} {po5 : String} {af5 : Array Edge} {ty6 : TypeId} {po6 : String} {af6 : Array Edge} {ty7 : TypeId} {po7 : String} {af7 : Array Edge} {ty8 : TypeId} {po8 : String} {af8 : Array Edge} {ty9 : TypeId} {po9 : String} {af9 : Array Edge} {ty10 : TypeId} {po10 : String} {af10 : Array Edge} {ty11 : TypeId} {po11 : String} {af11 : Array Edge} {ty12 : TypeId} {po12 : String} {af12 : Array Edge} {ty13 : TypeId} {po13 : String} {af13 : Array Edge} {Q : Exit → Act → World → Prop} {A : World} {v0 v2 v4 v5 v6 v7 v8 v9 v10 v12 v15 v16 v17 v18 v19 v20 v21 v22 v23 v24 v25 v26 v27 v28 v29 v30 v31 v32 v33 v34 v35 v36 v37 v38 v39 v40 v41 v42 v43 v44 v45 v46 v47 v48 v49 v50 v51 v52 v53 v54 v55 v56 v57 v58 v59 v60 v61 v62 v63 v64 v65 v66 v67 v68 v69 v70 v71 v72 v73 v74 v75 v76 v77 v78 v79 v80 v81 v82 v83 v84 v85 v86 v98 v99 v100 v101 v102 v103 v104 v105 v106 v107 v108 v109 v110 v111 v112 v113 v114 v115 : Value} {u13 u14 u87 u88 u89 u90 u91 u92 u93 u94 u95 u96 u97 : Value} (n1 : Nat) (n3 : Nat) (rid : Int) (ver : Int) (kind : Int) (lang : ByteArray) (n : Nat) (rc : Nat) (ba : Option Addr) (bn : Nat) (bc : Nat) (kk : Nat) (pb : Nat) (po : Nat) (T : ByteArray) (I : ByteArray) (sa : Option Addr) (sn : Nat) (sc : Nat) (au : Int) (R2 : Rec)
    (hn1 : A.heap[n1]? = some (recO rid ver kind lang (some ⟨pb, po, none⟩) n rc)) (hn3 : A.heap[n3]? = some (recO rid ver kind lang ba bn bc)) (hkn : (kk : Int) < (n : Int)) (c0 : A.cell? ⟨pb, po + kk * 4, none⟩ = some (.string T)) (c1 : A.cell? ⟨pb, po + kk * 4 + 1, none⟩ = some (.string I)) (c2 : A.cell? ⟨pb, po + kk * 4 + 2, none⟩ = some (.slice sa sn sc)) (c3 : A.cell? ⟨pb, po + kk * 4 + 3, none⟩ = some (.int .i64 au)) (hii : Hid (∀ W, Below A.heap.size A W → Calls Tryz.prog 21 #[.agg #[.int .i64 rid, .int .i64 ver, .int .i64 kind, .string lang, .slice ba bn bc], .int .i64 (kk : Int), .agg #[.string T, .string I, .slice sa sn sc, .int .i64 au]] W (RetR W (R2, 0))))
    (hw3_2 : waits .any #[⟨some 88, .load 24 (.tmp 11), ty0, po0, af0, none⟩, ⟨some 89, .move (.tmp 1), ty1, po1, af1, none⟩, ⟨some 90, .fieldAddr 24 (.tmp 3) 4, ty2, po2, af2, none⟩, ⟨some 91, .load 22 (.tmp 90), ty3, po3, af3, none⟩, ⟨some 92, .move (.tmp 1), ty4, po4, af4, none⟩, ⟨some 93, .indexAddr 22 (.tmp 91) (.tmp 92), ty5, po5, af5, none⟩, ⟨some 94, .load 35 (.tmp 93), ty6, po6, af6, none⟩, ⟨some 95, .call { callee := .value (.func 21), args := #[.tmp 88, .tmp 89, .tmp 94], argTypes := #[24, 3, 35] }, ty7, po7, af7, none⟩, ⟨some 87, .move (.tmp 95), ty8, po8, af8, none⟩, ⟨some 96, .extract (.tmp 87) 0, ty9, po9, af9, none⟩, ⟨some 97, .extract (.tmp 87) 1, ty10, po10, af10, none⟩, ⟨some 13, .alloc 24, ty11, po11, af11, none⟩, ⟨none, .store 24 (.tmp 13) (.tmp 96), ty12, po12, af12, none⟩, ⟨some 14, .assign (.tmp 97), ty13, po13, af13, none⟩] 3 2 = true)
    (hw5_3 : waits .any #[⟨some 88, .load 24 (.tmp 11), ty0, po0, af0, none⟩, ⟨some 89, .move (.tmp 1), ty1, po1, af1, none⟩, ⟨some 90, .fieldAddr 24 (.tmp 3) 4, ty2, po2, af2, none⟩, ⟨some 91, .load 22 (.tmp 90), ty3, po3, af3, none⟩, ⟨some 92, .move (.tmp 1), ty4, po4, af4, none⟩, ⟨some 93, .indexAddr 22 (.tmp 91) (.tmp 92), ty5, po5, af5, none⟩, ⟨some 94, .load 35 (.tmp 93), ty6, po6, af6, none⟩, ⟨some 95, .call { callee := .value (.func 21), args := #[.tmp 88, .tmp 89, .tmp 94], argTypes := #[24, 3, 35] }, ty7, po7, af7, none⟩, ⟨some 87, .move (.tmp 95), ty8, po8, af8, none⟩, ⟨some 96, .extract (.tmp 87) 0, ty9, po9, af9, none⟩, ⟨some 97, .extract (.tmp 87) 1, ty10, po10, af10, none⟩, ⟨some 13, .alloc 24, ty11, po11, af11, none⟩, ⟨none, .store 24 (.tmp 13) (.tmp 96), ty12, po12, af12, none⟩, ⟨some 14, .assign (.tmp 97), ty13, po13, af13, none⟩] 5 3 = true)
    (hw5_4 : waits .any #[⟨some 88, .load 24 (.tmp 11), ty0, po0, af0, none⟩, ⟨some 89, .move (.tmp 1), ty1, po1, af1, none⟩, ⟨some 90, .fieldAddr 24 (.tmp 3) 4, ty2, po2, af2, none⟩, ⟨some 91, .load 22 (.tmp 90), ty3, po3, af3, none⟩, ⟨some 92, .move (.tmp 1), ty4, po4, af4, none⟩, ⟨some 93, .indexAddr 22 (.tmp 91) (.tmp 92), ty5, po5, af5, none⟩, ⟨some 94, .load 35 (.tmp 93), ty6, po6, af6, none⟩, ⟨some 95, .call { callee := .value (.func 21), args := #[.tmp 88, .tmp 89, .tmp 94], argTypes := #[24, 3, 35] }, ty7, po7, af7, none⟩, ⟨some 87, .move (.tmp 95), ty8, po8, af8, none⟩, ⟨some 96, .extract (.tmp 87) 0, ty9, po9, af9, none⟩, ⟨some 97, .extract (.tmp 87) 1, ty10, po10, af10, none⟩, ⟨some 13, .alloc 24, ty11, po11, af11, none⟩, ⟨none, .store 24 (.tmp 13) (.tmp 96), ty12, po12, af12, none⟩, ⟨some 14, .assign (.tmp 97), ty13, po13, af13, none⟩] 5 4 = true)
    (hw6_5 : waits .any #[⟨some 88, .load 24 (.tmp 11), ty0, po0, af0, none⟩, ⟨some 89, .move (.tmp 1), ty1, po1, af1, none⟩, ⟨some 90, .fieldAddr 24 (.tmp 3) 4, ty2, po2, af2, none⟩, ⟨some 91, .load 22 (.tmp 90), ty3, po3, af3, none⟩, ⟨some 92, .move (.tmp 1), ty4, po4, af4, none⟩, ⟨some 93, .indexAddr 22 (.tmp 91) (.tmp 92), ty5, po5, af5, none⟩, ⟨some 94, .load 35 (.tmp 93), ty6, po6, af6, none⟩, ⟨some 95, .call { callee := .value (.func 21), args := #[.tmp 88, .tmp 89, .tmp 94], argTypes := #[24, 3, 35] }, ty7, po7, af7, none⟩, ⟨some 87, .move (.tmp 95), ty8, po8, af8, none⟩, ⟨some 96, .extract (.tmp 87) 0, ty9, po9, af9, none⟩, ⟨some 97, .extract (.tmp 87) 1, ty10, po10, af10, none⟩, ⟨some 13, .alloc 24, ty11, po11, af11, none⟩, ⟨none, .store 24 (.tmp 13) (.tmp 96), ty12, po12, af12, none⟩, ⟨some 14, .assign (.tmp 97), ty13, po13, af13, none⟩] 6 5 = true)
    (hw7_0 : waits .any #[⟨some 88, .load 24 (.tmp 11), ty0, po0, af0, none⟩, ⟨some 89, .move (.tmp 1), ty1, po1, af1, none⟩, ⟨some 90, .fieldAddr 24 (.tmp 3) 4, ty2, po2, af2, none⟩, ⟨some 91, .load 22 (.tmp 90), ty3, po3, af3, none⟩, ⟨some 92, .move (.tmp 1), ty4, po4, af4, none⟩, ⟨some 93, .indexAddr 22 (.tmp 91) (.tmp 92), ty5, po5, af5, none⟩, ⟨some 94, .load 35 (.tmp 93), ty6, po6, af6, none⟩, ⟨some 95, .call { callee := .value (.func 21), args := #[.tmp 88, .tmp 89, .tmp 94], argTypes := #[24, 3, 35] }, ty7, po7, af7, none⟩, ⟨some 87, .move (.tmp 95), ty8, po8, af8, none⟩, ⟨some 96, .extract (.tmp 87) 0, ty9, po9, af9, none⟩, ⟨some 97, .extract (.tmp 87) 1, ty10, po10, af10, none⟩, ⟨some 13, .alloc 24, ty11, po11, af11, none⟩, ⟨none, .store 24 (.tmp 13) (.tmp 96), ty12, po12, af12, none⟩, ⟨some 14, .assign (.tmp 97), ty13, po13, af13, none⟩] 7 0 = true)
    (hw7_1 : waits .any #[⟨some 88, .load 24 (.tmp 11), ty0, po0, af0, none⟩, ⟨some 89, .move (.tmp 1), ty1, po1, af1, none⟩, ⟨some 90, .fieldAddr 24 (.tmp 3) 4, ty2, po2, af2, none⟩, ⟨some 91, .load 22 (.tmp 90), ty3, po3, af3, none⟩, ⟨some 92, .move (.tmp 1), ty4, po4, af4, none⟩, ⟨some 93, .indexAddr 22 (.tmp 91) (.tmp 92), ty5, po5, af5, none⟩, ⟨some 94, .load 35 (.tmp 93), ty6, po6, af6, none⟩, ⟨some 95, .call { callee := .value (.func 21), args := #[.tmp 88, .tmp 89, .tmp 94], argTypes := #[24, 3, 35] }, ty7, po7, af7, none⟩, ⟨some 87, .move (.tmp 95), ty8, po8, af8, none⟩, ⟨some 96, .extract (.tmp 87) 0, ty9, po9, af9, none⟩, ⟨some 97, .extract (.tmp 87) 1, ty10, po10, af10, none⟩, ⟨some 13, .alloc 24, ty11, po11, af11, none⟩, ⟨none, .store 24 (.tmp 13) (.tmp 96), ty12, po12, af12, none⟩, ⟨some 14, .assign (.tmp 97), ty13, po13, af13, none⟩] 7 1 = true)
    (hw7_6 : waits .any #[⟨some 88, .load 24 (.tmp 11), ty0, po0, af0, none⟩, ⟨some 89, .move (.tmp 1), ty1, po1, af1, none⟩, ⟨some 90, .fieldAddr 24 (.tmp 3) 4, ty2, po2, af2, none⟩, ⟨some 91, .load 22 (.tmp 90), ty3, po3, af3, none⟩, ⟨some 92, .move (.tmp 1), ty4, po4, af4, none⟩, ⟨some 93, .indexAddr 22 (.tmp 91) (.tmp 92), ty5, po5, af5, none⟩, ⟨some 94, .load 35 (.tmp 93), ty6, po6, af6, none⟩, ⟨some 95, .call { callee := .value (.func 21), args := #[.tmp 88, .tmp 89, .tmp 94], argTypes := #[24, 3, 35] }, ty7, po7, af7, none⟩, ⟨some 87, .move (.tmp 95), ty8, po8, af8, none⟩, ⟨some 96, .extract (.tmp 87) 0, ty9, po9, af9, none⟩, ⟨some 97, .extract (.tmp 87) 1, ty10, po10, af10, none⟩, ⟨some 13, .alloc 24, ty11, po11, af11, none⟩, ⟨none, .store 24 (.tmp 13) (.tmp 96), ty12, po12, af12, none⟩, ⟨some 14, .assign (.tmp 97), ty13, po13, af13, none⟩] 7 6 = true)
    (hw8_7 : waits .any #[⟨some 88, .load 24 (.tmp 11), ty0, po0, af0, none⟩, ⟨some 89, .move (.tmp 1), ty1, po1, af1, none⟩, ⟨some 90, .fieldAddr 24 (.tmp 3) 4, ty2, po2, af2, none⟩, ⟨some 91, .load 22 (.tmp 90), ty3, po3, af3, none⟩, ⟨some 92, .move (.tmp 1), ty4, po4, af4, none⟩, ⟨some 93, .indexAddr 22 (.tmp 91) (.tmp 92), ty5, po5, af5, none⟩, ⟨some 94, .load 35 (.tmp 93), ty6, po6, af6, none⟩, ⟨some 95, .call { callee := .value (.func 21), args := #[.tmp 88, .tmp 89, .tmp 94], argTypes := #[24, 3, 35] }, ty7, po7, af7, none⟩, ⟨some 87, .move (.tmp 95), ty8, po8, af8, none⟩, ⟨some 96, .extract (.tmp 87) 0, ty9, po9, af9, none⟩, ⟨some 97, .extract (.tmp 87) 1, ty10, po10, af10, none⟩, ⟨some 13, .alloc 24, ty11, po11, af11, none⟩, ⟨none, .store 24 (.tmp 13) (.tmp 96), ty12, po12, af12, none⟩, ⟨some 14, .assign (.tmp 97), ty13, po13, af13, none⟩] 8 7 = true)
    (hw9_8 : waits .any #[⟨some 88, .load 24 (.tmp 11), ty0, po0, af0, none⟩, ⟨some 89, .move (.tmp 1), ty1, po1, af1, none⟩, ⟨some 90, .fieldAddr 24 (.tmp 3) 4, ty2, po2, af2, none⟩, ⟨some 91, .load 22 (.tmp 90), ty3, po3, af3, none⟩, ⟨some 92, .move (.tmp 1), ty4, po4, af4, none⟩, ⟨some 93, .indexAddr 22 (.tmp 91) (.tmp 92), ty5, po5, af5, none⟩, ⟨some 94, .load 35 (.tmp 93), ty6, po6, af6, none⟩, ⟨some 95, .call { callee := .value (.func 21), args := #[.tmp 88, .tmp 89, .tmp 94], argTypes := #[24, 3, 35] }, ty7, po7, af7, none⟩, ⟨some 87, .move (.tmp 95), ty8, po8, af8, none⟩, ⟨some 96, .extract (.tmp 87) 0, ty9, po9, af9, none⟩, ⟨some 97, .extract (.tmp 87) 1, ty10, po10, af10, none⟩, ⟨some 13, .alloc 24, ty11, po11, af11, none⟩, ⟨none, .store 24 (.tmp 13) (.tmp 96), ty12, po12, af12, none⟩, ⟨some 14, .assign (.tmp 97), ty13, po13, af13, none⟩] 9 8 = true)
    (hw10_8 : waits .any #[⟨some 88, .load 24 (.tmp 11), ty0, po0, af0, none⟩, ⟨some 89, .move (.tmp 1), ty1, po1, af1, none⟩, ⟨some 90, .fieldAddr 24 (.tmp 3) 4, ty2, po2, af2, none⟩, ⟨some 91, .load 22 (.tmp 90), ty3, po3, af3, none⟩, ⟨some 92, .move (.tmp 1), ty4, po4, af4, none⟩, ⟨some 93, .indexAddr 22 (.tmp 91) (.tmp 92), ty5, po5, af5, none⟩, ⟨some 94, .load 35 (.tmp 93), ty6, po6, af6, none⟩, ⟨some 95, .call { callee := .value (.func 21), args := #[.tmp 88, .tmp 89, .tmp 94], argTypes := #[24, 3, 35] }, ty7, po7, af7, none⟩, ⟨some 87, .move (.tmp 95), ty8, po8, af8, none⟩, ⟨some 96, .extract (.tmp 87) 0, ty9, po9, af9, none⟩, ⟨some 97, .extract (.tmp 87) 1, ty10, po10, af10, none⟩, ⟨some 13, .alloc 24, ty11, po11, af11, none⟩, ⟨none, .store 24 (.tmp 13) (.tmp 96), ty12, po12, af12, none⟩, ⟨some 14, .assign (.tmp 97), ty13, po13, af13, none⟩] 10 8 = true)
    (hw12_0 : waits .any #[⟨some 88, .load 24 (.tmp 11), ty0, po0, af0, none⟩, ⟨some 89, .move (.tmp 1), ty1, po1, af1, none⟩, ⟨some 90, .fieldAddr 24 (.tmp 3) 4, ty2, po2, af2, none⟩, ⟨some 91, .load 22 (.tmp 90), ty3, po3, af3, none⟩, ⟨some 92, .move (.tmp 1), ty4, po4, af4, none⟩, ⟨some 93, .indexAddr 22 (.tmp 91) (.tmp 92), ty5, po5, af5, none⟩, ⟨some 94, .load 35 (.tmp 93), ty6, po6, af6, none⟩, ⟨some 95, .call { callee := .value (.func 21), args := #[.tmp 88, .tmp 89, .tmp 94], argTypes := #[24, 3, 35] }, ty7, po7, af7, none⟩, ⟨some 87, .move (.tmp 95), ty8, po8, af8, none⟩, ⟨some 96, .extract (.tmp 87) 0, ty9, po9, af9, none⟩, ⟨some 97, .extract (.tmp 87) 1, ty10, po10, af10, none⟩, ⟨some 13, .alloc 24, ty11, po11, af11, none⟩, ⟨none, .store 24 (.tmp 13) (.tmp 96), ty12, po12, af12, none⟩, ⟨some 14, .assign (.tmp 97), ty13, po13, af13, none⟩] 12 0 = true)
    (hw12_1 : waits .any #[⟨some 88, .load 24 (.tmp 11), ty0, po0, af0, none⟩, ⟨some 89, .move (.tmp 1), ty1, po1, af1, none⟩, ⟨some 90, .fieldAddr 24 (.tmp 3) 4, ty2, po2, af2, none⟩, ⟨some 91, .load 22 (.tmp 90), ty3, po3, af3, none⟩, ⟨some 92, .move (.tmp 1), ty4, po4, af4, none⟩, ⟨some 93, .indexAddr 22 (.tmp 91) (.tmp 92), ty5, po5, af5, none⟩, ⟨some 94, .load 35 (.tmp 93), ty6, po6, af6, none⟩, ⟨some 95, .call { callee := .value (.func 21), args := #[.tmp 88, .tmp 89, .tmp 94], argTypes := #[24, 3, 35] }, ty7, po7, af7, none⟩, ⟨some 87, .move (.tmp 95), ty8, po8, af8, none⟩, ⟨some 96, .extract (.tmp 87) 0, ty9, po9, af9, none⟩, ⟨some 97, .extract (.tmp 87) 1, ty10, po10, af10, none⟩, ⟨some 13, .alloc 24, ty11, po11, af11, none⟩, ⟨none, .store 24 (.tmp 13) (.tmp 96), ty12, po12, af12, none⟩, ⟨some 14, .assign (.tmp 97), ty13, po13, af13, none⟩] 12 1 = true)
    (hw12_2 : waits .any #[⟨some 88, .load 24 (.tmp 11), ty0, po0, af0, none⟩, ⟨some 89, .move (.tmp 1), ty1, po1, af1, none⟩, ⟨some 90, .fieldAddr 24 (.tmp 3) 4, ty2, po2, af2, none⟩, ⟨some 91, .load 22 (.tmp 90), ty3, po3, af3, none⟩, ⟨some 92, .move (.tmp 1), ty4, po4, af4, none⟩, ⟨some 93, .indexAddr 22 (.tmp 91) (.tmp 92), ty5, po5, af5, none⟩, ⟨some 94, .load 35 (.tmp 93), ty6, po6, af6, none⟩, ⟨some 95, .call { callee := .value (.func 21), args := #[.tmp 88, .tmp 89, .tmp 94], argTypes := #[24, 3, 35] }, ty7, po7, af7, none⟩, ⟨some 87, .move (.tmp 95), ty8, po8, af8, none⟩, ⟨some 96, .extract (.tmp 87) 0, ty9, po9, af9, none⟩, ⟨some 97, .extract (.tmp 87) 1, ty10, po10, af10, none⟩, ⟨some 13, .alloc 24, ty11, po11, af11, none⟩, ⟨none, .store 24 (.tmp 13) (.tmp 96), ty12, po12, af12, none⟩, ⟨some 14, .assign (.tmp 97), ty13, po13, af13, none⟩] 12 2 = true)
    (hw12_3 : waits .any #[⟨some 88, .load 24 (.tmp 11), ty0, po0, af0, none⟩, ⟨some 89, .move (.tmp 1), ty1, po1, af1, none⟩, ⟨some 90, .fieldAddr 24 (.tmp 3) 4, ty2, po2, af2, none⟩, ⟨some 91, .load 22 (.tmp 90), ty3, po3, af3, none⟩, ⟨some 92, .move (.tmp 1), ty4, po4, af4, none⟩, ⟨some 93, .indexAddr 22 (.tmp 91) (.tmp 92), ty5, po5, af5, none⟩, ⟨some 94, .load 35 (.tmp 93), ty6, po6, af6, none⟩, ⟨some 95, .call { callee := .value (.func 21), args := #[.tmp 88, .tmp 89, .tmp 94], argTypes := #[24, 3, 35] }, ty7, po7, af7, none⟩, ⟨some 87, .move (.tmp 95), ty8, po8, af8, none⟩, ⟨some 96, .extract (.tmp 87) 0, ty9, po9, af9, none⟩, ⟨some 97, .extract (.tmp 87) 1, ty10, po10, af10, none⟩, ⟨some 13, .alloc 24, ty11, po11, af11, none⟩, ⟨none, .store 24 (.tmp 13) (.tmp 96), ty12, po12, af12, none⟩, ⟨some 14, .assign (.tmp 97), ty13, po13, af13, none⟩] 12 3 = true)
    (hw12_4 : waits .any #[⟨some 88, .load 24 (.tmp 11), ty0, po0, af0, none⟩, ⟨some 89, .move (.tmp 1), ty1, po1, af1, none⟩, ⟨some 90, .fieldAddr 24 (.tmp 3) 4, ty2, po2, af2, none⟩, ⟨some 91, .load 22 (.tmp 90), ty3, po3, af3, none⟩, ⟨some 92, .move (.tmp 1), ty4, po4, af4, none⟩, ⟨some 93, .indexAddr 22 (.tmp 91) (.tmp 92), ty5, po5, af5, none⟩, ⟨some 94, .load 35 (.tmp 93), ty6, po6, af6, none⟩, ⟨some 95, .call { callee := .value (.func 21), args := #[.tmp 88, .tmp 89, .tmp 94], argTypes := #[24, 3, 35] }, ty7, po7, af7, none⟩, ⟨some 87, .move (.tmp 95), ty8, po8, af8, none⟩, ⟨some 96, .extract (.tmp 87) 0, ty9, po9, af9, none⟩, ⟨some 97, .extract (.tmp 87) 1, ty10, po10, af10, none⟩, ⟨some 13, .alloc 24, ty11, po11, af11, none⟩, ⟨none, .store 24 (.tmp 13) (.tmp 96), ty12, po12, af12, none⟩, ⟨some 14, .assign (.tmp 97), ty13, po13, af13, none⟩] 12 4 = true)
    (hw12_5 : waits .any #[⟨some 88, .load 24 (.tmp 11), ty0, po0, af0, none⟩, ⟨some 89, .move (.tmp 1), ty1, po1, af1, none⟩, ⟨some 90, .fieldAddr 24 (.tmp 3) 4, ty2, po2, af2, none⟩, ⟨some 91, .load 22 (.tmp 90), ty3, po3, af3, none⟩, ⟨some 92, .move (.tmp 1), ty4, po4, af4, none⟩, ⟨some 93, .indexAddr 22 (.tmp 91) (.tmp 92), ty5, po5, af5, none⟩, ⟨some 94, .load 35 (.tmp 93), ty6, po6, af6, none⟩, ⟨some 95, .call { callee := .value (.func 21), args := #[.tmp 88, .tmp 89, .tmp 94], argTypes := #[24, 3, 35] }, ty7, po7, af7, none⟩, ⟨some 87, .move (.tmp 95), ty8, po8, af8, none⟩, ⟨some 96, .extract (.tmp 87) 0, ty9, po9, af9, none⟩, ⟨some 97, .extract (.tmp 87) 1, ty10, po10, af10, none⟩, ⟨some 13, .alloc 24, ty11, po11, af11, none⟩, ⟨none, .store 24 (.tmp 13) (.tmp 96), ty12, po12, af12, none⟩, ⟨some 14, .assign (.tmp 97), ty13, po13, af13, none⟩] 12 5 = true)
    (hw12_6 : waits .any #[⟨some 88, .load 24 (.tmp 11), ty0, po0, af0, none⟩, ⟨some 89, .move (.tmp 1), ty1, po1, af1, none⟩, ⟨some 90, .fieldAddr 24 (.tmp 3) 4, ty2, po2, af2, none⟩, ⟨some 91, .load 22 (.tmp 90), ty3, po3, af3, none⟩, ⟨some 92, .move (.tmp 1), ty4, po4, af4, none⟩, ⟨some 93, .indexAddr 22 (.tmp 91) (.tmp 92), ty5, po5, af5, none⟩, ⟨some 94, .load 35 (.tmp 93), ty6, po6, af6, none⟩, ⟨some 95, .call { callee := .value (.func 21), args := #[.tmp 88, .tmp 89, .tmp 94], argTypes := #[24, 3, 35] }, ty7, po7, af7, none⟩, ⟨some 87, .move (.tmp 95), ty8, po8, af8, none⟩, ⟨some 96, .extract (.tmp 87) 0, ty9, po9, af9, none⟩, ⟨some 97, .extract (.tmp 87) 1, ty10, po10, af10, none⟩, ⟨some 13, .alloc 24, ty11, po11, af11, none⟩, ⟨none, .store 24 (.tmp 13) (.tmp 96), ty12, po12, af12, none⟩, ⟨some 14, .assign (.tmp 97), ty13, po13, af13, none⟩] 12 6 = true)
    (hw12_7 : waits .any #[⟨some 88, .load 24 (.tmp 11), ty0, po0, af0, none⟩, ⟨some 89, .move (.tmp 1), ty1, po1, af1, none⟩, ⟨some 90, .fieldAddr 24 (.tmp 3) 4, ty2, po2, af2, none⟩, ⟨some 91, .load 22 (.tmp 90), ty3, po3, af3, none⟩, ⟨some 92, .move (.tmp 1), ty4, po4, af4, none⟩, ⟨some 93, .indexAddr 22 (.tmp 91) (.tmp 92), ty5, po5, af5, none⟩, ⟨some 94, .load 35 (.tmp 93), ty6, po6, af6, none⟩, ⟨some 95, .call { callee := .value (.func 21), args := #[.tmp 88, .tmp 89, .tmp 94], argTypes := #[24, 3, 35] }, ty7, po7, af7, none⟩, ⟨some 87, .move (.tmp 95), ty8, po8, af8, none⟩, ⟨some 96, .extract (.tmp 87) 0, ty9, po9, af9, none⟩, ⟨some 97, .extract (.tmp 87) 1, ty10, po10, af10, none⟩, ⟨some 13, .alloc 24, ty11, po11, af11, none⟩, ⟨none, .store 24 (.tmp 13) (.tmp 96), ty12, po12, af12, none⟩, ⟨some 14, .assign (.tmp 97), ty13, po13, af13, none⟩] 12 7 = true)
    (hw12_8 : waits .any #[⟨some 88, .load 24 (.tmp 11), ty0, po0, af0, none⟩, ⟨some 89, .move (.tmp 1), ty1, po1, af1, none⟩, ⟨some 90, .fieldAddr 24 (.tmp 3) 4, ty2, po2, af2, none⟩, ⟨some 91, .load 22 (.tmp 90), ty3, po3, af3, none⟩, ⟨some 92, .move (.tmp 1), ty4, po4, af4, none⟩, ⟨some 93, .indexAddr 22 (.tmp 91) (.tmp 92), ty5, po5, af5, none⟩, ⟨some 94, .load 35 (.tmp 93), ty6, po6, af6, none⟩, ⟨some 95, .call { callee := .value (.func 21), args := #[.tmp 88, .tmp 89, .tmp 94], argTypes := #[24, 3, 35] }, ty7, po7, af7, none⟩, ⟨some 87, .move (.tmp 95), ty8, po8, af8, none⟩, ⟨some 96, .extract (.tmp 87) 0, ty9, po9, af9, none⟩, ⟨some 97, .extract (.tmp 87) 1, ty10, po10, af10, none⟩, ⟨some 13, .alloc 24, ty11, po11, af11, none⟩, ⟨none, .store 24 (.tmp 13) (.tmp 96), ty12, po12, af12, none⟩, ⟨some 14, .assign (.tmp 97), ty13, po13, af13, none⟩] 12 8 = true)
    (hw12_9 : waits .any #[⟨some 88, .load 24 (.tmp 11), ty0, po0, af0, none⟩, ⟨some 89, .move (.tmp 1), ty1, po1, af1, none⟩, ⟨some 90, .fieldAddr 24 (.tmp 3) 4, ty2, po2, af2, none⟩, ⟨some 91, .load 22 (.tmp 90), ty3, po3, af3, none⟩, ⟨some 92, .move (.tmp 1), ty4, po4, af4, none⟩, ⟨some 93, .indexAddr 22 (.tmp 91) (.tmp 92), ty5, po5, af5, none⟩, ⟨some 94, .load 35 (.tmp 93), ty6, po6, af6, none⟩, ⟨some 95, .call { callee := .value (.func 21), args := #[.tmp 88, .tmp 89, .tmp 94], argTypes := #[24, 3, 35] }, ty7, po7, af7, none⟩, ⟨some 87, .move (.tmp 95), ty8, po8, af8, none⟩, ⟨some 96, .extract (.tmp 87) 0, ty9, po9, af9, none⟩, ⟨some 97, .extract (.tmp 87) 1, ty10, po10, af10, none⟩, ⟨some 13, .alloc 24, ty11, po11, af11, none⟩, ⟨none, .store 24 (.tmp 13) (.tmp 96), ty12, po12, af12, none⟩, ⟨some 14, .assign (.tmp 97), ty13, po13, af13, none⟩] 12 9 = true)
    (hw12_11 : waits .any #[⟨some 88, .load 24 (.tmp 11), ty0, po0, af0, none⟩, ⟨some 89, .move (.tmp 1), ty1, po1, af1, none⟩, ⟨some 90, .fieldAddr 24 (.tmp 3) 4, ty2, po2, af2, none⟩, ⟨some 91, .load 22 (.tmp 90), ty3, po3, af3, none⟩, ⟨some 92, .move (.tmp 1), ty4, po4, af4, none⟩, ⟨some 93, .indexAddr 22 (.tmp 91) (.tmp 92), ty5, po5, af5, none⟩, ⟨some 94, .load 35 (.tmp 93), ty6, po6, af6, none⟩, ⟨some 95, .call { callee := .value (.func 21), args := #[.tmp 88, .tmp 89, .tmp 94], argTypes := #[24, 3, 35] }, ty7, po7, af7, none⟩, ⟨some 87, .move (.tmp 95), ty8, po8, af8, none⟩, ⟨some 96, .extract (.tmp 87) 0, ty9, po9, af9, none⟩, ⟨some 97, .extract (.tmp 87) 1, ty10, po10, af10, none⟩, ⟨some 13, .alloc 24, ty11, po11, af11, none⟩, ⟨none, .store 24 (.tmp 13) (.tmp 96), ty12, po12, af12, none⟩, ⟨some 14, .assign (.tmp 97), ty13, po13, af13, none⟩] 12 11 = true)
    (hw13_10 : waits .any #[⟨some 88, .load 24 (.tmp 11), ty0, po0, af0, none⟩, ⟨some 89, .move (.tmp 1), ty1, po1, af1, none⟩, ⟨some 90, .fieldAddr 24 (.tmp 3) 4, ty2, po2, af2, none⟩, ⟨some 91, .load 22 (.tmp 90), ty3, po3, af3, none⟩, ⟨some 92, .move (.tmp 1), ty4, po4, af4, none⟩, ⟨some 93, .indexAddr 22 (.tmp 91) (.tmp 92), ty5, po5, af5, none⟩, ⟨some 94, .load 35 (.tmp 93), ty6, po6, af6, none⟩, ⟨some 95, .call { callee := .value (.func 21), args := #[.tmp 88, .tmp 89, .tmp 94], argTypes := #[24, 3, 35] }, ty7, po7, af7, none⟩, ⟨some 87, .move (.tmp 95), ty8, po8, af8, none⟩, ⟨some 96, .extract (.tmp 87) 0, ty9, po9, af9, none⟩, ⟨some 97, .extract (.tmp 87) 1, ty10, po10, af10, none⟩, ⟨some 13, .alloc 24, ty11, po11, af11, none⟩, ⟨none, .store 24 (.tmp 13) (.tmp 96), ty12, po12, af12, none⟩, ⟨some 14, .assign (.tmp 97), ty13, po13, af13, none⟩] 13 10 = true)
    (hw13_12 : waits .any #[⟨some 88, .load 24 (.tmp 11), ty0, po0, af0, none⟩, ⟨some 89, .move (.tmp 1), ty1, po1, af1, none⟩, ⟨some 90, .fieldAddr 24 (.tmp 3) 4, ty2, po2, af2, none⟩, ⟨some 91, .load 22 (.tmp 90), ty3, po3, af3, none⟩, ⟨some 92, .move (.tmp 1), ty4, po4, af4, none⟩, ⟨some 93, .indexAddr 22 (.tmp 91) (.tmp 92), ty5, po5, af5, none⟩, ⟨some 94, .load 35 (.tmp 93), ty6, po6, af6, none⟩, ⟨some 95, .call { callee := .value (.func 21), args := #[.tmp 88, .tmp 89, .tmp 94], argTypes := #[24, 3, 35] }, ty7, po7, af7, none⟩, ⟨some 87, .move (.tmp 95), ty8, po8, af8, none⟩, ⟨some 96, .extract (.tmp 87) 0, ty9, po9, af9, none⟩, ⟨some 97, .extract (.tmp 87) 1, ty10, po10, af10, none⟩, ⟨some 13, .alloc 24, ty11, po11, af11, none⟩, ⟨none, .store 24 (.tmp 13) (.tmp 96), ty12, po12, af12, none⟩, ⟨some 14, .assign (.tmp 97), ty13, po13, af13, none⟩] 13 12 = true)
    (hfw : forwardB .any #[⟨some 88, .load 24 (.tmp 11), ty0, po0, af0, none⟩, ⟨some 89, .move (.tmp 1), ty1, po1, af1, none⟩, ⟨some 90, .fieldAddr 24 (.tmp 3) 4, ty2, po2, af2, none⟩, ⟨some 91, .load 22 (.tmp 90), ty3, po3, af3, none⟩, ⟨some 92, .move (.tmp 1), ty4, po4, af4, none⟩, ⟨some 93, .indexAddr 22 (.tmp 91) (.tmp 92), ty5, po5, af5, none⟩, ⟨some 94, .load 35 (.tmp 93), ty6, po6, af6, none⟩, ⟨some 95, .call { callee := .value (.func 21), args := #[.tmp 88, .tmp 89, .tmp 94], argTypes := #[24, 3, 35] }, ty7, po7, af7, none⟩, ⟨some 87, .move (.tmp 95), ty8, po8, af8, none⟩, ⟨some 96, .extract (.tmp 87) 0, ty9, po9, af9, none⟩, ⟨some 97, .extract (.tmp 87) 1, ty10, po10, af10, none⟩, ⟨some 13, .alloc 24, ty11, po11, af11, none⟩, ⟨none, .store 24 (.tmp 13) (.tmp 96), ty12, po12, af12, none⟩, ⟨some 14, .assign (.tmp 97), ty13, po13, af13, none⟩] = true)
    (hQ : ∀ (xs : Nat → Value) (W : World) (Z : World), Below A.heap.size A W → ((xs 14) = .int .i64 0) → (∃ (g : Nat) (a : Option Addr) (c : Nat), (xs 13) = .pointer (some ⟨g, 0, none⟩) ∧ RcdAt W ⟨R2, a, c⟩ ∧ W.heap[g]? = some recZ ∧ A.heap.size ≤ g ∧ Z = putR W g R2.id R2.ver R2.kind R2.lang (.slice a R2.fields.length c)) → Q .normal ⟨#[v0, .int .i64 (kk : Int), v2, .pointer (some ⟨n1, 0, none⟩), v4, v5, v6, v7, v8, v9, v10, .pointer (some ⟨n3, 0, none⟩), v12, xs 13, xs 14, v15, v16, v17, v18, v19, v20, v21, v22, v23, v24, v25, v26, v27, v28, v29, v30, v31, v32, v33, v34, v35, v36, v37, v38, v39, v40, v41, v42, v43, v44, v45, v46, v47, v48, v49, v50, v51, v52, v53, v54, v55, v56, v57, v58, v59, v60, v61, v62, v63, v64, v65, v66, v67, v68, v69, v70, v71, v72, v73, v74, v75, v76, v77, v78, v79, v80, v81, v82, v83, v84, v85, v86, xs 87, xs 88, xs 89, xs 90, xs 91, xs 92, xs 93, xs 94, xs 95, xs 96, xs 97, v98, v99, v100, v101, v102, v103, v104, v105, v106, v107, v108, v109, v110, v111, v112, v113, v114, v115], []⟩ Z)
    : Code.wp Tryz.prog (.region id #[⟨some 88, .load 24 (.tmp 11), ty0, po0, af0, none⟩, ⟨some 89, .move (.tmp 1), ty1, po1, af1, none⟩, ⟨some 90, .fieldAddr 24 (.tmp 3) 4, ty2, po2, af2, none⟩, ⟨some 91, .load 22 (.tmp 90), ty3, po3, af3, none⟩, ⟨some 92, .move (.tmp 1), ty4, po4, af4, none⟩, ⟨some 93, .indexAddr 22 (.tmp 91) (.tmp 92), ty5, po5, af5, none⟩, ⟨some 94, .load 35 (.tmp 93), ty6, po6, af6, none⟩, ⟨some 95, .call { callee := .value (.func 21), args := #[.tmp 88, .tmp 89, .tmp 94], argTypes := #[24, 3, 35] }, ty7, po7, af7, none⟩, ⟨some 87, .move (.tmp 95), ty8, po8, af8, none⟩, ⟨some 96, .extract (.tmp 87) 0, ty9, po9, af9, none⟩, ⟨some 97, .extract (.tmp 87) 1, ty10, po10, af10, none⟩, ⟨some 13, .alloc 24, ty11, po11, af11, none⟩, ⟨none, .store 24 (.tmp 13) (.tmp 96), ty12, po12, af12, none⟩, ⟨some 14, .assign (.tmp 97), ty13, po13, af13, none⟩] true) Q ⟨#[v0, .int .i64 (kk : Int), v2, .pointer (some ⟨n1, 0, none⟩), v4, v5, v6, v7, v8, v9, v10, .pointer (some ⟨n3, 0, none⟩), v12, u13, u14, v15, v16, v17, v18, v19, v20, v21, v22, v23, v24, v25, v26, v27, v28, v29, v30, v31, v32, v33, v34, v35, v36, v37, v38, v39, v40, v41, v42, v43, v44, v45, v46, v47, v48, v49, v50, v51, v52, v53, v54, v55, v56, v57, v58, v59, v60, v61, v62, v63, v64, v65, v66, v67, v68, v69, v70, v71, v72, v73, v74, v75, v76, v77, v78, v79, v80, v81, v82, v83, v84, v85, v86, u87, u88, u89, u90, u91, u92, u93, u94, u95, u96, u97, v98, v99, v100, v101, v102, v103, v104, v105, v106, v107, v108, v109, v110, v111, v112, v113, v114, v115], []⟩ A := by
  refine wp_region_inv (by kernel_rfl) (fun listed x Z => ∃ (xs : Nat → Value) (W : World), x = ⟨#[v0, .int .i64 (kk : Int), v2, .pointer (some ⟨n1, 0, none⟩), v4, v5, v6, v7, v8, v9, v10, .pointer (some ⟨n3, 0, none⟩), v12, xs 13, xs 14, v15, v16, v17, v18, v19, v20, v21, v22, v23, v24, v25, v26, v27, v28, v29, v30, v31, v32, v33, v34, v35, v36, v37, v38, v39, v40, v41, v42, v43, v44, v45, v46, v47, v48, v49, v50, v51, v52, v53, v54, v55, v56, v57, v58, v59, v60, v61, v62, v63, v64, v65, v66, v67, v68, v69, v70, v71, v72, v73, v74, v75, v76, v77, v78, v79, v80, v81, v82, v83, v84, v85, v86, xs 87, xs 88, xs 89, xs 90, xs 91, xs 92, xs 93, xs 94, xs 95, xs 96, xs 97, v98, v99, v100, v101, v102, v103, v104, v105, v106, v107, v108, v109, v110, v111, v112, v113, v114, v115], []⟩ ∧ rst_regionI n1 n3 rid ver kind lang n rc ba bn bc kk pb po T I sa sn sc au R2 A W listed xs ∧ (listed.getD 12 true = false → Z = W) ∧ (listed.getD 12 true = true → ∃ (g : Nat) (a : Option Addr) (c : Nat), (xs 13) = .pointer (some ⟨g, 0, none⟩) ∧ RcdAt W ⟨R2, a, c⟩ ∧ W.heap[g]? = some recZ ∧ A.heap.size ≤ g ∧ Z = putR W g R2.id R2.ver R2.kind R2.lang (.slice a R2.fields.length c))) ?start ?step ?done
  case start =>
    have no : ∀ m, m < 14 → (Array.replicate 14 false).getD m true = false := fun m hm => by simp [Array.getD, hm]
    exact ⟨fun k => if k = 13 then u13 else if k = 14 then u14 else if k = 87 then u87 else if k = 88 then u88 else if k = 89 then u89 else if k = 90 then u90 else if k = 91 then u91 else if k = 92 then u92 else if k = 93 then u93 else if k = 94 then u94 else if k = 95 then u95 else if k = 96 then u96 else if k = 97 then u97 else undef, A.drew, rfl, ⟨(Below.refl _ _).drew, fun h => Bool.noConfusion ((no 3 (by decide)).symm.trans h), fun h => Bool.noConfusion ((no 5 (by decide)).symm.trans h), fun h => Bool.noConfusion ((no 6 (by decide)).symm.trans h), fun h => Bool.noConfusion ((no 7 (by decide)).symm.trans h), fun h => Bool.noConfusion ((no 8 (by decide)).symm.trans h), fun h => Bool.noConfusion ((no 9 (by decide)).symm.trans h), fun h => Bool.noConfusion ((no 10 (by decide)).symm.trans h), fun h => Bool.noConfusion ((no 12 (by decide)).symm.trans h), fun h => Bool.noConfusion ((no 13 (by decide)).symm.trans h), fun h => Bool.noConfusion ((no 0 (by decide)).symm.trans h), fun h => Bool.noConfusion ((no 1 (by decide)).symm.trans h), fun h => Bool.noConfusion ((no 2 (by decide)).symm.trans h), fun h => Bool.noConfusion ((no 3 (by decide)).symm.trans h), fun h => Bool.noConfusion ((no 4 (by decide)).symm.trans h), fun h => Bool.noConfusion ((no 5 (by decide)).symm.trans h), fun h => Bool.noConfusion ((no 6 (by decide)).symm.trans h), fun h => Bool.noConfusion ((no 7 (by decide)).symm.trans h), fun h => Bool.noConfusion ((no 8 (by decide)).symm.trans h), fun h => Bool.noConfusion ((no 9 (by decide)).symm.trans h), fun h => Bool.noConfusion ((no 10 (by decide)).symm.trans h), fun h => Bool.noConfusion ((no 11 (by decide)).symm.trans h), fun h => Bool.noConfusion ((no 13 (by decide)).symm.trans h)⟩, fun _ => rfl, fun h => Bool.noConfusion ((no 12 (by decide)).symm.trans h)⟩
  case done =>
    rintro listed x Z hs ⟨xs, W, rfl, R1, -, hE⟩ h0
    have hall := all_listedB hfw hs h0
    exact hQ xs W Z R1.bel (R1.f13 (hall 13)) (hE (hall 12))
  case step =>
    rintro listed x Z i hs ⟨xs, W, rfl, R1, hZ0, hZ1⟩ hi
    have hin : i < 14 := by
      obtain ⟨-, o, ho, -⟩ := mem_ready.1 hi
      exact (Array.getElem?_eq_some_iff.1 ho).1
    have hno := (mem_ready.1 hi).1
    have bel := R1.bel
    have hnW := (bel.block n1 (Array.getElem?_eq_some_iff.1 hn1).1).trans hn1
    have hmW := (bel.block n3 (Array.getElem?_eq_some_iff.1 hn3).1).trans hn3
    have g0 := Lib.cell_of_heap hnW 0
    have g1 := Lib.cell_of_heap hnW 1
    have g2 := Lib.cell_of_heap hnW 2
    have g3 := Lib.cell_of_heap hnW 3
    have g4 := Lib.cell_of_heap hnW 4
    have h0 := Lib.cell_of_heap hmW 0
    have h1 := Lib.cell_of_heap hmW 1
    have h2 := Lib.cell_of_heap hmW 2
    have h3 := Lib.cell_of_heap hmW 3
    have h4 := Lib.cell_of_heap hmW 4
    have k0 := (bel.cell (p := ⟨pb, po + kk * 4, none⟩) (lt_cell c0)).trans c0
    have k1 := (bel.cell (p := ⟨pb, po + kk * 4 + 1, none⟩) (lt_cell c1)).trans c1
    have k2 := (bel.cell (p := ⟨pb, po + kk * 4 + 2, none⟩) (lt_cell c2)).trans c2
    have k3 := (bel.cell (p := ⟨pb, po + kk * 4 + 3, none⟩) (lt_cell c3)).trans c3
    have HII := hii
    have RR := Lib.hid R1
    have HNO := Lib.hid hno
    have BEL := Lib.hid bel
    have HZ0 := Lib.hid hZ0
    have HZ1 := Lib.hid hZ1
    clear R1 hQ hfw bel hno hn1 hnW hn3 hmW hii c0 c1 c2 c3 hZ0 hZ1
    have hcases : i = 0 ∨ i = 1 ∨ i = 2 ∨ i = 3 ∨ i = 4 ∨ i = 5 ∨ i = 6 ∨ i = 7 ∨ i = 8 ∨ i = 9 ∨ i = 10 ∨ i = 11 ∨ i = 12 ∨ i = 13 := by omega
    rcases hcases with rfl | rfl | rfl | rfl | rfl | rfl | rfl | rfl | rfl | rfl | rfl | rfl | rfl | rfl
    · have hs0 : listed.getD 12 true = false := by
        cases hs0 : listed.getD 12 true with
        | false => rfl
        | true =>
          have h := RR.out
          exact absurd (h.o12 hs0).1 (by rw [HNO.out]; decide)
      have hZW := (HZ0.out hs0).symm
      subst hZW
      clear hi hw3_2 hw5_3 hw5_4 hw6_5 hw7_0 hw7_1 hw7_6 hw8_7 hw9_8 hw10_8 hw12_0 hw12_1 hw12_2 hw12_3 hw12_4 hw12_5 hw12_6 hw12_7 hw12_8 hw12_9 hw12_11 hw13_10 hw13_12
      refine wpOp_step rfl (fun K hK => ?_)
      go_simp
      exact hK _ _ ⟨fun k => if k = 88 then .agg #[.int .i64 rid, .int .i64 ver, .int .i64 kind, .string lang, .slice ba bn bc] else xs k, _, by simp, RR.out.s0 HNO.out   (rfl) , fun _ => rfl, fun h => absurd (((set_listed h).resolve_left (by decide))) (by rw [hs0]; decide)⟩
    · clear hi hw3_2 hw5_3 hw5_4 hw6_5 hw7_0 hw7_1 hw7_6 hw8_7 hw9_8 hw10_8 hw12_0 hw12_1 hw12_2 hw12_3 hw12_4 hw12_5 hw12_6 hw12_7 hw12_8 hw12_9 hw12_11 hw13_10 hw13_12
      refine wpOp_step rfl (fun K hK => ?_)
      go_simp
      exact hK _ _ ⟨fun k => if k = 89 then .int .i64 (kk : Int) else xs k, _, by simp, RR.out.s1 HNO.out   (rfl) , fun h => HZ0.out (set_false h), fun h => by have := HZ1.out ((set_listed h).resolve_left (by decide)); simpa using this⟩
    · clear hi hw3_2 hw5_3 hw5_4 hw6_5 hw7_0 hw7_1 hw7_6 hw8_7 hw9_8 hw10_8 hw12_0 hw12_1 hw12_2 hw12_3 hw12_4 hw12_5 hw12_6 hw12_7 hw12_8 hw12_9 hw12_11 hw13_10 hw13_12
      refine wpOp_step rfl (fun K hK => ?_)
      go_simp
      exact hK _ _ ⟨fun k => if k = 90 then .pointer (some ⟨n1, 4, none⟩) else xs k, _, by simp, RR.out.s2 HNO.out   (rfl) , fun h => HZ0.out (set_false h), fun h => by have := HZ1.out ((set_listed h).resolve_left (by decide)); simpa using this⟩
    · have l2 := waited hi hw3_2
      have hs0 : listed.getD 12 true = false := by
        cases hs0 : listed.getD 12 true with
        | false => rfl
        | true =>
          have h := RR.out
          exact absurd (h.o12 hs0).2.2.2.1 (by rw [HNO.out]; decide)
      have hZW := (HZ0.out hs0).symm
      subst hZW
      have e90 := RR.out.f2 l2
      clear hi hw3_2 hw5_3 hw5_4 hw6_5 hw7_0 hw7_1 hw7_6 hw8_7 hw9_8 hw10_8 hw12_0 hw12_1 hw12_2 hw12_3 hw12_4 hw12_5 hw12_6 hw12_7 hw12_8 hw12_9 hw12_11 hw13_10 hw13_12
      refine wpOp_step rfl (fun K hK => ?_)
      simp only [e90]
      go_simp
      exact hK _ _ ⟨fun k => if k = 91 then .slice (some ⟨pb, po, none⟩) n rc else xs k, _, by simp [e90], RR.out.s3 HNO.out l2  (rfl) , fun _ => rfl, fun h => absurd (((set_listed h).resolve_left (by decide))) (by rw [hs0]; decide)⟩
    · clear hi hw3_2 hw5_3 hw5_4 hw6_5 hw7_0 hw7_1 hw7_6 hw8_7 hw9_8 hw10_8 hw12_0 hw12_1 hw12_2 hw12_3 hw12_4 hw12_5 hw12_6 hw12_7 hw12_8 hw12_9 hw12_11 hw13_10 hw13_12
      refine wpOp_step rfl (fun K hK => ?_)
      go_simp
      exact hK _ _ ⟨fun k => if k = 92 then .int .i64 (kk : Int) else xs k, _, by simp, RR.out.s4 HNO.out   (rfl) , fun h => HZ0.out (set_false h), fun h => by have := HZ1.out ((set_listed h).resolve_left (by decide)); simpa using this⟩
    · have l3 := waited hi hw5_3
      have l4 := waited hi hw5_4
      have e91 := RR.out.f3 l3
      have e92 := RR.out.f4 l4
      clear hi hw3_2 hw5_3 hw5_4 hw6_5 hw7_0 hw7_1 hw7_6 hw8_7 hw9_8 hw10_8 hw12_0 hw12_1 hw12_2 hw12_3 hw12_4 hw12_5 hw12_6 hw12_7 hw12_8 hw12_9 hw12_11 hw13_10 hw13_12
      refine wpOp_step rfl (fun K hK => ?_)
      simp only [e91, e92]
      go_simp
      exact hK _ _ ⟨fun k => if k = 93 then .pointer (some ⟨pb, po + kk * 4, none⟩) else xs k, _, by simp [e91, e92], RR.out.s5 HNO.out l3 l4  (rfl) , fun h => HZ0.out (set_false h), fun h => by have := HZ1.out ((set_listed h).resolve_left (by decide)); simpa using this⟩
    · have l5 := waited hi hw6_5
      have hs0 : listed.getD 12 true = false := by
        cases hs0 : listed.getD 12 true with
        | false => rfl
        | true =>
          have h := RR.out
          exact absurd (h.o12 hs0).2.2.2.2.2.2.1 (by rw [HNO.out]; decide)
      have hZW := (HZ0.out hs0).symm
      subst hZW
      have e93 := RR.out.f5 l5
      clear hi hw3_2 hw5_3 hw5_4 hw6_5 hw7_0 hw7_1 hw7_6 hw8_7 hw9_8 hw10_8 hw12_0 hw12_1 hw12_2 hw12_3 hw12_4 hw12_5 hw12_6 hw12_7 hw12_8 hw12_9 hw12_11 hw13_10 hw13_12
      refine wpOp_step rfl (fun K hK => ?_)
      simp only [e93]
      go_simp
      exact hK _ _ ⟨fun k => if k = 94 then .agg #[.string T, .string I, .slice sa sn sc, .int .i64 au] else xs k, _, by simp [e93], RR.out.s6 HNO.out l5  (rfl) , fun _ => rfl, fun h => absurd (((set_listed h).resolve_left (by decide))) (by rw [hs0]; decide)⟩
    · have l0 := waited hi hw7_0
      have l1 := waited hi hw7_1
      have l6 := waited hi hw7_6
      have hs0 : listed.getD 12 true = false := by
        cases hs0 : listed.getD 12 true with
        | false => rfl
        | true =>
          have h := RR.out
          exact absurd (h.o12 hs0).2.2.2.2.2.2.2.1 (by rw [HNO.out]; decide)
      have hZW := (HZ0.out hs0).symm
      subst hZW
      have e88 := RR.out.f0 l0
      have e89 := RR.out.f1 l1
      have e94 := RR.out.f6 l6
      clear hi hw3_2 hw5_3 hw5_4 hw6_5 hw7_0 hw7_1 hw7_6 hw8_7 hw9_8 hw10_8 hw12_0 hw12_1 hw12_2 hw12_3 hw12_4 hw12_5 hw12_6 hw12_7 hw12_8 hw12_9 hw12_11 hw13_10 hw13_12
      refine wpOp_step rfl (fun K hK => ?_)
      simp only [e88, e89, e94]
      go_simp
      refine (HII.out W BEL.out).mono ?_
      rintro e w'' ⟨a, c, rfl, hs, bb⟩
      exact hK _ _ ⟨fun k => if k = 95 then .tuple #[recV5 ⟨R2, a, c⟩, .int .i64 0] else xs k, _, by simp [e88, e89, e94], (RR.out.world (bb)).s7 HNO.out l0 l1 l6  (⟨a, c, rfl, hs⟩) , fun _ => rfl, fun h => absurd (((set_listed h).resolve_left (by decide))) (by rw [hs0]; decide)⟩
    · have l7 := waited hi hw8_7
      obtain ⟨a, c, e95, hr⟩ := RR.out.f7 l7
      have HR := Lib.hid hr
      clear hr
      clear hi hw3_2 hw5_3 hw5_4 hw6_5 hw7_0 hw7_1 hw7_6 hw8_7 hw9_8 hw10_8 hw12_0 hw12_1 hw12_2 hw12_3 hw12_4 hw12_5 hw12_6 hw12_7 hw12_8 hw12_9 hw12_11 hw13_10 hw13_12
      refine wpOp_step rfl (fun K hK => ?_)
      simp only [e95]
      go_simp
      exact hK _ _ ⟨fun k => if k = 87 then .tuple #[recV5 ⟨R2, a, c⟩, .int .i64 0] else xs k, _, by simp [e95], RR.out.s8 HNO.out l7  (⟨a, c, rfl, HR.out⟩) , fun h => HZ0.out (set_false h), fun h => by have := HZ1.out ((set_listed h).resolve_left (by decide)); simpa using this⟩
    · have l8 := waited hi hw9_8
      obtain ⟨a, c, e87, hr⟩ := RR.out.f8 l8
      have HR := Lib.hid hr
      clear hr
      clear hi hw3_2 hw5_3 hw5_4 hw6_5 hw7_0 hw7_1 hw7_6 hw8_7 hw9_8 hw10_8 hw12_0 hw12_1 hw12_2 hw12_3 hw12_4 hw12_5 hw12_6 hw12_7 hw12_8 hw12_9 hw12_11 hw13_10 hw13_12
      refine wpOp_step rfl (fun K hK => ?_)
      simp only [e87]
      go_simp
      exact hK _ _ ⟨fun k => if k = 96 then recV5 ⟨R2, a, c⟩ else xs k, _, by simp [e87], RR.out.s9 HNO.out l8  (⟨a, c, rfl, HR.out⟩) , fun h => HZ0.out (set_false h), fun h => by have := HZ1.out ((set_listed h).resolve_left (by decide)); simpa using this⟩
    · have l8 := waited hi hw10_8
      obtain ⟨a, c, e87, hr⟩ := RR.out.f8 l8
      clear hr
      clear hi hw3_2 hw5_3 hw5_4 hw6_5 hw7_0 hw7_1 hw7_6 hw8_7 hw9_8 hw10_8 hw12_0 hw12_1 hw12_2 hw12_3 hw12_4 hw12_5 hw12_6 hw12_7 hw12_8 hw12_9 hw12_11 hw13_10 hw13_12
      refine wpOp_step rfl (fun K hK => ?_)
      simp only [e87]
      go_simp
      exact hK _ _ ⟨fun k => if k = 97 then .int .i64 0 else xs k, _, by simp [e87], RR.out.s10 HNO.out l8  (rfl) , fun h => HZ0.out (set_false h), fun h => by have := HZ1.out ((set_listed h).resolve_left (by decide)); simpa using this⟩
    · have hs0 : listed.getD 12 true = false := by
        cases hs0 : listed.getD 12 true with
        | false => rfl
        | true =>
          have h := RR.out
          exact absurd (h.o12 hs0).2.2.2.2.2.2.2.2.2.2 (by rw [HNO.out]; decide)
      have hZW := (HZ0.out hs0).symm
      subst hZW
      clear hi hw3_2 hw5_3 hw5_4 hw6_5 hw7_0 hw7_1 hw7_6 hw8_7 hw9_8 hw10_8 hw12_0 hw12_1 hw12_2 hw12_3 hw12_4 hw12_5 hw12_6 hw12_7 hw12_8 hw12_9 hw12_11 hw13_10 hw13_12
      refine wpOp_step rfl (fun K hK => ?_)
      go_simp
      exact hK _ _ ⟨fun k => if k = 13 then .pointer (some ⟨W.heap.size, 0, none⟩) else xs k, _, by simp, (RR.out.world ((Below.refl _ _).alloc (Nat.le_refl _) _)).s11 HNO.out   (⟨_, rfl, alloc_at rfl, BEL.out.size⟩) , fun _ => rfl, fun h => absurd (((set_listed h).resolve_left (by decide))) (by rw [hs0]; decide)⟩
    · have l0 := waited hi hw12_0
      have l1 := waited hi hw12_1
      have l2 := waited hi hw12_2
      have l3 := waited hi hw12_3
      have l4 := waited hi hw12_4
      have l5 := waited hi hw12_5
      have l6 := waited hi hw12_6
      have l7 := waited hi hw12_7
      have l8 := waited hi hw12_8
      have l9 := waited hi hw12_9
      have l11 := waited hi hw12_11
      have hZW := (HZ0.out HNO.out).symm
      subst hZW
      obtain ⟨g, e13, hg, hA⟩ := RR.out.f11 l11
      obtain ⟨a, c, e96, hr⟩ := RR.out.f9 l9
      unfold recV5 at e96
      simp only at e96
      have q0 := Lib.cell_of_heap hg 0
      have q1 := Lib.cell_of_heap hg 1
      have q2 := Lib.cell_of_heap hg 2
      have q3 := Lib.cell_of_heap hg 3
      have q4 := Lib.cell_of_heap hg 4
      have z0 := Lib.frozen_of_heap hg 0
      have z1 := Lib.frozen_of_heap hg 1
      have z2 := Lib.frozen_of_heap hg 2
      have z3 := Lib.frozen_of_heap hg 3
      have z4 := Lib.frozen_of_heap hg 4
      have HG := Lib.hid hg
      have HR := Lib.hid hr
      clear hg hr
      clear hi hw3_2 hw5_3 hw5_4 hw6_5 hw7_0 hw7_1 hw7_6 hw8_7 hw9_8 hw10_8 hw12_0 hw12_1 hw12_2 hw12_3 hw12_4 hw12_5 hw12_6 hw12_7 hw12_8 hw12_9 hw12_11 hw13_10 hw13_12
      refine wpOp_step rfl (fun K hK => ?_)
      simp only [e13, e96]
      go_simp
      exact hK _ _ ⟨xs, _, by simp [e13, e96], RR.out.s12 HNO.out l0 l1 l2 l3 l4 l5 l6 l7 l8 l9 l11   , fun h => absurd (listed_self' 12) (by rw [h]; decide), fun _ => ⟨g, a, c, e13, HR.out, HG.out, hA, rfl⟩⟩
    · have l10 := waited hi hw13_10
      have l12 := waited hi hw13_12
      have e97 := RR.out.f10 l10
      clear hi hw3_2 hw5_3 hw5_4 hw6_5 hw7_0 hw7_1 hw7_6 hw8_7 hw9_8 hw10_8 hw12_0 hw12_1 hw12_2 hw12_3 hw12_4 hw12_5 hw12_6 hw12_7 hw12_8 hw12_9 hw12_11 hw13_10 hw13_12
      refine wpOp_step rfl (fun K hK => ?_)
      simp only [e97]
      go_simp
      exact hK _ _ ⟨fun k => if k = 14 then .int .i64 0 else xs k, _, by simp [e97], RR.out.s13 HNO.out l10 l12  (rfl) , fun h => HZ0.out (set_false h), fun h => by have := HZ1.out ((set_listed h).resolve_left (by decide)); simpa using this⟩
end Go.Proofs.YtkfjeolpbopcnaaGreatDoor
