/- The examples of layer 08: the record of the chapter, and what the functions make of it. Two regions of alive, whatever the order of their operations (layer 08). The walk of alive (layer 08). -/
import Derived.Test.YtkfjeolpbopcnaaGreatDoorDso
import Derived.Test.YtkfjeolpbopcnaaGreatDoorEd
import Derived.Test.YtkfjeolpbopcnaaGreatDoorEe
import Derived.Test.YtkfjeolpbopcnaaGreatDoorEc
import Derived.Test.YtkfjeolpbopcnaaGreatDoorDpi
import Derived.Test.YtkfjeolpbopcnaaGreatDoorMrr
namespace Go.Proofs.YtkfjeolpbopcnaaGreatDoor
open Go Go.RowKit

abbrev sDogsC : ByteArray := ⟨#[68, 111, 103, 115, 32, 58]⟩
abbrev sGuide : ByteArray := ⟨#[97, 32, 103, 117, 105, 100, 101]⟩
abbrev sAnn : ByteArray := ⟨#[83, 109, 105, 116, 104, 44, 32, 65, 110, 110]⟩
abbrev sLondon : ByteArray := ⟨#[76, 111, 110, 100, 111, 110]⟩
abbrev sYears : ByteArray := ⟨#[91, 99, 49, 57, 57, 56, 44, 32, 49, 57, 57, 57, 93]⟩
abbrev sDogs : ByteArray := ⟨#[68, 111, 103, 115]⟩
abbrev sHist : ByteArray := ⟨#[72, 105, 115, 116, 111, 114, 121]⟩
/-- The record of the examples; a, b, c, d: where the slices of its subfields lie. -/
def exL (a b c d : Option Addr) : List Fld :=
  [⟨[50, 52, 53], [49, 48], [(97, sDogsC), (98, sGuide)], 0, a, 2⟩, ⟨[49, 48, 48], [49, 32], [(97, sAnn)], 0, b, 1⟩, ⟨[50, 54, 52], [32, 49], [(97, sLondon), (99, sYears)], 0, c, 2⟩, ⟨[54, 53, 48], [32, 48], [(97, sDogs), (120, sHist)], 0, d, 2⟩]
def exR (a b c d : Option Addr) : Rec := ⟨1, 3, 1, ⟨#[101, 110, 103]⟩, exL a b c d⟩
theorem ex_right (a b c d : Option Addr) : recErr (exR a b c d) = 0 := by kernel_rfl
theorem ex_author (a b c d : Option Addr) : authP tagsA (exL a b c d) = sAnn := by kernel_rfl
theorem ex_year (a b c d : Option Addr) : yearL (exL a b c d) = 1998 := by kernel_rfl
theorem ex_subjects (a b c d : Option Addr) : subjL (begL [54] (exL a b c d)) = [⟨#[68, 111, 103, 115, 45, 45, 72, 105, 115, 116, 111, 114, 121]⟩] := by kernel_rfl
theorem ex_begins (a b c d : Option Addr) : (begL [50] (exL a b c d)).length = 2 := by kernel_rfl
theorem ex_sorted (a b c d : Option Addr) : (sortR (exL a b c d)).map (·.tag) = [[49, 48, 48], [50, 52, 53], [50, 54, 52], [54, 53, 48]] := by kernel_rfl
theorem ex_insert (a b c d : Option Addr) (f : Fld) : insR (exR a b c d) 5 f = (rec0, 2) := by kernel_rfl
theorem ex_remove (a b c d : Option Addr) : remR (exR a b c d) 4 = (rec0, 2) := by kernel_rfl
theorem codes_ok (l : List (Nat × ByteArray)) (h : l.all (fun s => s.1.blt 256) = true) : ∀ s ∈ l, s.1 < 256 := fun s hs => Nat.le_of_ble_eq_true (List.all_eq_true.1 h s hs)
theorem vals_ok (l : List (Nat × ByteArray)) (h : l.all (fun s => s.2.size.ble 1000000) = true) : ∀ s ∈ l, s.2.size ≤ 1000000 := fun s hs => Nat.le_of_ble_eq_true (List.all_eq_true.1 h s hs)
theorem ex_title (a b c d : Option Addr) : TitleIs (exL a b c d) ⟨#[68, 111, 103, 115, 32, 58, 32, 97, 32, 103, 117, 105, 100, 101]⟩ :=
  .inr ⟨⟨[50, 52, 53], [49, 48], [(97, sDogsC), (98, sGuide)], 0, a, 2⟩, [68, 111, 103, 115, 32, 58, 32, 97, 32, 103, 117, 105, 100, 101], rfl, by kernel_rfl, by kernel_rfl, Nat.le_of_ble_eq_true (by kernel_rfl), Nat.le_of_ble_eq_true (by kernel_rfl), codes_ok _ (by kernel_rfl), by kernel_rfl⟩
theorem ex_each (a b c d : Option Addr) : ∀ f ∈ exL a b c d, f.subs.length ≤ 100000 ∧ (∀ s ∈ f.subs, s.2.size ≤ 1000000) ∧ (∀ s ∈ f.subs, s.1 < 256) ∧ (joinB ⟨#[45, 45]⟩ (allF [97, 120, 121, 122] f.subs)).size ≤ 4000000000 := by
  intro f hf
  simp only [exL, List.mem_cons, List.not_mem_nil, or_false] at hf
  rcases hf with rfl | rfl | rfl | rfl <;> exact ⟨Nat.le_of_ble_eq_true (by kernel_rfl), vals_ok _ (by kernel_rfl), codes_ok _ (by kernel_rfl), Nat.le_of_ble_eq_true (by kernel_rfl)⟩
theorem ex_small (a b c d : Option Addr) : (exR a b c d).small := by
  refine ⟨Nat.le_of_ble_eq_true (by kernel_rfl), fun f hf => ?_⟩
  obtain ⟨h1, h2, h3, -⟩ := ex_each a b c d f hf
  exact ⟨by omega, h2, h3⟩

/-- Subfields laid in a block of their own. -/
theorem subs_laid {w : World} {g : Nat} (l : List (Nat × ByteArray)) (T : TypeId) (cs : Array Value) (hc : cs = (flatE subE l).toArray) (h : w.heap[g]? = some (.cells cs T (0, 0))) (n : Nat) (hn : n = l.length) : Rows subE 2 w (.slice (some ⟨g, 0, none⟩) n n) l := by
  subst hn
  refine ⟨_, _, rfl, Nat.le_refl _, .inr ⟨g, 0, rfl, (Array.getElem?_eq_some_iff.1 h).1, fun j p hj i u hi => ?_⟩⟩
  have hi2 : i < 2 := by have := (List.getElem?_eq_some_iff.1 hi).1; rwa [subE_len] at this
  rw [Nat.zero_add, Lib.cell_of_heap h, hc, List.getElem?_toArray, flatE_at subE_len l j p hj i hi2]
  exact hi
theorem flds_at {w : World} {g : Nat} (l : List Fld) (T : TypeId) (cs : Array Value) (hc : cs = (flatE fldE l).toArray) (h : w.heap[g]? = some (.cells cs T (0, 0))) (hf : ∀ f ∈ l, FldAt w f) : Flds w (.slice (some ⟨g, 0, none⟩) l.length l.length) l := by
  refine ⟨⟨_, _, rfl, Nat.le_refl _, .inr ⟨g, 0, rfl, (Array.getElem?_eq_some_iff.1 h).1, fun j p hj i u hi => ?_⟩⟩, hf⟩
  have hi4 : i < 4 := by have := (List.getElem?_eq_some_iff.1 hi).1; rwa [fldE_len] at this
  rw [Nat.zero_add, Lib.cell_of_heap h, hc, List.getElem?_toArray, flatE_at fldE_len l j p hj i hi4]
  exact hi
set_option maxRecDepth 100000 in
set_option maxHeartbeats 4000000 in
theorem lExample (w : World) :
    Calls Tryz.prog 37 #[] w fun e w' => ∃ a b c d va vc, e = .returned (recV5 ⟨exR a b c d, va, vc⟩) ∧ RcdAt w' ⟨exR a b c d, va, vc⟩ ∧ Below w.heap.size w w' := by
  go_enter Tryz.func37, Tryz.ntmps37
  go_wp2
  (try simp only [Exit.inBlock, Exit.then])
  have hb : ∀ O1 O2 O3 O4 O5 O6 : Obj, Below w.heap.size w ((((((w.alloc O1).alloc O2).alloc O3).alloc O4).alloc O5).alloc O6) := fun _ _ _ _ _ _ =>
    ((((((Below.refl _ w).alloc (Nat.le_refl _) _).alloc (by simp) _).alloc (by simp only [World.size_alloc]; omega) _).alloc (by simp only [World.size_alloc]; omega) _).alloc (by simp only [World.size_alloc]; omega) _).alloc (by simp only [World.size_alloc]; omega) _
  have hk0 : ∀ O1 O2 O3 O4 O5 O6 : Obj, ((((((w.alloc O1).alloc O2).alloc O3).alloc O4).alloc O5).alloc O6).heap[w.heap.size]? = some O1 := fun _ _ _ _ _ _ => (alloc_old (by simp only [World.size_alloc]; omega)).trans ((alloc_old (by simp only [World.size_alloc]; omega)).trans ((alloc_old (by simp only [World.size_alloc]; omega)).trans ((alloc_old (by simp only [World.size_alloc]; omega)).trans ((alloc_old (by simp)).trans (alloc_at rfl)))))
  have hk1 : ∀ O1 O2 O3 O4 O5 O6 : Obj, ((((((w.alloc O1).alloc O2).alloc O3).alloc O4).alloc O5).alloc O6).heap[w.heap.size + 1]? = some O2 := fun _ _ _ _ _ _ => (alloc_old (by simp only [World.size_alloc]; omega)).trans ((alloc_old (by simp only [World.size_alloc]; omega)).trans ((alloc_old (by simp only [World.size_alloc]; omega)).trans ((alloc_old (by simp only [World.size_alloc]; omega)).trans (alloc_at (by simp)))))
  have hk2 : ∀ O1 O2 O3 O4 O5 O6 : Obj, ((((((w.alloc O1).alloc O2).alloc O3).alloc O4).alloc O5).alloc O6).heap[w.heap.size + 1 + 1]? = some O3 := fun _ _ _ _ _ _ => (alloc_old (by simp only [World.size_alloc]; omega)).trans ((alloc_old (by simp only [World.size_alloc]; omega)).trans ((alloc_old (by simp only [World.size_alloc]; omega)).trans (alloc_at (by simp))))
  have hk3 : ∀ O1 O2 O3 O4 O5 O6 : Obj, ((((((w.alloc O1).alloc O2).alloc O3).alloc O4).alloc O5).alloc O6).heap[w.heap.size + 1 + 1 + 1]? = some O4 := fun _ _ _ _ _ _ => (alloc_old (by simp only [World.size_alloc]; omega)).trans ((alloc_old (by simp only [World.size_alloc]; omega)).trans (alloc_at (by simp)))
  have hk4 : ∀ O1 O2 O3 O4 O5 O6 : Obj, ((((((w.alloc O1).alloc O2).alloc O3).alloc O4).alloc O5).alloc O6).heap[w.heap.size + 1 + 1 + 1 + 1]? = some O5 := fun _ _ _ _ _ _ => (alloc_old (by simp only [World.size_alloc]; omega)).trans (alloc_at (by simp))
  have hk5 : ∀ O1 O2 O3 O4 O5 O6 : Obj, ((((((w.alloc O1).alloc O2).alloc O3).alloc O4).alloc O5).alloc O6).heap[w.heap.size + 1 + 1 + 1 + 1 + 1]? = some O6 := fun _ _ _ _ _ _ => alloc_at (by simp)
  refine bodyPost_ret (results_r1 rfl _ _ w.heap.size 1 3 1 ⟨#[101, 110, 103]⟩ (.slice (some ⟨w.heap.size + 1 + 1 + 1 + 1 + 1, 0, none⟩) 4 4) rfl (hk0 _ _ _ _ _ _)) rfl ?_
  refine ⟨some ⟨w.heap.size + 1, 0, none⟩, some ⟨w.heap.size + 1 + 1, 0, none⟩, some ⟨w.heap.size + 1 + 1 + 1, 0, none⟩, some ⟨w.heap.size + 1 + 1 + 1 + 1, 0, none⟩, some ⟨w.heap.size + 1 + 1 + 1 + 1 + 1, 0, none⟩, 4, rfl, ?_, hb _ _ _ _ _ _⟩
  refine flds_at (exL _ _ _ _) 35 _ rfl (hk5 _ _ _ _ _ _) (fun f hf => ?_)
  simp only [exL, List.mem_cons, List.not_mem_nil, or_false] at hf
  rcases hf with rfl | rfl | rfl | rfl
  · exact subs_laid _ 54 _ rfl (hk1 _ _ _ _ _ _) 2 rfl
  · exact subs_laid _ 54 _ rfl (hk2 _ _ _ _ _ _) 1 rfl
  · exact subs_laid _ 54 _ rfl (hk3 _ _ _ _ _ _) 2 rfl
  · exact subs_laid _ 54 _ rfl (hk4 _ _ _ _ _ _) 2 rfl
end Go.Proofs.YtkfjeolpbopcnaaGreatDoor
namespace Go.Proofs.YtkfjeolpbopcnaaGreatDoor
open Go Go.RowKit
abbrev recZ : Obj := recO 0 0 0 ⟨#[]⟩ none 0 0

/-- What holds, whatever operations have come up. -/
structure ali_regionI (n1 : Nat) (rid : Int) (ver : Int) (kind : Int) (lang : ByteArray) (ra : Option Addr) (n : Nat) (rc : Nat) (XS : List ByteArray) (R2 : Rec) (A W : World) (listed : Array Bool) (xs : Nat → Value) : Prop where
  bel : Below A.heap.size A W
  o1 : listed.getD 1 true = true → listed.getD 0 true = true
  o3 : listed.getD 3 true = true → listed.getD 1 true = true ∧ listed.getD 2 true = true
  o5 : listed.getD 5 true = true → listed.getD 0 true = true ∧ listed.getD 1 true = true ∧ listed.getD 3 true = true ∧ listed.getD 4 true = true
  o6 : listed.getD 6 true = true → listed.getD 0 true = true ∧ listed.getD 1 true = true ∧ listed.getD 2 true = true ∧ listed.getD 3 true = true ∧ listed.getD 4 true = true ∧ listed.getD 5 true = true
  f0 : listed.getD 0 true = true → (xs 9) = .agg #[.int .i64 rid, .int .i64 ver, .int .i64 kind, .string lang, .slice ra n rc]
  f1 : listed.getD 1 true = true → Strs W (xs 10) XS
  f2 : listed.getD 2 true = true → (xs 11) = .agg #[.int .i64 rid, .int .i64 ver, .int .i64 kind, .string lang, .slice ra n rc]
  f3 : listed.getD 3 true = true → ∃ (a : Option Addr) (c : Nat), (xs 12) = recV5 ⟨R2, a, c⟩ ∧ RcdAt W ⟨R2, a, c⟩
  f4 : listed.getD 4 true = true → ∃ g, (xs 3) = .pointer (some ⟨g, 0, none⟩) ∧ W.heap[g]? = some recZ ∧ A.heap.size ≤ g
  f5 : listed.getD 5 true = true → Strs W (xs 2) XS
section
variable {n1 : Nat} {rid : Int} {ver : Int} {kind : Int} {lang : ByteArray} {ra : Option Addr} {n : Nat} {rc : Nat} {XS : List ByteArray} {R2 : Rec} {A W : World} {listed : Array Bool} {xs : Nat → Value}
theorem ali_regionI.world (h : ali_regionI n1 rid ver kind lang ra n rc XS R2 A W listed xs) {W' : World} (b : Below W.heap.size W W') : ali_regionI n1 rid ver kind lang ra n rc XS R2 A W' listed xs where
  bel := h.bel.bt b
  o1 := h.o1
  o3 := h.o3
  o5 := h.o5
  o6 := h.o6
  f0 := h.f0
  f1 := fun hl => by
    have h := h.f1 hl
    exact h.below b (Nat.le_refl _)
  f2 := h.f2
  f3 := fun hl => by
    have h := h.f3 hl
    obtain ⟨a, c, h1, h2⟩ := h
    exact ⟨a, c, h1, RcdAt.below h2 b (Nat.le_refl _)⟩
  f4 := fun hl => by
    have h := h.f4 hl
    obtain ⟨g, h1, h2, h3⟩ := h
    exact ⟨g, h1, (b.block g (Array.getElem?_eq_some_iff.1 h2).1).trans h2, h3⟩
  f5 := fun hl => by
    have h := h.f5 hl
    exact h.below b (Nat.le_refl _)
theorem ali_regionI.s0 (h : ali_regionI n1 rid ver kind lang ra n rc XS R2 A W listed xs) (_ : listed.getD 0 true = false) {v : Value}  (hf : v = .agg #[.int .i64 rid, .int .i64 ver, .int .i64 kind, .string lang, .slice ra n rc])  : ali_regionI n1 rid ver kind lang ra n rc XS R2 A W (listed.setIfInBounds 0 true) (fun k => if k = 9 then v else xs k) where
  bel := h.bel
  o1 := fun h1 => listed_set_mono (h.o1 ((set_listed h1).resolve_left (by decide)))
  o3 := fun h1 => by
    have := h.o3 ((set_listed h1).resolve_left (by decide))
    simp only [listed_set_mono this.1, listed_set_mono this.2, and_self]
  o5 := fun h1 => by
    have := h.o5 ((set_listed h1).resolve_left (by decide))
    simp only [listed_set_mono this.1, listed_set_mono this.2.1, listed_set_mono this.2.2.1, listed_set_mono this.2.2.2, and_self]
  o6 := fun h1 => by
    have := h.o6 ((set_listed h1).resolve_left (by decide))
    simp only [listed_set_mono this.1, listed_set_mono this.2.1, listed_set_mono this.2.2.1, listed_set_mono this.2.2.2.1, listed_set_mono this.2.2.2.2.1, listed_set_mono this.2.2.2.2.2, and_self]
  f0 := fun _ => by simpa using hf
  f1 := fun h1 => by have := h.f1 ((set_listed h1).resolve_left (by decide)); simpa using this
  f2 := fun h1 => by have := h.f2 ((set_listed h1).resolve_left (by decide)); simpa using this
  f3 := fun h1 => by have := h.f3 ((set_listed h1).resolve_left (by decide)); simpa using this
  f4 := fun h1 => by have := h.f4 ((set_listed h1).resolve_left (by decide)); simpa using this
  f5 := fun h1 => by have := h.f5 ((set_listed h1).resolve_left (by decide)); simpa using this
theorem ali_regionI.s1 (h : ali_regionI n1 rid ver kind lang ra n rc XS R2 A W listed xs) (_ : listed.getD 1 true = false) {v : Value} (l0 : listed.getD 0 true = true) (hf : Strs W v XS)  : ali_regionI n1 rid ver kind lang ra n rc XS R2 A W (listed.setIfInBounds 1 true) (fun k => if k = 10 then v else xs k) where
  bel := h.bel
  o1 := fun _ => listed_set_mono l0
  o3 := fun h1 => by
    have := h.o3 ((set_listed h1).resolve_left (by decide))
    simp only [listed_set_mono this.1, listed_set_mono this.2, and_self]
  o5 := fun h1 => by
    have := h.o5 ((set_listed h1).resolve_left (by decide))
    simp only [listed_set_mono this.1, listed_set_mono this.2.1, listed_set_mono this.2.2.1, listed_set_mono this.2.2.2, and_self]
  o6 := fun h1 => by
    have := h.o6 ((set_listed h1).resolve_left (by decide))
    simp only [listed_set_mono this.1, listed_set_mono this.2.1, listed_set_mono this.2.2.1, listed_set_mono this.2.2.2.1, listed_set_mono this.2.2.2.2.1, listed_set_mono this.2.2.2.2.2, and_self]
  f0 := fun h1 => by have := h.f0 ((set_listed h1).resolve_left (by decide)); simpa using this
  f1 := fun _ => by simpa using hf
  f2 := fun h1 => by have := h.f2 ((set_listed h1).resolve_left (by decide)); simpa using this
  f3 := fun h1 => by have := h.f3 ((set_listed h1).resolve_left (by decide)); simpa using this
  f4 := fun h1 => by have := h.f4 ((set_listed h1).resolve_left (by decide)); simpa using this
  f5 := fun h1 => by have := h.f5 ((set_listed h1).resolve_left (by decide)); simpa using this
theorem ali_regionI.s2 (h : ali_regionI n1 rid ver kind lang ra n rc XS R2 A W listed xs) (_ : listed.getD 2 true = false) {v : Value}  (hf : v = .agg #[.int .i64 rid, .int .i64 ver, .int .i64 kind, .string lang, .slice ra n rc])  : ali_regionI n1 rid ver kind lang ra n rc XS R2 A W (listed.setIfInBounds 2 true) (fun k => if k = 11 then v else xs k) where
  bel := h.bel
  o1 := fun h1 => listed_set_mono (h.o1 ((set_listed h1).resolve_left (by decide)))
  o3 := fun h1 => by
    have := h.o3 ((set_listed h1).resolve_left (by decide))
    simp only [listed_set_mono this.1, listed_set_mono this.2, and_self]
  o5 := fun h1 => by
    have := h.o5 ((set_listed h1).resolve_left (by decide))
    simp only [listed_set_mono this.1, listed_set_mono this.2.1, listed_set_mono this.2.2.1, listed_set_mono this.2.2.2, and_self]
  o6 := fun h1 => by
    have := h.o6 ((set_listed h1).resolve_left (by decide))
    simp only [listed_set_mono this.1, listed_set_mono this.2.1, listed_set_mono this.2.2.1, listed_set_mono this.2.2.2.1, listed_set_mono this.2.2.2.2.1, listed_set_mono this.2.2.2.2.2, and_self]
  f0 := fun h1 => by have := h.f0 ((set_listed h1).resolve_left (by decide)); simpa using this
  f1 := fun h1 => by have := h.f1 ((set_listed h1).resolve_left (by decide)); simpa using this
  f2 := fun _ => by simpa using hf
  f3 := fun h1 => by have := h.f3 ((set_listed h1).resolve_left (by decide)); simpa using this
  f4 := fun h1 => by have := h.f4 ((set_listed h1).resolve_left (by decide)); simpa using this
  f5 := fun h1 => by have := h.f5 ((set_listed h1).resolve_left (by decide)); simpa using this
theorem ali_regionI.s3 (h : ali_regionI n1 rid ver kind lang ra n rc XS R2 A W listed xs) (_ : listed.getD 3 true = false) {v : Value} (l1 : listed.getD 1 true = true) (l2 : listed.getD 2 true = true) (hf : ∃ (a : Option Addr) (c : Nat), v = recV5 ⟨R2, a, c⟩ ∧ RcdAt W ⟨R2, a, c⟩)  : ali_regionI n1 rid ver kind lang ra n rc XS R2 A W (listed.setIfInBounds 3 true) (fun k => if k = 12 then v else xs k) where
  bel := h.bel
  o1 := fun h1 => listed_set_mono (h.o1 ((set_listed h1).resolve_left (by decide)))
  o3 := fun _ => ⟨listed_set_mono l1, listed_set_mono l2⟩
  o5 := fun h1 => by
    have := h.o5 ((set_listed h1).resolve_left (by decide))
    simp only [listed_set_mono this.1, listed_set_mono this.2.1, listed_set_mono this.2.2.1, listed_set_mono this.2.2.2, and_self]
  o6 := fun h1 => by
    have := h.o6 ((set_listed h1).resolve_left (by decide))
    simp only [listed_set_mono this.1, listed_set_mono this.2.1, listed_set_mono this.2.2.1, listed_set_mono this.2.2.2.1, listed_set_mono this.2.2.2.2.1, listed_set_mono this.2.2.2.2.2, and_self]
  f0 := fun h1 => by have := h.f0 ((set_listed h1).resolve_left (by decide)); simpa using this
  f1 := fun h1 => by have := h.f1 ((set_listed h1).resolve_left (by decide)); simpa using this
  f2 := fun h1 => by have := h.f2 ((set_listed h1).resolve_left (by decide)); simpa using this
  f3 := fun _ => by simpa using hf
  f4 := fun h1 => by have := h.f4 ((set_listed h1).resolve_left (by decide)); simpa using this
  f5 := fun h1 => by have := h.f5 ((set_listed h1).resolve_left (by decide)); simpa using this
theorem ali_regionI.s4 (h : ali_regionI n1 rid ver kind lang ra n rc XS R2 A W listed xs) (_ : listed.getD 4 true = false) {v : Value}  (hf : ∃ g, v = .pointer (some ⟨g, 0, none⟩) ∧ W.heap[g]? = some recZ ∧ A.heap.size ≤ g)  : ali_regionI n1 rid ver kind lang ra n rc XS R2 A W (listed.setIfInBounds 4 true) (fun k => if k = 3 then v else xs k) where
  bel := h.bel
  o1 := fun h1 => listed_set_mono (h.o1 ((set_listed h1).resolve_left (by decide)))
  o3 := fun h1 => by
    have := h.o3 ((set_listed h1).resolve_left (by decide))
    simp only [listed_set_mono this.1, listed_set_mono this.2, and_self]
  o5 := fun h1 => by
    have := h.o5 ((set_listed h1).resolve_left (by decide))
    simp only [listed_set_mono this.1, listed_set_mono this.2.1, listed_set_mono this.2.2.1, listed_set_mono this.2.2.2, and_self]
  o6 := fun h1 => by
    have := h.o6 ((set_listed h1).resolve_left (by decide))
    simp only [listed_set_mono this.1, listed_set_mono this.2.1, listed_set_mono this.2.2.1, listed_set_mono this.2.2.2.1, listed_set_mono this.2.2.2.2.1, listed_set_mono this.2.2.2.2.2, and_self]
  f0 := fun h1 => by have := h.f0 ((set_listed h1).resolve_left (by decide)); simpa using this
  f1 := fun h1 => by have := h.f1 ((set_listed h1).resolve_left (by decide)); simpa using this
  f2 := fun h1 => by have := h.f2 ((set_listed h1).resolve_left (by decide)); simpa using this
  f3 := fun h1 => by have := h.f3 ((set_listed h1).resolve_left (by decide)); simpa using this
  f4 := fun _ => by simpa using hf
  f5 := fun h1 => by have := h.f5 ((set_listed h1).resolve_left (by decide)); simpa using this
theorem ali_regionI.s5 (h : ali_regionI n1 rid ver kind lang ra n rc XS R2 A W listed xs) (_ : listed.getD 5 true = false) {v : Value} (l0 : listed.getD 0 true = true) (l1 : listed.getD 1 true = true) (l3 : listed.getD 3 true = true) (l4 : listed.getD 4 true = true) (hf : Strs W v XS)  : ali_regionI n1 rid ver kind lang ra n rc XS R2 A W (listed.setIfInBounds 5 true) (fun k => if k = 2 then v else xs k) where
  bel := h.bel
  o1 := fun h1 => listed_set_mono (h.o1 ((set_listed h1).resolve_left (by decide)))
  o3 := fun h1 => by
    have := h.o3 ((set_listed h1).resolve_left (by decide))
    simp only [listed_set_mono this.1, listed_set_mono this.2, and_self]
  o5 := fun _ => ⟨listed_set_mono l0, listed_set_mono l1, listed_set_mono l3, listed_set_mono l4⟩
  o6 := fun h1 => by
    have := h.o6 ((set_listed h1).resolve_left (by decide))
    simp only [listed_set_mono this.1, listed_set_mono this.2.1, listed_set_mono this.2.2.1, listed_set_mono this.2.2.2.1, listed_set_mono this.2.2.2.2.1, listed_set_mono this.2.2.2.2.2, and_self]
  f0 := fun h1 => by have := h.f0 ((set_listed h1).resolve_left (by decide)); simpa using this
  f1 := fun h1 => by have := h.f1 ((set_listed h1).resolve_left (by decide)); simpa using this
  f2 := fun h1 => by have := h.f2 ((set_listed h1).resolve_left (by decide)); simpa using this
  f3 := fun h1 => by have := h.f3 ((set_listed h1).resolve_left (by decide)); simpa using this
  f4 := fun h1 => by have := h.f4 ((set_listed h1).resolve_left (by decide)); simpa using this
  f5 := fun _ => by simpa using hf
theorem ali_regionI.s6 (h : ali_regionI n1 rid ver kind lang ra n rc XS R2 A W listed xs) (_ : listed.getD 6 true = false) (l0 : listed.getD 0 true = true) (l1 : listed.getD 1 true = true) (l2 : listed.getD 2 true = true) (l3 : listed.getD 3 true = true) (l4 : listed.getD 4 true = true) (l5 : listed.getD 5 true = true)   : ali_regionI n1 rid ver kind lang ra n rc XS R2 A W (listed.setIfInBounds 6 true) xs where
  bel := h.bel
  o1 := fun h1 => listed_set_mono (h.o1 ((set_listed h1).resolve_left (by decide)))
  o3 := fun h1 => by
    have := h.o3 ((set_listed h1).resolve_left (by decide))
    simp only [listed_set_mono this.1, listed_set_mono this.2, and_self]
  o5 := fun h1 => by
    have := h.o5 ((set_listed h1).resolve_left (by decide))
    simp only [listed_set_mono this.1, listed_set_mono this.2.1, listed_set_mono this.2.2.1, listed_set_mono this.2.2.2, and_self]
  o6 := fun _ => ⟨listed_set_mono l0, listed_set_mono l1, listed_set_mono l2, listed_set_mono l3, listed_set_mono l4, listed_set_mono l5⟩
  f0 := fun h1 => h.f0 ((set_listed h1).resolve_left (by decide))
  f1 := fun h1 => h.f1 ((set_listed h1).resolve_left (by decide))
  f2 := fun h1 => h.f2 ((set_listed h1).resolve_left (by decide))
  f3 := fun h1 => h.f3 ((set_listed h1).resolve_left (by decide))
  f4 := fun h1 => h.f4 ((set_listed h1).resolve_left (by decide))
  f5 := fun h1 => h.f5 ((set_listed h1).resolve_left (by decide))
end

set_option maxRecDepth 100000 in
set_option maxHeartbeats 4000000 in
theorem ali_region {id : Nat} {ty0 : TypeId} {po0 : String} {af0 : Array Edge} {ty1 : TypeId} {po1 : String} {af1 : Array Edge} {ty2 : TypeId} {po2 : String} {af2 : Array Edge} {ty3 : TypeId} {po3 : String} {af3 : Array Edge} {ty4 : TypeId} {po4 : String} {af4 : Array Edge} {ty5 : TypeId} {po5 : String} {af5 : Array Edge} {ty6 : TypeId} {po6 : String} {af6 : Array Edge} {Q : Exit → Act → World → Prop} {A : World} {v0 v4 v5 v6 v7 v8 v13 v14 v15 v16 v17 v18 v19 v20 v21 v22 v23 v24 v25 v26 v27 v28 v29 v30 v31 v32 v33 v34 v35 v36 v37 v38 v39 v40 v41 v42 v43 v44 v45 v46 v47 v48 v49 v50 v51 v52 v53 v54 v55 v56 v57 v58 v59 v60 v61 v62 v63 v64 v65 v66 v67 v68 v69 v70 v71 v72 v73 v74 v75 v76 v77 v78 v79 v80 v81 v82 v83 v84 v85 v86 v87 v88 v89 v90 v91 v92 v93 : Value} {u2 u3 u9 u10 u11 u12 : Value} (n1 : Nat) (rid : Int) (ver : Int) (kind : Int) (lang : ByteArray) (ra : Option Addr) (n : Nat) (rc : Nat) (XS : List ByteArray) (R2 : Rec)
    (hn1 : A.heap[n1]? = some (recO rid ver kind lang ra n rc)) (hsu : Hid (∀ W, Below A.heap.size A W → Calls Tryz.prog 34 #[.agg #[.int .i64 rid, .int .i64 ver, .int .i64 kind, .string lang, .slice ra n rc]] W (RetStrs W XS))) (hso : Hid (∀ W, Below A.heap.size A W → Calls Tryz.prog 25 #[.agg #[.int .i64 rid, .int .i64 ver, .int .i64 kind, .string lang, .slice ra n rc]] W (RetR1 W R2)))
    (hw1_0 : waits .any #[⟨some 9, .load 24 (.tmp 1), ty0, po0, af0, none⟩, ⟨some 10, .call { callee := .value (.func 34), args := #[.tmp 9], argTypes := #[24] }, ty1, po1, af1, none⟩, ⟨some 11, .load 24 (.tmp 1), ty2, po2, af2, none⟩, ⟨some 12, .call { callee := .value (.func 25), args := #[.tmp 11], argTypes := #[24] }, ty3, po3, af3, none⟩, ⟨some 3, .alloc 24, ty4, po4, af4, none⟩, ⟨some 2, .assign (.tmp 10), ty5, po5, af5, none⟩, ⟨none, .store 24 (.tmp 3) (.tmp 12), ty6, po6, af6, none⟩] 1 0 = true)
    (hw3_1 : waits .any #[⟨some 9, .load 24 (.tmp 1), ty0, po0, af0, none⟩, ⟨some 10, .call { callee := .value (.func 34), args := #[.tmp 9], argTypes := #[24] }, ty1, po1, af1, none⟩, ⟨some 11, .load 24 (.tmp 1), ty2, po2, af2, none⟩, ⟨some 12, .call { callee := .value (.func 25), args := #[.tmp 11], argTypes := #[24] }, ty3, po3, af3, none⟩, ⟨some 3, .alloc 24, ty4, po4, af4, none⟩, ⟨some 2, .assign (.tmp 10), ty5, po5, af5, none⟩, ⟨none, .store 24 (.tmp 3) (.tmp 12), ty6, po6, af6, none⟩] 3 1 = true)
    (hw3_2 : waits .any #[⟨some 9, .load 24 (.tmp 1), ty0, po0, af0, none⟩, ⟨some 10, .call { callee := .value (.func 34), args := #[.tmp 9], argTypes := #[24] }, ty1, po1, af1, none⟩, ⟨some 11, .load 24 (.tmp 1), ty2, po2, af2, none⟩, ⟨some 12, .call { callee := .value (.func 25), args := #[.tmp 11], argTypes := #[24] }, ty3, po3, af3, none⟩, ⟨some 3, .alloc 24, ty4, po4, af4, none⟩, ⟨some 2, .assign (.tmp 10), ty5, po5, af5, none⟩, ⟨none, .store 24 (.tmp 3) (.tmp 12), ty6, po6, af6, none⟩] 3 2 = true)
    (hw5_0 : waits .any #[⟨some 9, .load 24 (.tmp 1), ty0, po0, af0, none⟩, ⟨some 10, .call { callee := .value (.func 34), args := #[.tmp 9], argTypes := #[24] }, ty1, po1, af1, none⟩, ⟨some 11, .load 24 (.tmp 1), ty2, po2, af2, none⟩, ⟨some 12, .call { callee := .value (.func 25), args := #[.tmp 11], argTypes := #[24] }, ty3, po3, af3, none⟩, ⟨some 3, .alloc 24, ty4, po4, af4, none⟩, ⟨some 2, .assign (.tmp 10), ty5, po5, af5, none⟩, ⟨none, .store 24 (.tmp 3) (.tmp 12), ty6, po6, af6, none⟩] 5 0 = true)
    (hw5_1 : waits .any #[⟨some 9, .load 24 (.tmp 1), ty0, po0, af0, none⟩, ⟨some 10, .call { callee := .value (.func 34), args := #[.tmp 9], argTypes := #[24] }, ty1, po1, af1, none⟩, ⟨some 11, .load 24 (.tmp 1), ty2, po2, af2, none⟩, ⟨some 12, .call { callee := .value (.func 25), args := #[.tmp 11], argTypes := #[24] }, ty3, po3, af3, none⟩, ⟨some 3, .alloc 24, ty4, po4, af4, none⟩, ⟨some 2, .assign (.tmp 10), ty5, po5, af5, none⟩, ⟨none, .store 24 (.tmp 3) (.tmp 12), ty6, po6, af6, none⟩] 5 1 = true)
    (hw5_3 : waits .any #[⟨some 9, .load 24 (.tmp 1), ty0, po0, af0, none⟩, ⟨some 10, .call { callee := .value (.func 34), args := #[.tmp 9], argTypes := #[24] }, ty1, po1, af1, none⟩, ⟨some 11, .load 24 (.tmp 1), ty2, po2, af2, none⟩, ⟨some 12, .call { callee := .value (.func 25), args := #[.tmp 11], argTypes := #[24] }, ty3, po3, af3, none⟩, ⟨some 3, .alloc 24, ty4, po4, af4, none⟩, ⟨some 2, .assign (.tmp 10), ty5, po5, af5, none⟩, ⟨none, .store 24 (.tmp 3) (.tmp 12), ty6, po6, af6, none⟩] 5 3 = true)
    (hw5_4 : waits .any #[⟨some 9, .load 24 (.tmp 1), ty0, po0, af0, none⟩, ⟨some 10, .call { callee := .value (.func 34), args := #[.tmp 9], argTypes := #[24] }, ty1, po1, af1, none⟩, ⟨some 11, .load 24 (.tmp 1), ty2, po2, af2, none⟩, ⟨some 12, .call { callee := .value (.func 25), args := #[.tmp 11], argTypes := #[24] }, ty3, po3, af3, none⟩, ⟨some 3, .alloc 24, ty4, po4, af4, none⟩, ⟨some 2, .assign (.tmp 10), ty5, po5, af5, none⟩, ⟨none, .store 24 (.tmp 3) (.tmp 12), ty6, po6, af6, none⟩] 5 4 = true)
    (hw6_0 : waits .any #[⟨some 9, .load 24 (.tmp 1), ty0, po0, af0, none⟩, ⟨some 10, .call { callee := .value (.func 34), args := #[.tmp 9], argTypes := #[24] }, ty1, po1, af1, none⟩, ⟨some 11, .load 24 (.tmp 1), ty2, po2, af2, none⟩, ⟨some 12, .call { callee := .value (.func 25), args := #[.tmp 11], argTypes := #[24] }, ty3, po3, af3, none⟩, ⟨some 3, .alloc 24, ty4, po4, af4, none⟩, ⟨some 2, .assign (.tmp 10), ty5, po5, af5, none⟩, ⟨none, .store 24 (.tmp 3) (.tmp 12), ty6, po6, af6, none⟩] 6 0 = true)
    (hw6_1 : waits .any #[⟨some 9, .load 24 (.tmp 1), ty0, po0, af0, none⟩, ⟨some 10, .call { callee := .value (.func 34), args := #[.tmp 9], argTypes := #[24] }, ty1, po1, af1, none⟩, ⟨some 11, .load 24 (.tmp 1), ty2, po2, af2, none⟩, ⟨some 12, .call { callee := .value (.func 25), args := #[.tmp 11], argTypes := #[24] }, ty3, po3, af3, none⟩, ⟨some 3, .alloc 24, ty4, po4, af4, none⟩, ⟨some 2, .assign (.tmp 10), ty5, po5, af5, none⟩, ⟨none, .store 24 (.tmp 3) (.tmp 12), ty6, po6, af6, none⟩] 6 1 = true)
    (hw6_2 : waits .any #[⟨some 9, .load 24 (.tmp 1), ty0, po0, af0, none⟩, ⟨some 10, .call { callee := .value (.func 34), args := #[.tmp 9], argTypes := #[24] }, ty1, po1, af1, none⟩, ⟨some 11, .load 24 (.tmp 1), ty2, po2, af2, none⟩, ⟨some 12, .call { callee := .value (.func 25), args := #[.tmp 11], argTypes := #[24] }, ty3, po3, af3, none⟩, ⟨some 3, .alloc 24, ty4, po4, af4, none⟩, ⟨some 2, .assign (.tmp 10), ty5, po5, af5, none⟩, ⟨none, .store 24 (.tmp 3) (.tmp 12), ty6, po6, af6, none⟩] 6 2 = true)
    (hw6_3 : waits .any #[⟨some 9, .load 24 (.tmp 1), ty0, po0, af0, none⟩, ⟨some 10, .call { callee := .value (.func 34), args := #[.tmp 9], argTypes := #[24] }, ty1, po1, af1, none⟩, ⟨some 11, .load 24 (.tmp 1), ty2, po2, af2, none⟩, ⟨some 12, .call { callee := .value (.func 25), args := #[.tmp 11], argTypes := #[24] }, ty3, po3, af3, none⟩, ⟨some 3, .alloc 24, ty4, po4, af4, none⟩, ⟨some 2, .assign (.tmp 10), ty5, po5, af5, none⟩, ⟨none, .store 24 (.tmp 3) (.tmp 12), ty6, po6, af6, none⟩] 6 3 = true)
    (hw6_4 : waits .any #[⟨some 9, .load 24 (.tmp 1), ty0, po0, af0, none⟩, ⟨some 10, .call { callee := .value (.func 34), args := #[.tmp 9], argTypes := #[24] }, ty1, po1, af1, none⟩, ⟨some 11, .load 24 (.tmp 1), ty2, po2, af2, none⟩, ⟨some 12, .call { callee := .value (.func 25), args := #[.tmp 11], argTypes := #[24] }, ty3, po3, af3, none⟩, ⟨some 3, .alloc 24, ty4, po4, af4, none⟩, ⟨some 2, .assign (.tmp 10), ty5, po5, af5, none⟩, ⟨none, .store 24 (.tmp 3) (.tmp 12), ty6, po6, af6, none⟩] 6 4 = true)
    (hw6_5 : waits .any #[⟨some 9, .load 24 (.tmp 1), ty0, po0, af0, none⟩, ⟨some 10, .call { callee := .value (.func 34), args := #[.tmp 9], argTypes := #[24] }, ty1, po1, af1, none⟩, ⟨some 11, .load 24 (.tmp 1), ty2, po2, af2, none⟩, ⟨some 12, .call { callee := .value (.func 25), args := #[.tmp 11], argTypes := #[24] }, ty3, po3, af3, none⟩, ⟨some 3, .alloc 24, ty4, po4, af4, none⟩, ⟨some 2, .assign (.tmp 10), ty5, po5, af5, none⟩, ⟨none, .store 24 (.tmp 3) (.tmp 12), ty6, po6, af6, none⟩] 6 5 = true)
    (hfw : forwardB .any #[⟨some 9, .load 24 (.tmp 1), ty0, po0, af0, none⟩, ⟨some 10, .call { callee := .value (.func 34), args := #[.tmp 9], argTypes := #[24] }, ty1, po1, af1, none⟩, ⟨some 11, .load 24 (.tmp 1), ty2, po2, af2, none⟩, ⟨some 12, .call { callee := .value (.func 25), args := #[.tmp 11], argTypes := #[24] }, ty3, po3, af3, none⟩, ⟨some 3, .alloc 24, ty4, po4, af4, none⟩, ⟨some 2, .assign (.tmp 10), ty5, po5, af5, none⟩, ⟨none, .store 24 (.tmp 3) (.tmp 12), ty6, po6, af6, none⟩] = true)
    (hQ : ∀ (xs : Nat → Value) (W : World) (Z : World), Below A.heap.size A W → (Strs W (xs 2) XS) → (∃ (g : Nat) (a : Option Addr) (c : Nat), (xs 3) = .pointer (some ⟨g, 0, none⟩) ∧ RcdAt W ⟨R2, a, c⟩ ∧ W.heap[g]? = some recZ ∧ A.heap.size ≤ g ∧ Z = putR W g R2.id R2.ver R2.kind R2.lang (.slice a R2.fields.length c)) → Q .normal ⟨#[v0, .pointer (some ⟨n1, 0, none⟩), xs 2, xs 3, v4, v5, v6, v7, v8, xs 9, xs 10, xs 11, xs 12, v13, v14, v15, v16, v17, v18, v19, v20, v21, v22, v23, v24, v25, v26, v27, v28, v29, v30, v31, v32, v33, v34, v35, v36, v37, v38, v39, v40, v41, v42, v43, v44, v45, v46, v47, v48, v49, v50, v51, v52, v53, v54, v55, v56, v57, v58, v59, v60, v61, v62, v63, v64, v65, v66, v67, v68, v69, v70, v71, v72, v73, v74, v75, v76, v77, v78, v79, v80, v81, v82, v83, v84, v85, v86, v87, v88, v89, v90, v91, v92, v93], []⟩ Z)
    : Code.wp Tryz.prog (.region id #[⟨some 9, .load 24 (.tmp 1), ty0, po0, af0, none⟩, ⟨some 10, .call { callee := .value (.func 34), args := #[.tmp 9], argTypes := #[24] }, ty1, po1, af1, none⟩, ⟨some 11, .load 24 (.tmp 1), ty2, po2, af2, none⟩, ⟨some 12, .call { callee := .value (.func 25), args := #[.tmp 11], argTypes := #[24] }, ty3, po3, af3, none⟩, ⟨some 3, .alloc 24, ty4, po4, af4, none⟩, ⟨some 2, .assign (.tmp 10), ty5, po5, af5, none⟩, ⟨none, .store 24 (.tmp 3) (.tmp 12), ty6, po6, af6, none⟩] true) Q ⟨#[v0, .pointer (some ⟨n1, 0, none⟩), u2, u3, v4, v5, v6, v7, v8, u9, u10, u11, u12, v13, v14, v15, v16, v17, v18, v19, v20, v21, v22, v23, v24, v25, v26, v27, v28, v29, v30, v31, v32, v33, v34, v35, v36, v37, v38, v39, v40, v41, v42, v43, v44, v45, v46, v47, v48, v49, v50, v51, v52, v53, v54, v55, v56, v57, v58, v59, v60, v61, v62, v63, v64, v65, v66, v67, v68, v69, v70, v71, v72, v73, v74, v75, v76, v77, v78, v79, v80, v81, v82, v83, v84, v85, v86, v87, v88, v89, v90, v91, v92, v93], []⟩ A := by
  refine wp_region_inv (by kernel_rfl) (fun listed x Z => ∃ (xs : Nat → Value) (W : World), x = ⟨#[v0, .pointer (some ⟨n1, 0, none⟩), xs 2, xs 3, v4, v5, v6, v7, v8, xs 9, xs 10, xs 11, xs 12, v13, v14, v15, v16, v17, v18, v19, v20, v21, v22, v23, v24, v25, v26, v27, v28, v29, v30, v31, v32, v33, v34, v35, v36, v37, v38, v39, v40, v41, v42, v43, v44, v45, v46, v47, v48, v49, v50, v51, v52, v53, v54, v55, v56, v57, v58, v59, v60, v61, v62, v63, v64, v65, v66, v67, v68, v69, v70, v71, v72, v73, v74, v75, v76, v77, v78, v79, v80, v81, v82, v83, v84, v85, v86, v87, v88, v89, v90, v91, v92, v93], []⟩ ∧ ali_regionI n1 rid ver kind lang ra n rc XS R2 A W listed xs ∧ (listed.getD 6 true = false → Z = W) ∧ (listed.getD 6 true = true → ∃ (g : Nat) (a : Option Addr) (c : Nat), (xs 3) = .pointer (some ⟨g, 0, none⟩) ∧ RcdAt W ⟨R2, a, c⟩ ∧ W.heap[g]? = some recZ ∧ A.heap.size ≤ g ∧ Z = putR W g R2.id R2.ver R2.kind R2.lang (.slice a R2.fields.length c))) ?start ?step ?done
  case start =>
    have no : ∀ m, m < 7 → (Array.replicate 7 false).getD m true = false := fun m hm => by simp [Array.getD, hm]
    exact ⟨fun k => if k = 2 then u2 else if k = 3 then u3 else if k = 9 then u9 else if k = 10 then u10 else if k = 11 then u11 else if k = 12 then u12 else undef, A.drew, rfl, ⟨(Below.refl _ _).drew, fun h => Bool.noConfusion ((no 1 (by decide)).symm.trans h), fun h => Bool.noConfusion ((no 3 (by decide)).symm.trans h), fun h => Bool.noConfusion ((no 5 (by decide)).symm.trans h), fun h => Bool.noConfusion ((no 6 (by decide)).symm.trans h), fun h => Bool.noConfusion ((no 0 (by decide)).symm.trans h), fun h => Bool.noConfusion ((no 1 (by decide)).symm.trans h), fun h => Bool.noConfusion ((no 2 (by decide)).symm.trans h), fun h => Bool.noConfusion ((no 3 (by decide)).symm.trans h), fun h => Bool.noConfusion ((no 4 (by decide)).symm.trans h), fun h => Bool.noConfusion ((no 5 (by decide)).symm.trans h)⟩, fun _ => rfl, fun h => Bool.noConfusion ((no 6 (by decide)).symm.trans h)⟩
  case done =>
    rintro listed x Z hs ⟨xs, W, rfl, R1, -, hE⟩ h0
    have hall := all_listedB hfw hs h0
    exact hQ xs W Z R1.bel (R1.f5 (hall 5)) (hE (hall 6))
  case step =>
    rintro listed x Z i hs ⟨xs, W, rfl, R1, hZ0, hZ1⟩ hi
    have hin : i < 7 := by
      obtain ⟨-, o, ho, -⟩ := mem_ready.1 hi
      exact (Array.getElem?_eq_some_iff.1 ho).1
    have hno := (mem_ready.1 hi).1
    have bel := R1.bel
    have hnW := (bel.block n1 (Array.getElem?_eq_some_iff.1 hn1).1).trans hn1
    have g0 := Lib.cell_of_heap hnW 0
    have g1 := Lib.cell_of_heap hnW 1
    have g2 := Lib.cell_of_heap hnW 2
    have g3 := Lib.cell_of_heap hnW 3
    have g4 := Lib.cell_of_heap hnW 4
    have HSU := hsu
    have HSO := hso
    have RR := Lib.hid R1
    have HNO := Lib.hid hno
    have BEL := Lib.hid bel
    have HZ0 := Lib.hid hZ0
    have HZ1 := Lib.hid hZ1
    clear R1 hQ hfw bel hno hn1 hnW hsu hso hZ0 hZ1
    have hcases : i = 0 ∨ i = 1 ∨ i = 2 ∨ i = 3 ∨ i = 4 ∨ i = 5 ∨ i = 6 := by omega
    rcases hcases with rfl | rfl | rfl | rfl | rfl | rfl | rfl
    · have hs0 : listed.getD 6 true = false := by
        cases hs0 : listed.getD 6 true with
        | false => rfl
        | true =>
          have h := RR.out
          exact absurd (h.o6 hs0).1 (by rw [HNO.out]; decide)
      have hZW := (HZ0.out hs0).symm
      subst hZW
      clear hi hw1_0 hw3_1 hw3_2 hw5_0 hw5_1 hw5_3 hw5_4 hw6_0 hw6_1 hw6_2 hw6_3 hw6_4 hw6_5
      refine wpOp_step rfl (fun K hK => ?_)
      go_simp
      exact hK _ _ ⟨fun k => if k = 9 then .agg #[.int .i64 rid, .int .i64 ver, .int .i64 kind, .string lang, .slice ra n rc] else xs k, _, by simp, RR.out.s0 HNO.out   (rfl) , fun _ => rfl, fun h => absurd (((set_listed h).resolve_left (by decide))) (by rw [hs0]; decide)⟩
    · have l0 := waited hi hw1_0
      have hs0 : listed.getD 6 true = false := by
        cases hs0 : listed.getD 6 true with
        | false => rfl
        | true =>
          have h := RR.out
          exact absurd (h.o6 hs0).2.1 (by rw [HNO.out]; decide)
      have hZW := (HZ0.out hs0).symm
      subst hZW
      have e9 := RR.out.f0 l0
      clear hi hw1_0 hw3_1 hw3_2 hw5_0 hw5_1 hw5_3 hw5_4 hw6_0 hw6_1 hw6_2 hw6_3 hw6_4 hw6_5
      refine wpOp_step rfl (fun K hK => ?_)
      simp only [e9]
      go_simp
      refine (HSU.out W BEL.out).mono ?_
      rintro e w'' ⟨v, rfl, hs, bb⟩
      exact hK _ _ ⟨fun k => if k = 10 then v else xs k, _, by simp [e9], (RR.out.world (bb)).s1 HNO.out l0  (hs) , fun _ => rfl, fun h => absurd (((set_listed h).resolve_left (by decide))) (by rw [hs0]; decide)⟩
    · have hs0 : listed.getD 6 true = false := by
        cases hs0 : listed.getD 6 true with
        | false => rfl
        | true =>
          have h := RR.out
          exact absurd (h.o6 hs0).2.2.1 (by rw [HNO.out]; decide)
      have hZW := (HZ0.out hs0).symm
      subst hZW
      clear hi hw1_0 hw3_1 hw3_2 hw5_0 hw5_1 hw5_3 hw5_4 hw6_0 hw6_1 hw6_2 hw6_3 hw6_4 hw6_5
      refine wpOp_step rfl (fun K hK => ?_)
      go_simp
      exact hK _ _ ⟨fun k => if k = 11 then .agg #[.int .i64 rid, .int .i64 ver, .int .i64 kind, .string lang, .slice ra n rc] else xs k, _, by simp, RR.out.s2 HNO.out   (rfl) , fun _ => rfl, fun h => absurd (((set_listed h).resolve_left (by decide))) (by rw [hs0]; decide)⟩
    · have l1 := waited hi hw3_1
      have l2 := waited hi hw3_2
      have hs0 : listed.getD 6 true = false := by
        cases hs0 : listed.getD 6 true with
        | false => rfl
        | true =>
          have h := RR.out
          exact absurd (h.o6 hs0).2.2.2.1 (by rw [HNO.out]; decide)
      have hZW := (HZ0.out hs0).symm
      subst hZW
      have e11 := RR.out.f2 l2
      clear hi hw1_0 hw3_1 hw3_2 hw5_0 hw5_1 hw5_3 hw5_4 hw6_0 hw6_1 hw6_2 hw6_3 hw6_4 hw6_5
      refine wpOp_step rfl (fun K hK => ?_)
      simp only [e11]
      go_simp
      refine (HSO.out W BEL.out).mono ?_
      rintro e w'' ⟨a, c, rfl, hs, bb⟩
      exact hK _ _ ⟨fun k => if k = 12 then recV5 ⟨R2, a, c⟩ else xs k, _, by simp [e11], (RR.out.world (bb)).s3 HNO.out l1 l2  (⟨a, c, rfl, hs⟩) , fun _ => rfl, fun h => absurd (((set_listed h).resolve_left (by decide))) (by rw [hs0]; decide)⟩
    · have hs0 : listed.getD 6 true = false := by
        cases hs0 : listed.getD 6 true with
        | false => rfl
        | true =>
          have h := RR.out
          exact absurd (h.o6 hs0).2.2.2.2.1 (by rw [HNO.out]; decide)
      have hZW := (HZ0.out hs0).symm
      subst hZW
      clear hi hw1_0 hw3_1 hw3_2 hw5_0 hw5_1 hw5_3 hw5_4 hw6_0 hw6_1 hw6_2 hw6_3 hw6_4 hw6_5
      refine wpOp_step rfl (fun K hK => ?_)
      go_simp
      exact hK _ _ ⟨fun k => if k = 3 then .pointer (some ⟨W.heap.size, 0, none⟩) else xs k, _, by simp, (RR.out.world ((Below.refl _ _).alloc (Nat.le_refl _) _)).s4 HNO.out   (⟨_, rfl, alloc_at rfl, BEL.out.size⟩) , fun _ => rfl, fun h => absurd (((set_listed h).resolve_left (by decide))) (by rw [hs0]; decide)⟩
    · have l0 := waited hi hw5_0
      have l1 := waited hi hw5_1
      have l3 := waited hi hw5_3
      have l4 := waited hi hw5_4
      have h1 := RR.out.f1 l1
      clear hi hw1_0 hw3_1 hw3_2 hw5_0 hw5_1 hw5_3 hw5_4 hw6_0 hw6_1 hw6_2 hw6_3 hw6_4 hw6_5
      refine wpOp_step rfl (fun K hK => ?_)
      go_simp
      exact hK _ _ ⟨fun k => if k = 2 then xs 10 else xs k, _, by simp, RR.out.s5 HNO.out l0 l1 l3 l4  (h1) , fun h => HZ0.out (set_false h), fun h => by have := HZ1.out ((set_listed h).resolve_left (by decide)); simpa using this⟩
    · have l0 := waited hi hw6_0
      have l1 := waited hi hw6_1
      have l2 := waited hi hw6_2
      have l3 := waited hi hw6_3
      have l4 := waited hi hw6_4
      have l5 := waited hi hw6_5
      have hZW := (HZ0.out HNO.out).symm
      subst hZW
      obtain ⟨g, e3, hg, hA⟩ := RR.out.f4 l4
      obtain ⟨a, c, e12, hr⟩ := RR.out.f3 l3
      unfold recV5 at e12
      simp only at e12
      have q0 := Lib.cell_of_heap hg 0
      have q1 := Lib.cell_of_heap hg 1
      have q2 := Lib.cell_of_heap hg 2
      have q3 := Lib.cell_of_heap hg 3
      have q4 := Lib.cell_of_heap hg 4
      have z0 := Lib.frozen_of_heap hg 0
      have z1 := Lib.frozen_of_heap hg 1
      have z2 := Lib.frozen_of_heap hg 2
      have z3 := Lib.frozen_of_heap hg 3
      have z4 := Lib.frozen_of_heap hg 4
      have HG := Lib.hid hg
      clear hg
      clear hi hw1_0 hw3_1 hw3_2 hw5_0 hw5_1 hw5_3 hw5_4 hw6_0 hw6_1 hw6_2 hw6_3 hw6_4 hw6_5
      refine wpOp_step rfl (fun K hK => ?_)
      simp only [e3, e12]
      go_simp
      exact hK _ _ ⟨xs, _, by simp [e3, e12], RR.out.s6 HNO.out l0 l1 l2 l3 l4 l5   , fun h => absurd (listed_self' 6) (by rw [h]; decide), fun _ => ⟨g, a, c, e3, hr, HG.out, hA, rfl⟩⟩
/-- What holds, whatever operations have come up. -/
structure alj_regionI (n1 : Nat) (rid : Int) (ver : Int) (kind : Int) (lang : ByteArray) (n : Nat) (rc : Nat) (pb : Nat) (po : Nat) (T : ByteArray) (I : ByteArray) (sa : Option Addr) (sn : Nat) (sc : Nat) (au : Int) (A W : World) (listed : Array Bool) (xs : Nat → Value) : Prop where
  bel : Below A.heap.size A W
  o2 : listed.getD 2 true = true → listed.getD 1 true = true
  o3 : listed.getD 3 true = true → listed.getD 2 true = true
  o4 : listed.getD 4 true = true → listed.getD 3 true = true
  o5 : listed.getD 5 true = true → listed.getD 0 true = true ∧ listed.getD 4 true = true
  o6 : listed.getD 6 true = true → listed.getD 5 true = true
  o7 : listed.getD 7 true = true → listed.getD 6 true = true
  o8 : listed.getD 8 true = true → listed.getD 6 true = true
  o10 : listed.getD 10 true = true → listed.getD 0 true = true ∧ listed.getD 1 true = true ∧ listed.getD 2 true = true ∧ listed.getD 3 true = true ∧ listed.getD 4 true = true ∧ listed.getD 5 true = true ∧ listed.getD 6 true = true ∧ listed.getD 7 true = true ∧ listed.getD 9 true = true
  o11 : listed.getD 11 true = true → listed.getD 8 true = true ∧ listed.getD 10 true = true
  f0 : listed.getD 0 true = true → (xs 75) = .agg #[.int .i64 rid, .int .i64 ver, .int .i64 kind, .string lang, .slice (some ⟨pb, po, none⟩) n rc]
  f1 : listed.getD 1 true = true → (xs 76) = .pointer (some ⟨n1, 4, none⟩)
  f2 : listed.getD 2 true = true → (xs 77) = .slice (some ⟨pb, po, none⟩) n rc
  f3 : listed.getD 3 true = true → (xs 78) = .pointer (some ⟨pb, po, none⟩)
  f4 : listed.getD 4 true = true → (xs 79) = .agg #[.string T, .string I, .slice sa sn sc, .int .i64 au]
  f5 : listed.getD 5 true = true → ∃ (a : Option Addr) (c : Nat), (xs 80) = .tuple #[recV5 ⟨rec0, a, c⟩, .int .i64 2]
  f6 : listed.getD 6 true = true → ∃ (a : Option Addr) (c : Nat), (xs 74) = .tuple #[recV5 ⟨rec0, a, c⟩, .int .i64 2]
  f7 : listed.getD 7 true = true → ∃ (a : Option Addr) (c : Nat), (xs 81) = recV5 ⟨rec0, a, c⟩
  f8 : listed.getD 8 true = true → (xs 82) = .int .i64 2
  f9 : listed.getD 9 true = true → ∃ g, (xs 4) = .pointer (some ⟨g, 0, none⟩) ∧ W.heap[g]? = some recZ ∧ A.heap.size ≤ g
  f11 : listed.getD 11 true = true → (xs 5) = .int .i64 2
section
variable {n1 : Nat} {rid : Int} {ver : Int} {kind : Int} {lang : ByteArray} {n : Nat} {rc : Nat} {pb : Nat} {po : Nat} {T : ByteArray} {I : ByteArray} {sa : Option Addr} {sn : Nat} {sc : Nat} {au : Int} {A W : World} {listed : Array Bool} {xs : Nat → Value}
theorem alj_regionI.world (h : alj_regionI n1 rid ver kind lang n rc pb po T I sa sn sc au A W listed xs) {W' : World} (b : Below W.heap.size W W') : alj_regionI n1 rid ver kind lang n rc pb po T I sa sn sc au A W' listed xs where
  bel := h.bel.bt b
  o2 := h.o2
  o3 := h.o3
  o4 := h.o4
  o5 := h.o5
  o6 := h.o6
  o7 := h.o7
  o8 := h.o8
  o10 := h.o10
  o11 := h.o11
  f0 := h.f0
  f1 := h.f1
  f2 := h.f2
  f3 := h.f3
  f4 := h.f4
  f5 := h.f5
  f6 := h.f6
  f7 := h.f7
  f8 := h.f8
  f9 := fun hl => by
    have h := h.f9 hl
    obtain ⟨g, h1, h2, h3⟩ := h
    exact ⟨g, h1, (b.block g (Array.getElem?_eq_some_iff.1 h2).1).trans h2, h3⟩
  f11 := h.f11
theorem alj_regionI.s0 (h : alj_regionI n1 rid ver kind lang n rc pb po T I sa sn sc au A W listed xs) (_ : listed.getD 0 true = false) {v : Value}  (hf : v = .agg #[.int .i64 rid, .int .i64 ver, .int .i64 kind, .string lang, .slice (some ⟨pb, po, none⟩) n rc])  : alj_regionI n1 rid ver kind lang n rc pb po T I sa sn sc au A W (listed.setIfInBounds 0 true) (fun k => if k = 75 then v else xs k) where
  bel := h.bel
  o2 := fun h1 => listed_set_mono (h.o2 ((set_listed h1).resolve_left (by decide)))
  o3 := fun h1 => listed_set_mono (h.o3 ((set_listed h1).resolve_left (by decide)))
  o4 := fun h1 => listed_set_mono (h.o4 ((set_listed h1).resolve_left (by decide)))
  o5 := fun h1 => by
    have := h.o5 ((set_listed h1).resolve_left (by decide))
    simp only [listed_set_mono this.1, listed_set_mono this.2, and_self]
  o6 := fun h1 => listed_set_mono (h.o6 ((set_listed h1).resolve_left (by decide)))
  o7 := fun h1 => listed_set_mono (h.o7 ((set_listed h1).resolve_left (by decide)))
  o8 := fun h1 => listed_set_mono (h.o8 ((set_listed h1).resolve_left (by decide)))
  o10 := fun h1 => by
    have := h.o10 ((set_listed h1).resolve_left (by decide))
    simp only [listed_set_mono this.1, listed_set_mono this.2.1, listed_set_mono this.2.2.1, listed_set_mono this.2.2.2.1, listed_set_mono this.2.2.2.2.1, listed_set_mono this.2.2.2.2.2.1, listed_set_mono this.2.2.2.2.2.2.1, listed_set_mono this.2.2.2.2.2.2.2.1, listed_set_mono this.2.2.2.2.2.2.2.2, and_self]
  o11 := fun h1 => by
    have := h.o11 ((set_listed h1).resolve_left (by decide))
    simp only [listed_set_mono this.1, listed_set_mono this.2, and_self]
  f0 := fun _ => by simpa using hf
  f1 := fun h1 => by have := h.f1 ((set_listed h1).resolve_left (by decide)); simpa using this
  f2 := fun h1 => by have := h.f2 ((set_listed h1).resolve_left (by decide)); simpa using this
  f3 := fun h1 => by have := h.f3 ((set_listed h1).resolve_left (by decide)); simpa using this
  f4 := fun h1 => by have := h.f4 ((set_listed h1).resolve_left (by decide)); simpa using this
  f5 := fun h1 => by have := h.f5 ((set_listed h1).resolve_left (by decide)); simpa using this
  f6 := fun h1 => by have := h.f6 ((set_listed h1).resolve_left (by decide)); simpa using this
  f7 := fun h1 => by have := h.f7 ((set_listed h1).resolve_left (by decide)); simpa using this
  f8 := fun h1 => by have := h.f8 ((set_listed h1).resolve_left (by decide)); simpa using this
  f9 := fun h1 => by have := h.f9 ((set_listed h1).resolve_left (by decide)); simpa using this
  f11 := fun h1 => by have := h.f11 ((set_listed h1).resolve_left (by decide)); simpa using this
theorem alj_regionI.s1 (h : alj_regionI n1 rid ver kind lang n rc pb po T I sa sn sc au A W listed xs) (_ : listed.getD 1 true = false) {v : Value}  (hf : v = .pointer (some ⟨n1, 4, none⟩))  : alj_regionI n1 rid ver kind lang n rc pb po T I sa sn sc au A W (listed.setIfInBounds 1 true) (fun k => if k = 76 then v else xs k) where
  bel := h.bel
  o2 := fun h1 => listed_set_mono (h.o2 ((set_listed h1).resolve_left (by decide)))
  o3 := fun h1 => listed_set_mono (h.o3 ((set_listed h1).resolve_left (by decide)))
  o4 := fun h1 => listed_set_mono (h.o4 ((set_listed h1).resolve_left (by decide)))
  o5 := fun h1 => by
    have := h.o5 ((set_listed h1).resolve_left (by decide))
    simp only [listed_set_mono this.1, listed_set_mono this.2, and_self]
  o6 := fun h1 => listed_set_mono (h.o6 ((set_listed h1).resolve_left (by decide)))
  o7 := fun h1 => listed_set_mono (h.o7 ((set_listed h1).resolve_left (by decide)))
  o8 := fun h1 => listed_set_mono (h.o8 ((set_listed h1).resolve_left (by decide)))
  o10 := fun h1 => by
    have := h.o10 ((set_listed h1).resolve_left (by decide))
    simp only [listed_set_mono this.1, listed_set_mono this.2.1, listed_set_mono this.2.2.1, listed_set_mono this.2.2.2.1, listed_set_mono this.2.2.2.2.1, listed_set_mono this.2.2.2.2.2.1, listed_set_mono this.2.2.2.2.2.2.1, listed_set_mono this.2.2.2.2.2.2.2.1, listed_set_mono this.2.2.2.2.2.2.2.2, and_self]
  o11 := fun h1 => by
    have := h.o11 ((set_listed h1).resolve_left (by decide))
    simp only [listed_set_mono this.1, listed_set_mono this.2, and_self]
  f0 := fun h1 => by have := h.f0 ((set_listed h1).resolve_left (by decide)); simpa using this
  f1 := fun _ => by simpa using hf
  f2 := fun h1 => by have := h.f2 ((set_listed h1).resolve_left (by decide)); simpa using this
  f3 := fun h1 => by have := h.f3 ((set_listed h1).resolve_left (by decide)); simpa using this
  f4 := fun h1 => by have := h.f4 ((set_listed h1).resolve_left (by decide)); simpa using this
  f5 := fun h1 => by have := h.f5 ((set_listed h1).resolve_left (by decide)); simpa using this
  f6 := fun h1 => by have := h.f6 ((set_listed h1).resolve_left (by decide)); simpa using this
  f7 := fun h1 => by have := h.f7 ((set_listed h1).resolve_left (by decide)); simpa using this
  f8 := fun h1 => by have := h.f8 ((set_listed h1).resolve_left (by decide)); simpa using this
  f9 := fun h1 => by have := h.f9 ((set_listed h1).resolve_left (by decide)); simpa using this
  f11 := fun h1 => by have := h.f11 ((set_listed h1).resolve_left (by decide)); simpa using this
theorem alj_regionI.s2 (h : alj_regionI n1 rid ver kind lang n rc pb po T I sa sn sc au A W listed xs) (_ : listed.getD 2 true = false) {v : Value} (l1 : listed.getD 1 true = true) (hf : v = .slice (some ⟨pb, po, none⟩) n rc)  : alj_regionI n1 rid ver kind lang n rc pb po T I sa sn sc au A W (listed.setIfInBounds 2 true) (fun k => if k = 77 then v else xs k) where
  bel := h.bel
  o2 := fun _ => listed_set_mono l1
  o3 := fun h1 => listed_set_mono (h.o3 ((set_listed h1).resolve_left (by decide)))
  o4 := fun h1 => listed_set_mono (h.o4 ((set_listed h1).resolve_left (by decide)))
  o5 := fun h1 => by
    have := h.o5 ((set_listed h1).resolve_left (by decide))
    simp only [listed_set_mono this.1, listed_set_mono this.2, and_self]
  o6 := fun h1 => listed_set_mono (h.o6 ((set_listed h1).resolve_left (by decide)))
  o7 := fun h1 => listed_set_mono (h.o7 ((set_listed h1).resolve_left (by decide)))
  o8 := fun h1 => listed_set_mono (h.o8 ((set_listed h1).resolve_left (by decide)))
  o10 := fun h1 => by
    have := h.o10 ((set_listed h1).resolve_left (by decide))
    simp only [listed_set_mono this.1, listed_set_mono this.2.1, listed_set_mono this.2.2.1, listed_set_mono this.2.2.2.1, listed_set_mono this.2.2.2.2.1, listed_set_mono this.2.2.2.2.2.1, listed_set_mono this.2.2.2.2.2.2.1, listed_set_mono this.2.2.2.2.2.2.2.1, listed_set_mono this.2.2.2.2.2.2.2.2, and_self]
  o11 := fun h1 => by
    have := h.o11 ((set_listed h1).resolve_left (by decide))
    simp only [listed_set_mono this.1, listed_set_mono this.2, and_self]
  f0 := fun h1 => by have := h.f0 ((set_listed h1).resolve_left (by decide)); simpa using this
  f1 := fun h1 => by have := h.f1 ((set_listed h1).resolve_left (by decide)); simpa using this
  f2 := fun _ => by simpa using hf
  f3 := fun h1 => by have := h.f3 ((set_listed h1).resolve_left (by decide)); simpa using this
  f4 := fun h1 => by have := h.f4 ((set_listed h1).resolve_left (by decide)); simpa using this
  f5 := fun h1 => by have := h.f5 ((set_listed h1).resolve_left (by decide)); simpa using this
  f6 := fun h1 => by have := h.f6 ((set_listed h1).resolve_left (by decide)); simpa using this
  f7 := fun h1 => by have := h.f7 ((set_listed h1).resolve_left (by decide)); simpa using this
  f8 := fun h1 => by have := h.f8 ((set_listed h1).resolve_left (by decide)); simpa using this
  f9 := fun h1 => by have := h.f9 ((set_listed h1).resolve_left (by decide)); simpa using this
  f11 := fun h1 => by have := h.f11 ((set_listed h1).resolve_left (by decide)); simpa using this
theorem alj_regionI.s3 (h : alj_regionI n1 rid ver kind lang n rc pb po T I sa sn sc au A W listed xs) (_ : listed.getD 3 true = false) {v : Value} (l2 : listed.getD 2 true = true) (hf : v = .pointer (some ⟨pb, po, none⟩))  : alj_regionI n1 rid ver kind lang n rc pb po T I sa sn sc au A W (listed.setIfInBounds 3 true) (fun k => if k = 78 then v else xs k) where
  bel := h.bel
  o2 := fun h1 => listed_set_mono (h.o2 ((set_listed h1).resolve_left (by decide)))
  o3 := fun _ => listed_set_mono l2
  o4 := fun h1 => listed_set_mono (h.o4 ((set_listed h1).resolve_left (by decide)))
  o5 := fun h1 => by
    have := h.o5 ((set_listed h1).resolve_left (by decide))
    simp only [listed_set_mono this.1, listed_set_mono this.2, and_self]
  o6 := fun h1 => listed_set_mono (h.o6 ((set_listed h1).resolve_left (by decide)))
  o7 := fun h1 => listed_set_mono (h.o7 ((set_listed h1).resolve_left (by decide)))
  o8 := fun h1 => listed_set_mono (h.o8 ((set_listed h1).resolve_left (by decide)))
  o10 := fun h1 => by
    have := h.o10 ((set_listed h1).resolve_left (by decide))
    simp only [listed_set_mono this.1, listed_set_mono this.2.1, listed_set_mono this.2.2.1, listed_set_mono this.2.2.2.1, listed_set_mono this.2.2.2.2.1, listed_set_mono this.2.2.2.2.2.1, listed_set_mono this.2.2.2.2.2.2.1, listed_set_mono this.2.2.2.2.2.2.2.1, listed_set_mono this.2.2.2.2.2.2.2.2, and_self]
  o11 := fun h1 => by
    have := h.o11 ((set_listed h1).resolve_left (by decide))
    simp only [listed_set_mono this.1, listed_set_mono this.2, and_self]
  f0 := fun h1 => by have := h.f0 ((set_listed h1).resolve_left (by decide)); simpa using this
  f1 := fun h1 => by have := h.f1 ((set_listed h1).resolve_left (by decide)); simpa using this
  f2 := fun h1 => by have := h.f2 ((set_listed h1).resolve_left (by decide)); simpa using this
  f3 := fun _ => by simpa using hf
  f4 := fun h1 => by have := h.f4 ((set_listed h1).resolve_left (by decide)); simpa using this
  f5 := fun h1 => by have := h.f5 ((set_listed h1).resolve_left (by decide)); simpa using this
  f6 := fun h1 => by have := h.f6 ((set_listed h1).resolve_left (by decide)); simpa using this
  f7 := fun h1 => by have := h.f7 ((set_listed h1).resolve_left (by decide)); simpa using this
  f8 := fun h1 => by have := h.f8 ((set_listed h1).resolve_left (by decide)); simpa using this
  f9 := fun h1 => by have := h.f9 ((set_listed h1).resolve_left (by decide)); simpa using this
  f11 := fun h1 => by have := h.f11 ((set_listed h1).resolve_left (by decide)); simpa using this
theorem alj_regionI.s4 (h : alj_regionI n1 rid ver kind lang n rc pb po T I sa sn sc au A W listed xs) (_ : listed.getD 4 true = false) {v : Value} (l3 : listed.getD 3 true = true) (hf : v = .agg #[.string T, .string I, .slice sa sn sc, .int .i64 au])  : alj_regionI n1 rid ver kind lang n rc pb po T I sa sn sc au A W (listed.setIfInBounds 4 true) (fun k => if k = 79 then v else xs k) where
  bel := h.bel
  o2 := fun h1 => listed_set_mono (h.o2 ((set_listed h1).resolve_left (by decide)))
  o3 := fun h1 => listed_set_mono (h.o3 ((set_listed h1).resolve_left (by decide)))
  o4 := fun _ => listed_set_mono l3
  o5 := fun h1 => by
    have := h.o5 ((set_listed h1).resolve_left (by decide))
    simp only [listed_set_mono this.1, listed_set_mono this.2, and_self]
  o6 := fun h1 => listed_set_mono (h.o6 ((set_listed h1).resolve_left (by decide)))
  o7 := fun h1 => listed_set_mono (h.o7 ((set_listed h1).resolve_left (by decide)))
  o8 := fun h1 => listed_set_mono (h.o8 ((set_listed h1).resolve_left (by decide)))
  o10 := fun h1 => by
    have := h.o10 ((set_listed h1).resolve_left (by decide))
    simp only [listed_set_mono this.1, listed_set_mono this.2.1, listed_set_mono this.2.2.1, listed_set_mono this.2.2.2.1, listed_set_mono this.2.2.2.2.1, listed_set_mono this.2.2.2.2.2.1, listed_set_mono this.2.2.2.2.2.2.1, listed_set_mono this.2.2.2.2.2.2.2.1, listed_set_mono this.2.2.2.2.2.2.2.2, and_self]
  o11 := fun h1 => by
    have := h.o11 ((set_listed h1).resolve_left (by decide))
    simp only [listed_set_mono this.1, listed_set_mono this.2, and_self]
  f0 := fun h1 => by have := h.f0 ((set_listed h1).resolve_left (by decide)); simpa using this
  f1 := fun h1 => by have := h.f1 ((set_listed h1).resolve_left (by decide)); simpa using this
  f2 := fun h1 => by have := h.f2 ((set_listed h1).resolve_left (by decide)); simpa using this
  f3 := fun h1 => by have := h.f3 ((set_listed h1).resolve_left (by decide)); simpa using this
  f4 := fun _ => by simpa using hf
  f5 := fun h1 => by have := h.f5 ((set_listed h1).resolve_left (by decide)); simpa using this
  f6 := fun h1 => by have := h.f6 ((set_listed h1).resolve_left (by decide)); simpa using this
  f7 := fun h1 => by have := h.f7 ((set_listed h1).resolve_left (by decide)); simpa using this
  f8 := fun h1 => by have := h.f8 ((set_listed h1).resolve_left (by decide)); simpa using this
  f9 := fun h1 => by have := h.f9 ((set_listed h1).resolve_left (by decide)); simpa using this
  f11 := fun h1 => by have := h.f11 ((set_listed h1).resolve_left (by decide)); simpa using this
theorem alj_regionI.s5 (h : alj_regionI n1 rid ver kind lang n rc pb po T I sa sn sc au A W listed xs) (_ : listed.getD 5 true = false) {v : Value} (l0 : listed.getD 0 true = true) (l4 : listed.getD 4 true = true) (hf : ∃ (a : Option Addr) (c : Nat), v = .tuple #[recV5 ⟨rec0, a, c⟩, .int .i64 2])  : alj_regionI n1 rid ver kind lang n rc pb po T I sa sn sc au A W (listed.setIfInBounds 5 true) (fun k => if k = 80 then v else xs k) where
  bel := h.bel
  o2 := fun h1 => listed_set_mono (h.o2 ((set_listed h1).resolve_left (by decide)))
  o3 := fun h1 => listed_set_mono (h.o3 ((set_listed h1).resolve_left (by decide)))
  o4 := fun h1 => listed_set_mono (h.o4 ((set_listed h1).resolve_left (by decide)))
  o5 := fun _ => ⟨listed_set_mono l0, listed_set_mono l4⟩
  o6 := fun h1 => listed_set_mono (h.o6 ((set_listed h1).resolve_left (by decide)))
  o7 := fun h1 => listed_set_mono (h.o7 ((set_listed h1).resolve_left (by decide)))
  o8 := fun h1 => listed_set_mono (h.o8 ((set_listed h1).resolve_left (by decide)))
  o10 := fun h1 => by
    have := h.o10 ((set_listed h1).resolve_left (by decide))
    simp only [listed_set_mono this.1, listed_set_mono this.2.1, listed_set_mono this.2.2.1, listed_set_mono this.2.2.2.1, listed_set_mono this.2.2.2.2.1, listed_set_mono this.2.2.2.2.2.1, listed_set_mono this.2.2.2.2.2.2.1, listed_set_mono this.2.2.2.2.2.2.2.1, listed_set_mono this.2.2.2.2.2.2.2.2, and_self]
  o11 := fun h1 => by
    have := h.o11 ((set_listed h1).resolve_left (by decide))
    simp only [listed_set_mono this.1, listed_set_mono this.2, and_self]
  f0 := fun h1 => by have := h.f0 ((set_listed h1).resolve_left (by decide)); simpa using this
  f1 := fun h1 => by have := h.f1 ((set_listed h1).resolve_left (by decide)); simpa using this
  f2 := fun h1 => by have := h.f2 ((set_listed h1).resolve_left (by decide)); simpa using this
  f3 := fun h1 => by have := h.f3 ((set_listed h1).resolve_left (by decide)); simpa using this
  f4 := fun h1 => by have := h.f4 ((set_listed h1).resolve_left (by decide)); simpa using this
  f5 := fun _ => by simpa using hf
  f6 := fun h1 => by have := h.f6 ((set_listed h1).resolve_left (by decide)); simpa using this
  f7 := fun h1 => by have := h.f7 ((set_listed h1).resolve_left (by decide)); simpa using this
  f8 := fun h1 => by have := h.f8 ((set_listed h1).resolve_left (by decide)); simpa using this
  f9 := fun h1 => by have := h.f9 ((set_listed h1).resolve_left (by decide)); simpa using this
  f11 := fun h1 => by have := h.f11 ((set_listed h1).resolve_left (by decide)); simpa using this
theorem alj_regionI.s6 (h : alj_regionI n1 rid ver kind lang n rc pb po T I sa sn sc au A W listed xs) (_ : listed.getD 6 true = false) {v : Value} (l5 : listed.getD 5 true = true) (hf : ∃ (a : Option Addr) (c : Nat), v = .tuple #[recV5 ⟨rec0, a, c⟩, .int .i64 2])  : alj_regionI n1 rid ver kind lang n rc pb po T I sa sn sc au A W (listed.setIfInBounds 6 true) (fun k => if k = 74 then v else xs k) where
  bel := h.bel
  o2 := fun h1 => listed_set_mono (h.o2 ((set_listed h1).resolve_left (by decide)))
  o3 := fun h1 => listed_set_mono (h.o3 ((set_listed h1).resolve_left (by decide)))
  o4 := fun h1 => listed_set_mono (h.o4 ((set_listed h1).resolve_left (by decide)))
  o5 := fun h1 => by
    have := h.o5 ((set_listed h1).resolve_left (by decide))
    simp only [listed_set_mono this.1, listed_set_mono this.2, and_self]
  o6 := fun _ => listed_set_mono l5
  o7 := fun h1 => listed_set_mono (h.o7 ((set_listed h1).resolve_left (by decide)))
  o8 := fun h1 => listed_set_mono (h.o8 ((set_listed h1).resolve_left (by decide)))
  o10 := fun h1 => by
    have := h.o10 ((set_listed h1).resolve_left (by decide))
    simp only [listed_set_mono this.1, listed_set_mono this.2.1, listed_set_mono this.2.2.1, listed_set_mono this.2.2.2.1, listed_set_mono this.2.2.2.2.1, listed_set_mono this.2.2.2.2.2.1, listed_set_mono this.2.2.2.2.2.2.1, listed_set_mono this.2.2.2.2.2.2.2.1, listed_set_mono this.2.2.2.2.2.2.2.2, and_self]
  o11 := fun h1 => by
    have := h.o11 ((set_listed h1).resolve_left (by decide))
    simp only [listed_set_mono this.1, listed_set_mono this.2, and_self]
  f0 := fun h1 => by have := h.f0 ((set_listed h1).resolve_left (by decide)); simpa using this
  f1 := fun h1 => by have := h.f1 ((set_listed h1).resolve_left (by decide)); simpa using this
  f2 := fun h1 => by have := h.f2 ((set_listed h1).resolve_left (by decide)); simpa using this
  f3 := fun h1 => by have := h.f3 ((set_listed h1).resolve_left (by decide)); simpa using this
  f4 := fun h1 => by have := h.f4 ((set_listed h1).resolve_left (by decide)); simpa using this
  f5 := fun h1 => by have := h.f5 ((set_listed h1).resolve_left (by decide)); simpa using this
  f6 := fun _ => by simpa using hf
  f7 := fun h1 => by have := h.f7 ((set_listed h1).resolve_left (by decide)); simpa using this
  f8 := fun h1 => by have := h.f8 ((set_listed h1).resolve_left (by decide)); simpa using this
  f9 := fun h1 => by have := h.f9 ((set_listed h1).resolve_left (by decide)); simpa using this
  f11 := fun h1 => by have := h.f11 ((set_listed h1).resolve_left (by decide)); simpa using this
theorem alj_regionI.s7 (h : alj_regionI n1 rid ver kind lang n rc pb po T I sa sn sc au A W listed xs) (_ : listed.getD 7 true = false) {v : Value} (l6 : listed.getD 6 true = true) (hf : ∃ (a : Option Addr) (c : Nat), v = recV5 ⟨rec0, a, c⟩)  : alj_regionI n1 rid ver kind lang n rc pb po T I sa sn sc au A W (listed.setIfInBounds 7 true) (fun k => if k = 81 then v else xs k) where
  bel := h.bel
  o2 := fun h1 => listed_set_mono (h.o2 ((set_listed h1).resolve_left (by decide)))
  o3 := fun h1 => listed_set_mono (h.o3 ((set_listed h1).resolve_left (by decide)))
  o4 := fun h1 => listed_set_mono (h.o4 ((set_listed h1).resolve_left (by decide)))
  o5 := fun h1 => by
    have := h.o5 ((set_listed h1).resolve_left (by decide))
    simp only [listed_set_mono this.1, listed_set_mono this.2, and_self]
  o6 := fun h1 => listed_set_mono (h.o6 ((set_listed h1).resolve_left (by decide)))
  o7 := fun _ => listed_set_mono l6
  o8 := fun h1 => listed_set_mono (h.o8 ((set_listed h1).resolve_left (by decide)))
  o10 := fun h1 => by
    have := h.o10 ((set_listed h1).resolve_left (by decide))
    simp only [listed_set_mono this.1, listed_set_mono this.2.1, listed_set_mono this.2.2.1, listed_set_mono this.2.2.2.1, listed_set_mono this.2.2.2.2.1, listed_set_mono this.2.2.2.2.2.1, listed_set_mono this.2.2.2.2.2.2.1, listed_set_mono this.2.2.2.2.2.2.2.1, listed_set_mono this.2.2.2.2.2.2.2.2, and_self]
  o11 := fun h1 => by
    have := h.o11 ((set_listed h1).resolve_left (by decide))
    simp only [listed_set_mono this.1, listed_set_mono this.2, and_self]
  f0 := fun h1 => by have := h.f0 ((set_listed h1).resolve_left (by decide)); simpa using this
  f1 := fun h1 => by have := h.f1 ((set_listed h1).resolve_left (by decide)); simpa using this
  f2 := fun h1 => by have := h.f2 ((set_listed h1).resolve_left (by decide)); simpa using this
  f3 := fun h1 => by have := h.f3 ((set_listed h1).resolve_left (by decide)); simpa using this
  f4 := fun h1 => by have := h.f4 ((set_listed h1).resolve_left (by decide)); simpa using this
  f5 := fun h1 => by have := h.f5 ((set_listed h1).resolve_left (by decide)); simpa using this
  f6 := fun h1 => by have := h.f6 ((set_listed h1).resolve_left (by decide)); simpa using this
  f7 := fun _ => by simpa using hf
  f8 := fun h1 => by have := h.f8 ((set_listed h1).resolve_left (by decide)); simpa using this
  f9 := fun h1 => by have := h.f9 ((set_listed h1).resolve_left (by decide)); simpa using this
  f11 := fun h1 => by have := h.f11 ((set_listed h1).resolve_left (by decide)); simpa using this
theorem alj_regionI.s8 (h : alj_regionI n1 rid ver kind lang n rc pb po T I sa sn sc au A W listed xs) (_ : listed.getD 8 true = false) {v : Value} (l6 : listed.getD 6 true = true) (hf : v = .int .i64 2)  : alj_regionI n1 rid ver kind lang n rc pb po T I sa sn sc au A W (listed.setIfInBounds 8 true) (fun k => if k = 82 then v else xs k) where
  bel := h.bel
  o2 := fun h1 => listed_set_mono (h.o2 ((set_listed h1).resolve_left (by decide)))
  o3 := fun h1 => listed_set_mono (h.o3 ((set_listed h1).resolve_left (by decide)))
  o4 := fun h1 => listed_set_mono (h.o4 ((set_listed h1).resolve_left (by decide)))
  o5 := fun h1 => by
    have := h.o5 ((set_listed h1).resolve_left (by decide))
    simp only [listed_set_mono this.1, listed_set_mono this.2, and_self]
  o6 := fun h1 => listed_set_mono (h.o6 ((set_listed h1).resolve_left (by decide)))
  o7 := fun h1 => listed_set_mono (h.o7 ((set_listed h1).resolve_left (by decide)))
  o8 := fun _ => listed_set_mono l6
  o10 := fun h1 => by
    have := h.o10 ((set_listed h1).resolve_left (by decide))
    simp only [listed_set_mono this.1, listed_set_mono this.2.1, listed_set_mono this.2.2.1, listed_set_mono this.2.2.2.1, listed_set_mono this.2.2.2.2.1, listed_set_mono this.2.2.2.2.2.1, listed_set_mono this.2.2.2.2.2.2.1, listed_set_mono this.2.2.2.2.2.2.2.1, listed_set_mono this.2.2.2.2.2.2.2.2, and_self]
  o11 := fun h1 => by
    have := h.o11 ((set_listed h1).resolve_left (by decide))
    simp only [listed_set_mono this.1, listed_set_mono this.2, and_self]
  f0 := fun h1 => by have := h.f0 ((set_listed h1).resolve_left (by decide)); simpa using this
  f1 := fun h1 => by have := h.f1 ((set_listed h1).resolve_left (by decide)); simpa using this
  f2 := fun h1 => by have := h.f2 ((set_listed h1).resolve_left (by decide)); simpa using this
  f3 := fun h1 => by have := h.f3 ((set_listed h1).resolve_left (by decide)); simpa using this
  f4 := fun h1 => by have := h.f4 ((set_listed h1).resolve_left (by decide)); simpa using this
  f5 := fun h1 => by have := h.f5 ((set_listed h1).resolve_left (by decide)); simpa using this
  f6 := fun h1 => by have := h.f6 ((set_listed h1).resolve_left (by decide)); simpa using this
  f7 := fun h1 => by have := h.f7 ((set_listed h1).resolve_left (by decide)); simpa using this
  f8 := fun _ => by simpa using hf
  f9 := fun h1 => by have := h.f9 ((set_listed h1).resolve_left (by decide)); simpa using this
  f11 := fun h1 => by have := h.f11 ((set_listed h1).resolve_left (by decide)); simpa using this
theorem alj_regionI.s9 (h : alj_regionI n1 rid ver kind lang n rc pb po T I sa sn sc au A W listed xs) (_ : listed.getD 9 true = false) {v : Value}  (hf : ∃ g, v = .pointer (some ⟨g, 0, none⟩) ∧ W.heap[g]? = some recZ ∧ A.heap.size ≤ g)  : alj_regionI n1 rid ver kind lang n rc pb po T I sa sn sc au A W (listed.setIfInBounds 9 true) (fun k => if k = 4 then v else xs k) where
  bel := h.bel
  o2 := fun h1 => listed_set_mono (h.o2 ((set_listed h1).resolve_left (by decide)))
  o3 := fun h1 => listed_set_mono (h.o3 ((set_listed h1).resolve_left (by decide)))
  o4 := fun h1 => listed_set_mono (h.o4 ((set_listed h1).resolve_left (by decide)))
  o5 := fun h1 => by
    have := h.o5 ((set_listed h1).resolve_left (by decide))
    simp only [listed_set_mono this.1, listed_set_mono this.2, and_self]
  o6 := fun h1 => listed_set_mono (h.o6 ((set_listed h1).resolve_left (by decide)))
  o7 := fun h1 => listed_set_mono (h.o7 ((set_listed h1).resolve_left (by decide)))
  o8 := fun h1 => listed_set_mono (h.o8 ((set_listed h1).resolve_left (by decide)))
  o10 := fun h1 => by
    have := h.o10 ((set_listed h1).resolve_left (by decide))
    simp only [listed_set_mono this.1, listed_set_mono this.2.1, listed_set_mono this.2.2.1, listed_set_mono this.2.2.2.1, listed_set_mono this.2.2.2.2.1, listed_set_mono this.2.2.2.2.2.1, listed_set_mono this.2.2.2.2.2.2.1, listed_set_mono this.2.2.2.2.2.2.2.1, listed_set_mono this.2.2.2.2.2.2.2.2, and_self]
  o11 := fun h1 => by
    have := h.o11 ((set_listed h1).resolve_left (by decide))
    simp only [listed_set_mono this.1, listed_set_mono this.2, and_self]
  f0 := fun h1 => by have := h.f0 ((set_listed h1).resolve_left (by decide)); simpa using this
  f1 := fun h1 => by have := h.f1 ((set_listed h1).resolve_left (by decide)); simpa using this
  f2 := fun h1 => by have := h.f2 ((set_listed h1).resolve_left (by decide)); simpa using this
  f3 := fun h1 => by have := h.f3 ((set_listed h1).resolve_left (by decide)); simpa using this
  f4 := fun h1 => by have := h.f4 ((set_listed h1).resolve_left (by decide)); simpa using this
  f5 := fun h1 => by have := h.f5 ((set_listed h1).resolve_left (by decide)); simpa using this
  f6 := fun h1 => by have := h.f6 ((set_listed h1).resolve_left (by decide)); simpa using this
  f7 := fun h1 => by have := h.f7 ((set_listed h1).resolve_left (by decide)); simpa using this
  f8 := fun h1 => by have := h.f8 ((set_listed h1).resolve_left (by decide)); simpa using this
  f9 := fun _ => by simpa using hf
  f11 := fun h1 => by have := h.f11 ((set_listed h1).resolve_left (by decide)); simpa using this
theorem alj_regionI.s10 (h : alj_regionI n1 rid ver kind lang n rc pb po T I sa sn sc au A W listed xs) (_ : listed.getD 10 true = false) (l0 : listed.getD 0 true = true) (l1 : listed.getD 1 true = true) (l2 : listed.getD 2 true = true) (l3 : listed.getD 3 true = true) (l4 : listed.getD 4 true = true) (l5 : listed.getD 5 true = true) (l6 : listed.getD 6 true = true) (l7 : listed.getD 7 true = true) (l9 : listed.getD 9 true = true)   : alj_regionI n1 rid ver kind lang n rc pb po T I sa sn sc au A W (listed.setIfInBounds 10 true) xs where
  bel := h.bel
  o2 := fun h1 => listed_set_mono (h.o2 ((set_listed h1).resolve_left (by decide)))
  o3 := fun h1 => listed_set_mono (h.o3 ((set_listed h1).resolve_left (by decide)))
  o4 := fun h1 => listed_set_mono (h.o4 ((set_listed h1).resolve_left (by decide)))
  o5 := fun h1 => by
    have := h.o5 ((set_listed h1).resolve_left (by decide))
    simp only [listed_set_mono this.1, listed_set_mono this.2, and_self]
  o6 := fun h1 => listed_set_mono (h.o6 ((set_listed h1).resolve_left (by decide)))
  o7 := fun h1 => listed_set_mono (h.o7 ((set_listed h1).resolve_left (by decide)))
  o8 := fun h1 => listed_set_mono (h.o8 ((set_listed h1).resolve_left (by decide)))
  o10 := fun _ => ⟨listed_set_mono l0, listed_set_mono l1, listed_set_mono l2, listed_set_mono l3, listed_set_mono l4, listed_set_mono l5, listed_set_mono l6, listed_set_mono l7, listed_set_mono l9⟩
  o11 := fun h1 => by
    have := h.o11 ((set_listed h1).resolve_left (by decide))
    simp only [listed_set_mono this.1, listed_set_mono this.2, and_self]
  f0 := fun h1 => h.f0 ((set_listed h1).resolve_left (by decide))
  f1 := fun h1 => h.f1 ((set_listed h1).resolve_left (by decide))
  f2 := fun h1 => h.f2 ((set_listed h1).resolve_left (by decide))
  f3 := fun h1 => h.f3 ((set_listed h1).resolve_left (by decide))
  f4 := fun h1 => h.f4 ((set_listed h1).resolve_left (by decide))
  f5 := fun h1 => h.f5 ((set_listed h1).resolve_left (by decide))
  f6 := fun h1 => h.f6 ((set_listed h1).resolve_left (by decide))
  f7 := fun h1 => h.f7 ((set_listed h1).resolve_left (by decide))
  f8 := fun h1 => h.f8 ((set_listed h1).resolve_left (by decide))
  f9 := fun h1 => h.f9 ((set_listed h1).resolve_left (by decide))
  f11 := fun h1 => h.f11 ((set_listed h1).resolve_left (by decide))
theorem alj_regionI.s11 (h : alj_regionI n1 rid ver kind lang n rc pb po T I sa sn sc au A W listed xs) (_ : listed.getD 11 true = false) {v : Value} (l8 : listed.getD 8 true = true) (l10 : listed.getD 10 true = true) (hf : v = .int .i64 2)  : alj_regionI n1 rid ver kind lang n rc pb po T I sa sn sc au A W (listed.setIfInBounds 11 true) (fun k => if k = 5 then v else xs k) where
  bel := h.bel
  o2 := fun h1 => listed_set_mono (h.o2 ((set_listed h1).resolve_left (by decide)))
  o3 := fun h1 => listed_set_mono (h.o3 ((set_listed h1).resolve_left (by decide)))
  o4 := fun h1 => listed_set_mono (h.o4 ((set_listed h1).resolve_left (by decide)))
  o5 := fun h1 => by
    have := h.o5 ((set_listed h1).resolve_left (by decide))
    simp only [listed_set_mono this.1, listed_set_mono this.2, and_self]
  o6 := fun h1 => listed_set_mono (h.o6 ((set_listed h1).resolve_left (by decide)))
  o7 := fun h1 => listed_set_mono (h.o7 ((set_listed h1).resolve_left (by decide)))
  o8 := fun h1 => listed_set_mono (h.o8 ((set_listed h1).resolve_left (by decide)))
  o10 := fun h1 => by
    have := h.o10 ((set_listed h1).resolve_left (by decide))
    simp only [listed_set_mono this.1, listed_set_mono this.2.1, listed_set_mono this.2.2.1, listed_set_mono this.2.2.2.1, listed_set_mono this.2.2.2.2.1, listed_set_mono this.2.2.2.2.2.1, listed_set_mono this.2.2.2.2.2.2.1, listed_set_mono this.2.2.2.2.2.2.2.1, listed_set_mono this.2.2.2.2.2.2.2.2, and_self]
  o11 := fun _ => ⟨listed_set_mono l8, listed_set_mono l10⟩
  f0 := fun h1 => by have := h.f0 ((set_listed h1).resolve_left (by decide)); simpa using this
  f1 := fun h1 => by have := h.f1 ((set_listed h1).resolve_left (by decide)); simpa using this
  f2 := fun h1 => by have := h.f2 ((set_listed h1).resolve_left (by decide)); simpa using this
  f3 := fun h1 => by have := h.f3 ((set_listed h1).resolve_left (by decide)); simpa using this
  f4 := fun h1 => by have := h.f4 ((set_listed h1).resolve_left (by decide)); simpa using this
  f5 := fun h1 => by have := h.f5 ((set_listed h1).resolve_left (by decide)); simpa using this
  f6 := fun h1 => by have := h.f6 ((set_listed h1).resolve_left (by decide)); simpa using this
  f7 := fun h1 => by have := h.f7 ((set_listed h1).resolve_left (by decide)); simpa using this
  f8 := fun h1 => by have := h.f8 ((set_listed h1).resolve_left (by decide)); simpa using this
  f9 := fun h1 => by have := h.f9 ((set_listed h1).resolve_left (by decide)); simpa using this
  f11 := fun _ => by simpa using hf
end

set_option maxRecDepth 100000 in
set_option maxHeartbeats 4000000 in
theorem alj_region {id : Nat} {ty0 : TypeId} {po0 : String} {af0 : Array Edge} {ty1 : TypeId} {po1 : String} {af1 : Array Edge} {ty2 : TypeId} {po2 : String} {af2 : Array Edge} {ty3 : TypeId} {po3 : String} {af3 : Array Edge} {ty4 : TypeId} {po4 : String} {af4 : Array Edge} {ty5 : TypeId} {po5 : String} {af5 : Array Edge} {ty6 : TypeId} {po6 : String} {af6 : Array Edge} {ty7 : TypeId} {po7 : String} {af7 : Array Edge} {ty8 : TypeId} {po8 : String} {af8 : Array Edge} {ty9 : TypeId} {po9 : String} {af9 : Array Edge} {ty10 : TypeId} {po10 : String} {af10 : Array Edge} {ty11 : TypeId} {po11 : String} {af11 : Array Edge} {Q : Exit → Act → World → Prop} {A : World} {v0 v2 v3 v6 v7 v8 v9 v10 v11 v12 v13 v14 v15 v16 v17 v18 v19 v20 v21 v22 v23 v24 v25 v26 v27 v28 v29 v30 v31 v32 v33 v34 v35 v36 v37 v38 v39 v40 v41 v42 v43 v44 v45 v46 v47 v48 v49 v50 v51 v52 v53 v54 v55 v56 v57 v58 v59 v60 v61 v62 v63 v64 v65 v66 v67 v68 v69 v70 v71 v72 v73 v83 v84 v85 v86 v87 v88 v89 v90 v91 v92 v93 : Value} {u4 u5 u74 u75 u76 u77 u78 u79 u80 u81 u82 : Value} (n1 : Nat) (rid : Int) (ver : Int) (kind : Int) (lang : ByteArray) (n : Nat) (rc : Nat) (pb : Nat) (po : Nat) (T : ByteArray) (I : ByteArray) (sa : Option Addr) (sn : Nat) (sc : Nat) (au : Int)
    (hn1 : A.heap[n1]? = some (recO rid ver kind lang (some ⟨pb, po, none⟩) n rc)) (hn0 : 0 < n) (c0 : A.cell? ⟨pb, po, none⟩ = some (.string T)) (c1 : A.cell? ⟨pb, po + 1, none⟩ = some (.string I)) (c2 : A.cell? ⟨pb, po + 2, none⟩ = some (.slice sa sn sc)) (c3 : A.cell? ⟨pb, po + 3, none⟩ = some (.int .i64 au)) (hii : Hid (∀ W, Below A.heap.size A W → Calls Tryz.prog 21 #[.agg #[.int .i64 rid, .int .i64 ver, .int .i64 kind, .string lang, .slice (some ⟨pb, po, none⟩) n rc], .int .i64 5, .agg #[.string T, .string I, .slice sa sn sc, .int .i64 au]] W (RetR W (rec0, 2))))
    (hw2_1 : waits .any #[⟨some 75, .load 24 (.tmp 1), ty0, po0, af0, none⟩, ⟨some 76, .fieldAddr 24 (.tmp 1) 4, ty1, po1, af1, none⟩, ⟨some 77, .load 22 (.tmp 76), ty2, po2, af2, none⟩, ⟨some 78, .indexAddr 22 (.tmp 77) (.const (.int .i64 0)), ty3, po3, af3, none⟩, ⟨some 79, .load 35 (.tmp 78), ty4, po4, af4, none⟩, ⟨some 80, .call { callee := .value (.func 21), args := #[.tmp 75, .const (.int .i64 5), .tmp 79], argTypes := #[24, 3, 35] }, ty5, po5, af5, none⟩, ⟨some 74, .move (.tmp 80), ty6, po6, af6, none⟩, ⟨some 81, .extract (.tmp 74) 0, ty7, po7, af7, none⟩, ⟨some 82, .extract (.tmp 74) 1, ty8, po8, af8, none⟩, ⟨some 4, .alloc 24, ty9, po9, af9, none⟩, ⟨none, .store 24 (.tmp 4) (.tmp 81), ty10, po10, af10, none⟩, ⟨some 5, .assign (.tmp 82), ty11, po11, af11, none⟩] 2 1 = true)
    (hw3_2 : waits .any #[⟨some 75, .load 24 (.tmp 1), ty0, po0, af0, none⟩, ⟨some 76, .fieldAddr 24 (.tmp 1) 4, ty1, po1, af1, none⟩, ⟨some 77, .load 22 (.tmp 76), ty2, po2, af2, none⟩, ⟨some 78, .indexAddr 22 (.tmp 77) (.const (.int .i64 0)), ty3, po3, af3, none⟩, ⟨some 79, .load 35 (.tmp 78), ty4, po4, af4, none⟩, ⟨some 80, .call { callee := .value (.func 21), args := #[.tmp 75, .const (.int .i64 5), .tmp 79], argTypes := #[24, 3, 35] }, ty5, po5, af5, none⟩, ⟨some 74, .move (.tmp 80), ty6, po6, af6, none⟩, ⟨some 81, .extract (.tmp 74) 0, ty7, po7, af7, none⟩, ⟨some 82, .extract (.tmp 74) 1, ty8, po8, af8, none⟩, ⟨some 4, .alloc 24, ty9, po9, af9, none⟩, ⟨none, .store 24 (.tmp 4) (.tmp 81), ty10, po10, af10, none⟩, ⟨some 5, .assign (.tmp 82), ty11, po11, af11, none⟩] 3 2 = true)
    (hw4_3 : waits .any #[⟨some 75, .load 24 (.tmp 1), ty0, po0, af0, none⟩, ⟨some 76, .fieldAddr 24 (.tmp 1) 4, ty1, po1, af1, none⟩, ⟨some 77, .load 22 (.tmp 76), ty2, po2, af2, none⟩, ⟨some 78, .indexAddr 22 (.tmp 77) (.const (.int .i64 0)), ty3, po3, af3, none⟩, ⟨some 79, .load 35 (.tmp 78), ty4, po4, af4, none⟩, ⟨some 80, .call { callee := .value (.func 21), args := #[.tmp 75, .const (.int .i64 5), .tmp 79], argTypes := #[24, 3, 35] }, ty5, po5, af5, none⟩, ⟨some 74, .move (.tmp 80), ty6, po6, af6, none⟩, ⟨some 81, .extract (.tmp 74) 0, ty7, po7, af7, none⟩, ⟨some 82, .extract (.tmp 74) 1, ty8, po8, af8, none⟩, ⟨some 4, .alloc 24, ty9, po9, af9, none⟩, ⟨none, .store 24 (.tmp 4) (.tmp 81), ty10, po10, af10, none⟩, ⟨some 5, .assign (.tmp 82), ty11, po11, af11, none⟩] 4 3 = true)
    (hw5_0 : waits .any #[⟨some 75, .load 24 (.tmp 1), ty0, po0, af0, none⟩, ⟨some 76, .fieldAddr 24 (.tmp 1) 4, ty1, po1, af1, none⟩, ⟨some 77, .load 22 (.tmp 76), ty2, po2, af2, none⟩, ⟨some 78, .indexAddr 22 (.tmp 77) (.const (.int .i64 0)), ty3, po3, af3, none⟩, ⟨some 79, .load 35 (.tmp 78), ty4, po4, af4, none⟩, ⟨some 80, .call { callee := .value (.func 21), args := #[.tmp 75, .const (.int .i64 5), .tmp 79], argTypes := #[24, 3, 35] }, ty5, po5, af5, none⟩, ⟨some 74, .move (.tmp 80), ty6, po6, af6, none⟩, ⟨some 81, .extract (.tmp 74) 0, ty7, po7, af7, none⟩, ⟨some 82, .extract (.tmp 74) 1, ty8, po8, af8, none⟩, ⟨some 4, .alloc 24, ty9, po9, af9, none⟩, ⟨none, .store 24 (.tmp 4) (.tmp 81), ty10, po10, af10, none⟩, ⟨some 5, .assign (.tmp 82), ty11, po11, af11, none⟩] 5 0 = true)
    (hw5_4 : waits .any #[⟨some 75, .load 24 (.tmp 1), ty0, po0, af0, none⟩, ⟨some 76, .fieldAddr 24 (.tmp 1) 4, ty1, po1, af1, none⟩, ⟨some 77, .load 22 (.tmp 76), ty2, po2, af2, none⟩, ⟨some 78, .indexAddr 22 (.tmp 77) (.const (.int .i64 0)), ty3, po3, af3, none⟩, ⟨some 79, .load 35 (.tmp 78), ty4, po4, af4, none⟩, ⟨some 80, .call { callee := .value (.func 21), args := #[.tmp 75, .const (.int .i64 5), .tmp 79], argTypes := #[24, 3, 35] }, ty5, po5, af5, none⟩, ⟨some 74, .move (.tmp 80), ty6, po6, af6, none⟩, ⟨some 81, .extract (.tmp 74) 0, ty7, po7, af7, none⟩, ⟨some 82, .extract (.tmp 74) 1, ty8, po8, af8, none⟩, ⟨some 4, .alloc 24, ty9, po9, af9, none⟩, ⟨none, .store 24 (.tmp 4) (.tmp 81), ty10, po10, af10, none⟩, ⟨some 5, .assign (.tmp 82), ty11, po11, af11, none⟩] 5 4 = true)
    (hw6_5 : waits .any #[⟨some 75, .load 24 (.tmp 1), ty0, po0, af0, none⟩, ⟨some 76, .fieldAddr 24 (.tmp 1) 4, ty1, po1, af1, none⟩, ⟨some 77, .load 22 (.tmp 76), ty2, po2, af2, none⟩, ⟨some 78, .indexAddr 22 (.tmp 77) (.const (.int .i64 0)), ty3, po3, af3, none⟩, ⟨some 79, .load 35 (.tmp 78), ty4, po4, af4, none⟩, ⟨some 80, .call { callee := .value (.func 21), args := #[.tmp 75, .const (.int .i64 5), .tmp 79], argTypes := #[24, 3, 35] }, ty5, po5, af5, none⟩, ⟨some 74, .move (.tmp 80), ty6, po6, af6, none⟩, ⟨some 81, .extract (.tmp 74) 0, ty7, po7, af7, none⟩, ⟨some 82, .extract (.tmp 74) 1, ty8, po8, af8, none⟩, ⟨some 4, .alloc 24, ty9, po9, af9, none⟩, ⟨none, .store 24 (.tmp 4) (.tmp 81), ty10, po10, af10, none⟩, ⟨some 5, .assign (.tmp 82), ty11, po11, af11, none⟩] 6 5 = true)
    (hw7_6 : waits .any #[⟨some 75, .load 24 (.tmp 1), ty0, po0, af0, none⟩, ⟨some 76, .fieldAddr 24 (.tmp 1) 4, ty1, po1, af1, none⟩, ⟨some 77, .load 22 (.tmp 76), ty2, po2, af2, none⟩, ⟨some 78, .indexAddr 22 (.tmp 77) (.const (.int .i64 0)), ty3, po3, af3, none⟩, ⟨some 79, .load 35 (.tmp 78), ty4, po4, af4, none⟩, ⟨some 80, .call { callee := .value (.func 21), args := #[.tmp 75, .const (.int .i64 5), .tmp 79], argTypes := #[24, 3, 35] }, ty5, po5, af5, none⟩, ⟨some 74, .move (.tmp 80), ty6, po6, af6, none⟩, ⟨some 81, .extract (.tmp 74) 0, ty7, po7, af7, none⟩, ⟨some 82, .extract (.tmp 74) 1, ty8, po8, af8, none⟩, ⟨some 4, .alloc 24, ty9, po9, af9, none⟩, ⟨none, .store 24 (.tmp 4) (.tmp 81), ty10, po10, af10, none⟩, ⟨some 5, .assign (.tmp 82), ty11, po11, af11, none⟩] 7 6 = true)
    (hw8_6 : waits .any #[⟨some 75, .load 24 (.tmp 1), ty0, po0, af0, none⟩, ⟨some 76, .fieldAddr 24 (.tmp 1) 4, ty1, po1, af1, none⟩, ⟨some 77, .load 22 (.tmp 76), ty2, po2, af2, none⟩, ⟨some 78, .indexAddr 22 (.tmp 77) (.const (.int .i64 0)), ty3, po3, af3, none⟩, ⟨some 79, .load 35 (.tmp 78), ty4, po4, af4, none⟩, ⟨some 80, .call { callee := .value (.func 21), args := #[.tmp 75, .const (.int .i64 5), .tmp 79], argTypes := #[24, 3, 35] }, ty5, po5, af5, none⟩, ⟨some 74, .move (.tmp 80), ty6, po6, af6, none⟩, ⟨some 81, .extract (.tmp 74) 0, ty7, po7, af7, none⟩, ⟨some 82, .extract (.tmp 74) 1, ty8, po8, af8, none⟩, ⟨some 4, .alloc 24, ty9, po9, af9, none⟩, ⟨none, .store 24 (.tmp 4) (.tmp 81), ty10, po10, af10, none⟩, ⟨some 5, .assign (.tmp 82), ty11, po11, af11, none⟩] 8 6 = true)
    (hw10_0 : waits .any #[⟨some 75, .load 24 (.tmp 1), ty0, po0, af0, none⟩, ⟨some 76, .fieldAddr 24 (.tmp 1) 4, ty1, po1, af1, none⟩, ⟨some 77, .load 22 (.tmp 76), ty2, po2, af2, none⟩, ⟨some 78, .indexAddr 22 (.tmp 77) (.const (.int .i64 0)), ty3, po3, af3, none⟩, ⟨some 79, .load 35 (.tmp 78), ty4, po4, af4, none⟩, ⟨some 80, .call { callee := .value (.func 21), args := #[.tmp 75, .const (.int .i64 5), .tmp 79], argTypes := #[24, 3, 35] }, ty5, po5, af5, none⟩, ⟨some 74, .move (.tmp 80), ty6, po6, af6, none⟩, ⟨some 81, .extract (.tmp 74) 0, ty7, po7, af7, none⟩, ⟨some 82, .extract (.tmp 74) 1, ty8, po8, af8, none⟩, ⟨some 4, .alloc 24, ty9, po9, af9, none⟩, ⟨none, .store 24 (.tmp 4) (.tmp 81), ty10, po10, af10, none⟩, ⟨some 5, .assign (.tmp 82), ty11, po11, af11, none⟩] 10 0 = true)
    (hw10_1 : waits .any #[⟨some 75, .load 24 (.tmp 1), ty0, po0, af0, none⟩, ⟨some 76, .fieldAddr 24 (.tmp 1) 4, ty1, po1, af1, none⟩, ⟨some 77, .load 22 (.tmp 76), ty2, po2, af2, none⟩, ⟨some 78, .indexAddr 22 (.tmp 77) (.const (.int .i64 0)), ty3, po3, af3, none⟩, ⟨some 79, .load 35 (.tmp 78), ty4, po4, af4, none⟩, ⟨some 80, .call { callee := .value (.func 21), args := #[.tmp 75, .const (.int .i64 5), .tmp 79], argTypes := #[24, 3, 35] }, ty5, po5, af5, none⟩, ⟨some 74, .move (.tmp 80), ty6, po6, af6, none⟩, ⟨some 81, .extract (.tmp 74) 0, ty7, po7, af7, none⟩, ⟨some 82, .extract (.tmp 74) 1, ty8, po8, af8, none⟩, ⟨some 4, .alloc 24, ty9, po9, af9, none⟩, ⟨none, .store 24 (.tmp 4) (.tmp 81), ty10, po10, af10, none⟩, ⟨some 5, .assign (.tmp 82), ty11, po11, af11, none⟩] 10 1 = true)
    (hw10_2 : waits .any #[⟨some 75, .load 24 (.tmp 1), ty0, po0, af0, none⟩, ⟨some 76, .fieldAddr 24 (.tmp 1) 4, ty1, po1, af1, none⟩, ⟨some 77, .load 22 (.tmp 76), ty2, po2, af2, none⟩, ⟨some 78, .indexAddr 22 (.tmp 77) (.const (.int .i64 0)), ty3, po3, af3, none⟩, ⟨some 79, .load 35 (.tmp 78), ty4, po4, af4, none⟩, ⟨some 80, .call { callee := .value (.func 21), args := #[.tmp 75, .const (.int .i64 5), .tmp 79], argTypes := #[24, 3, 35] }, ty5, po5, af5, none⟩, ⟨some 74, .move (.tmp 80), ty6, po6, af6, none⟩, ⟨some 81, .extract (.tmp 74) 0, ty7, po7, af7, none⟩, ⟨some 82, .extract (.tmp 74) 1, ty8, po8, af8, none⟩, ⟨some 4, .alloc 24, ty9, po9, af9, none⟩, ⟨none, .store 24 (.tmp 4) (.tmp 81), ty10, po10, af10, none⟩, ⟨some 5, .assign (.tmp 82), ty11, po11, af11, none⟩] 10 2 = true)
    (hw10_3 : waits .any #[⟨some 75, .load 24 (.tmp 1), ty0, po0, af0, none⟩, ⟨some 76, .fieldAddr 24 (.tmp 1) 4, ty1, po1, af1, none⟩, ⟨some 77, .load 22 (.tmp 76), ty2, po2, af2, none⟩, ⟨some 78, .indexAddr 22 (.tmp 77) (.const (.int .i64 0)), ty3, po3, af3, none⟩, ⟨some 79, .load 35 (.tmp 78), ty4, po4, af4, none⟩, ⟨some 80, .call { callee := .value (.func 21), args := #[.tmp 75, .const (.int .i64 5), .tmp 79], argTypes := #[24, 3, 35] }, ty5, po5, af5, none⟩, ⟨some 74, .move (.tmp 80), ty6, po6, af6, none⟩, ⟨some 81, .extract (.tmp 74) 0, ty7, po7, af7, none⟩, ⟨some 82, .extract (.tmp 74) 1, ty8, po8, af8, none⟩, ⟨some 4, .alloc 24, ty9, po9, af9, none⟩, ⟨none, .store 24 (.tmp 4) (.tmp 81), ty10, po10, af10, none⟩, ⟨some 5, .assign (.tmp 82), ty11, po11, af11, none⟩] 10 3 = true)
    (hw10_4 : waits .any #[⟨some 75, .load 24 (.tmp 1), ty0, po0, af0, none⟩, ⟨some 76, .fieldAddr 24 (.tmp 1) 4, ty1, po1, af1, none⟩, ⟨some 77, .load 22 (.tmp 76), ty2, po2, af2, none⟩, ⟨some 78, .indexAddr 22 (.tmp 77) (.const (.int .i64 0)), ty3, po3, af3, none⟩, ⟨some 79, .load 35 (.tmp 78), ty4, po4, af4, none⟩, ⟨some 80, .call { callee := .value (.func 21), args := #[.tmp 75, .const (.int .i64 5), .tmp 79], argTypes := #[24, 3, 35] }, ty5, po5, af5, none⟩, ⟨some 74, .move (.tmp 80), ty6, po6, af6, none⟩, ⟨some 81, .extract (.tmp 74) 0, ty7, po7, af7, none⟩, ⟨some 82, .extract (.tmp 74) 1, ty8, po8, af8, none⟩, ⟨some 4, .alloc 24, ty9, po9, af9, none⟩, ⟨none, .store 24 (.tmp 4) (.tmp 81), ty10, po10, af10, none⟩, ⟨some 5, .assign (.tmp 82), ty11, po11, af11, none⟩] 10 4 = true)
    (hw10_5 : waits .any #[⟨some 75, .load 24 (.tmp 1), ty0, po0, af0, none⟩, ⟨some 76, .fieldAddr 24 (.tmp 1) 4, ty1, po1, af1, none⟩, ⟨some 77, .load 22 (.tmp 76), ty2, po2, af2, none⟩, ⟨some 78, .indexAddr 22 (.tmp 77) (.const (.int .i64 0)), ty3, po3, af3, none⟩, ⟨some 79, .load 35 (.tmp 78), ty4, po4, af4, none⟩, ⟨some 80, .call { callee := .value (.func 21), args := #[.tmp 75, .const (.int .i64 5), .tmp 79], argTypes := #[24, 3, 35] }, ty5, po5, af5, none⟩, ⟨some 74, .move (.tmp 80), ty6, po6, af6, none⟩, ⟨some 81, .extract (.tmp 74) 0, ty7, po7, af7, none⟩, ⟨some 82, .extract (.tmp 74) 1, ty8, po8, af8, none⟩, ⟨some 4, .alloc 24, ty9, po9, af9, none⟩, ⟨none, .store 24 (.tmp 4) (.tmp 81), ty10, po10, af10, none⟩, ⟨some 5, .assign (.tmp 82), ty11, po11, af11, none⟩] 10 5 = true)
    (hw10_6 : waits .any #[⟨some 75, .load 24 (.tmp 1), ty0, po0, af0, none⟩, ⟨some 76, .fieldAddr 24 (.tmp 1) 4, ty1, po1, af1, none⟩, ⟨some 77, .load 22 (.tmp 76), ty2, po2, af2, none⟩, ⟨some 78, .indexAddr 22 (.tmp 77) (.const (.int .i64 0)), ty3, po3, af3, none⟩, ⟨some 79, .load 35 (.tmp 78), ty4, po4, af4, none⟩, ⟨some 80, .call { callee := .value (.func 21), args := #[.tmp 75, .const (.int .i64 5), .tmp 79], argTypes := #[24, 3, 35] }, ty5, po5, af5, none⟩, ⟨some 74, .move (.tmp 80), ty6, po6, af6, none⟩, ⟨some 81, .extract (.tmp 74) 0, ty7, po7, af7, none⟩, ⟨some 82, .extract (.tmp 74) 1, ty8, po8, af8, none⟩, ⟨some 4, .alloc 24, ty9, po9, af9, none⟩, ⟨none, .store 24 (.tmp 4) (.tmp 81), ty10, po10, af10, none⟩, ⟨some 5, .assign (.tmp 82), ty11, po11, af11, none⟩] 10 6 = true)
    (hw10_7 : waits .any #[⟨some 75, .load 24 (.tmp 1), ty0, po0, af0, none⟩, ⟨some 76, .fieldAddr 24 (.tmp 1) 4, ty1, po1, af1, none⟩, ⟨some 77, .load 22 (.tmp 76), ty2, po2, af2, none⟩, ⟨some 78, .indexAddr 22 (.tmp 77) (.const (.int .i64 0)), ty3, po3, af3, none⟩, ⟨some 79, .load 35 (.tmp 78), ty4, po4, af4, none⟩, ⟨some 80, .call { callee := .value (.func 21), args := #[.tmp 75, .const (.int .i64 5), .tmp 79], argTypes := #[24, 3, 35] }, ty5, po5, af5, none⟩, ⟨some 74, .move (.tmp 80), ty6, po6, af6, none⟩, ⟨some 81, .extract (.tmp 74) 0, ty7, po7, af7, none⟩, ⟨some 82, .extract (.tmp 74) 1, ty8, po8, af8, none⟩, ⟨some 4, .alloc 24, ty9, po9, af9, none⟩, ⟨none, .store 24 (.tmp 4) (.tmp 81), ty10, po10, af10, none⟩, ⟨some 5, .assign (.tmp 82), ty11, po11, af11, none⟩] 10 7 = true)
    (hw10_9 : waits .any #[⟨some 75, .load 24 (.tmp 1), ty0, po0, af0, none⟩, ⟨some 76, .fieldAddr 24 (.tmp 1) 4, ty1, po1, af1, none⟩, ⟨some 77, .load 22 (.tmp 76), ty2, po2, af2, none⟩, ⟨some 78, .indexAddr 22 (.tmp 77) (.const (.int .i64 0)), ty3, po3, af3, none⟩, ⟨some 79, .load 35 (.tmp 78), ty4, po4, af4, none⟩, ⟨some 80, .call { callee := .value (.func 21), args := #[.tmp 75, .const (.int .i64 5), .tmp 79], argTypes := #[24, 3, 35] }, ty5, po5, af5, none⟩, ⟨some 74, .move (.tmp 80), ty6, po6, af6, none⟩, ⟨some 81, .extract (.tmp 74) 0, ty7, po7, af7, none⟩, ⟨some 82, .extract (.tmp 74) 1, ty8, po8, af8, none⟩, ⟨some 4, .alloc 24, ty9, po9, af9, none⟩, ⟨none, .store 24 (.tmp 4) (.tmp 81), ty10, po10, af10, none⟩, ⟨some 5, .assign (.tmp 82), ty11, po11, af11, none⟩] 10 9 = true)
    (hw11_8 : waits .any #[⟨some 75, .load 24 (.tmp 1), ty0, po0, af0, none⟩, ⟨some 76, .fieldAddr 24 (.tmp 1) 4, ty1, po1, af1, none⟩, ⟨some 77, .load 22 (.tmp 76), ty2, po2, af2, none⟩, ⟨some 78, .indexAddr 22 (.tmp 77) (.const (.int .i64 0)), ty3, po3, af3, none⟩, ⟨some 79, .load 35 (.tmp 78), ty4, po4, af4, none⟩, ⟨some 80, .call { callee := .value (.func 21), args := #[.tmp 75, .const (.int .i64 5), .tmp 79], argTypes := #[24, 3, 35] }, ty5, po5, af5, none⟩, ⟨some 74, .move (.tmp 80), ty6, po6, af6, none⟩, ⟨some 81, .extract (.tmp 74) 0, ty7, po7, af7, none⟩, ⟨some 82, .extract (.tmp 74) 1, ty8, po8, af8, none⟩, ⟨some 4, .alloc 24, ty9, po9, af9, none⟩, ⟨none, .store 24 (.tmp 4) (.tmp 81), ty10, po10, af10, none⟩, ⟨some 5, .assign (.tmp 82), ty11, po11, af11, none⟩] 11 8 = true)
    (hw11_10 : waits .any #[⟨some 75, .load 24 (.tmp 1), ty0, po0, af0, none⟩, ⟨some 76, .fieldAddr 24 (.tmp 1) 4, ty1, po1, af1, none⟩, ⟨some 77, .load 22 (.tmp 76), ty2, po2, af2, none⟩, ⟨some 78, .indexAddr 22 (.tmp 77) (.const (.int .i64 0)), ty3, po3, af3, none⟩, ⟨some 79, .load 35 (.tmp 78), ty4, po4, af4, none⟩, ⟨some 80, .call { callee := .value (.func 21), args := #[.tmp 75, .const (.int .i64 5), .tmp 79], argTypes := #[24, 3, 35] }, ty5, po5, af5, none⟩, ⟨some 74, .move (.tmp 80), ty6, po6, af6, none⟩, ⟨some 81, .extract (.tmp 74) 0, ty7, po7, af7, none⟩, ⟨some 82, .extract (.tmp 74) 1, ty8, po8, af8, none⟩, ⟨some 4, .alloc 24, ty9, po9, af9, none⟩, ⟨none, .store 24 (.tmp 4) (.tmp 81), ty10, po10, af10, none⟩, ⟨some 5, .assign (.tmp 82), ty11, po11, af11, none⟩] 11 10 = true)
    (hfw : forwardB .any #[⟨some 75, .load 24 (.tmp 1), ty0, po0, af0, none⟩, ⟨some 76, .fieldAddr 24 (.tmp 1) 4, ty1, po1, af1, none⟩, ⟨some 77, .load 22 (.tmp 76), ty2, po2, af2, none⟩, ⟨some 78, .indexAddr 22 (.tmp 77) (.const (.int .i64 0)), ty3, po3, af3, none⟩, ⟨some 79, .load 35 (.tmp 78), ty4, po4, af4, none⟩, ⟨some 80, .call { callee := .value (.func 21), args := #[.tmp 75, .const (.int .i64 5), .tmp 79], argTypes := #[24, 3, 35] }, ty5, po5, af5, none⟩, ⟨some 74, .move (.tmp 80), ty6, po6, af6, none⟩, ⟨some 81, .extract (.tmp 74) 0, ty7, po7, af7, none⟩, ⟨some 82, .extract (.tmp 74) 1, ty8, po8, af8, none⟩, ⟨some 4, .alloc 24, ty9, po9, af9, none⟩, ⟨none, .store 24 (.tmp 4) (.tmp 81), ty10, po10, af10, none⟩, ⟨some 5, .assign (.tmp 82), ty11, po11, af11, none⟩] = true)
    (hQ : ∀ (xs : Nat → Value) (W : World) (Z : World), Below A.heap.size A W → ((xs 5) = .int .i64 2) → (∃ (g : Nat) (e : Value), A.heap.size ≤ g ∧ Z = putR W g rec0.id rec0.ver rec0.kind rec0.lang e) → Q .normal ⟨#[v0, .pointer (some ⟨n1, 0, none⟩), v2, v3, xs 4, xs 5, v6, v7, v8, v9, v10, v11, v12, v13, v14, v15, v16, v17, v18, v19, v20, v21, v22, v23, v24, v25, v26, v27, v28, v29, v30, v31, v32, v33, v34, v35, v36, v37, v38, v39, v40, v41, v42, v43, v44, v45, v46, v47, v48, v49, v50, v51, v52, v53, v54, v55, v56, v57, v58, v59, v60, v61, v62, v63, v64, v65, v66, v67, v68, v69, v70, v71, v72, v73, xs 74, xs 75, xs 76, xs 77, xs 78, xs 79, xs 80, xs 81, xs 82, v83, v84, v85, v86, v87, v88, v89, v90, v91, v92, v93], []⟩ Z)
    : Code.wp Tryz.prog (.region id #[⟨some 75, .load 24 (.tmp 1), ty0, po0, af0, none⟩, ⟨some 76, .fieldAddr 24 (.tmp 1) 4, ty1, po1, af1, none⟩, ⟨some 77, .load 22 (.tmp 76), ty2, po2, af2, none⟩, ⟨some 78, .indexAddr 22 (.tmp 77) (.const (.int .i64 0)), ty3, po3, af3, none⟩, ⟨some 79, .load 35 (.tmp 78), ty4, po4, af4, none⟩, ⟨some 80, .call { callee := .value (.func 21), args := #[.tmp 75, .const (.int .i64 5), .tmp 79], argTypes := #[24, 3, 35] }, ty5, po5, af5, none⟩, ⟨some 74, .move (.tmp 80), ty6, po6, af6, none⟩, ⟨some 81, .extract (.tmp 74) 0, ty7, po7, af7, none⟩, ⟨some 82, .extract (.tmp 74) 1, ty8, po8, af8, none⟩, ⟨some 4, .alloc 24, ty9, po9, af9, none⟩, ⟨none, .store 24 (.tmp 4) (.tmp 81), ty10, po10, af10, none⟩, ⟨some 5, .assign (.tmp 82), ty11, po11, af11, none⟩] true) Q ⟨#[v0, .pointer (some ⟨n1, 0, none⟩), v2, v3, u4, u5, v6, v7, v8, v9, v10, v11, v12, v13, v14, v15, v16, v17, v18, v19, v20, v21, v22, v23, v24, v25, v26, v27, v28, v29, v30, v31, v32, v33, v34, v35, v36, v37, v38, v39, v40, v41, v42, v43, v44, v45, v46, v47, v48, v49, v50, v51, v52, v53, v54, v55, v56, v57, v58, v59, v60, v61, v62, v63, v64, v65, v66, v67, v68, v69, v70, v71, v72, v73, u74, u75, u76, u77, u78, u79, u80, u81, u82, v83, v84, v85, v86, v87, v88, v89, v90, v91, v92, v93], []⟩ A := by
  refine wp_region_inv (by kernel_rfl) (fun listed x Z => ∃ (xs : Nat → Value) (W : World), x = ⟨#[v0, .pointer (some ⟨n1, 0, none⟩), v2, v3, xs 4, xs 5, v6, v7, v8, v9, v10, v11, v12, v13, v14, v15, v16, v17, v18, v19, v20, v21, v22, v23, v24, v25, v26, v27, v28, v29, v30, v31, v32, v33, v34, v35, v36, v37, v38, v39, v40, v41, v42, v43, v44, v45, v46, v47, v48, v49, v50, v51, v52, v53, v54, v55, v56, v57, v58, v59, v60, v61, v62, v63, v64, v65, v66, v67, v68, v69, v70, v71, v72, v73, xs 74, xs 75, xs 76, xs 77, xs 78, xs 79, xs 80, xs 81, xs 82, v83, v84, v85, v86, v87, v88, v89, v90, v91, v92, v93], []⟩ ∧ alj_regionI n1 rid ver kind lang n rc pb po T I sa sn sc au A W listed xs ∧ (listed.getD 10 true = false → Z = W) ∧ (listed.getD 10 true = true → ∃ (g : Nat) (e : Value), A.heap.size ≤ g ∧ Z = putR W g rec0.id rec0.ver rec0.kind rec0.lang e)) ?start ?step ?done
  case start =>
    have no : ∀ m, m < 12 → (Array.replicate 12 false).getD m true = false := fun m hm => by simp [Array.getD, hm]
    exact ⟨fun k => if k = 4 then u4 else if k = 5 then u5 else if k = 74 then u74 else if k = 75 then u75 else if k = 76 then u76 else if k = 77 then u77 else if k = 78 then u78 else if k = 79 then u79 else if k = 80 then u80 else if k = 81 then u81 else if k = 82 then u82 else undef, A.drew, rfl, ⟨(Below.refl _ _).drew, fun h => Bool.noConfusion ((no 2 (by decide)).symm.trans h), fun h => Bool.noConfusion ((no 3 (by decide)).symm.trans h), fun h => Bool.noConfusion ((no 4 (by decide)).symm.trans h), fun h => Bool.noConfusion ((no 5 (by decide)).symm.trans h), fun h => Bool.noConfusion ((no 6 (by decide)).symm.trans h), fun h => Bool.noConfusion ((no 7 (by decide)).symm.trans h), fun h => Bool.noConfusion ((no 8 (by decide)).symm.trans h), fun h => Bool.noConfusion ((no 10 (by decide)).symm.trans h), fun h => Bool.noConfusion ((no 11 (by decide)).symm.trans h), fun h => Bool.noConfusion ((no 0 (by decide)).symm.trans h), fun h => Bool.noConfusion ((no 1 (by decide)).symm.trans h), fun h => Bool.noConfusion ((no 2 (by decide)).symm.trans h), fun h => Bool.noConfusion ((no 3 (by decide)).symm.trans h), fun h => Bool.noConfusion ((no 4 (by decide)).symm.trans h), fun h => Bool.noConfusion ((no 5 (by decide)).symm.trans h), fun h => Bool.noConfusion ((no 6 (by decide)).symm.trans h), fun h => Bool.noConfusion ((no 7 (by decide)).symm.trans h), fun h => Bool.noConfusion ((no 8 (by decide)).symm.trans h), fun h => Bool.noConfusion ((no 9 (by decide)).symm.trans h), fun h => Bool.noConfusion ((no 11 (by decide)).symm.trans h)⟩, fun _ => rfl, fun h => Bool.noConfusion ((no 10 (by decide)).symm.trans h)⟩
  case done =>
    rintro listed x Z hs ⟨xs, W, rfl, R1, -, hE⟩ h0
    have hall := all_listedB hfw hs h0
    exact hQ xs W Z R1.bel (R1.f11 (hall 11)) (hE (hall 10))
  case step =>
    rintro listed x Z i hs ⟨xs, W, rfl, R1, hZ0, hZ1⟩ hi
    have hin : i < 12 := by
      obtain ⟨-, o, ho, -⟩ := mem_ready.1 hi
      exact (Array.getElem?_eq_some_iff.1 ho).1
    have hno := (mem_ready.1 hi).1
    have bel := R1.bel
    have hnW := (bel.block n1 (Array.getElem?_eq_some_iff.1 hn1).1).trans hn1
    have g0 := Lib.cell_of_heap hnW 0
    have g1 := Lib.cell_of_heap hnW 1
    have g2 := Lib.cell_of_heap hnW 2
    have g3 := Lib.cell_of_heap hnW 3
    have g4 := Lib.cell_of_heap hnW 4
    have k0 := (bel.cell (p := ⟨pb, po, none⟩) (lt_cell c0)).trans c0
    have k1 := (bel.cell (p := ⟨pb, po + 1, none⟩) (lt_cell c1)).trans c1
    have k2 := (bel.cell (p := ⟨pb, po + 2, none⟩) (lt_cell c2)).trans c2
    have k3 := (bel.cell (p := ⟨pb, po + 3, none⟩) (lt_cell c3)).trans c3
    have HII := hii
    have RR := Lib.hid R1
    have HNO := Lib.hid hno
    have BEL := Lib.hid bel
    have HZ0 := Lib.hid hZ0
    have HZ1 := Lib.hid hZ1
    clear R1 hQ hfw bel hno hn1 hnW hii c0 c1 c2 c3 hZ0 hZ1
    have hcases : i = 0 ∨ i = 1 ∨ i = 2 ∨ i = 3 ∨ i = 4 ∨ i = 5 ∨ i = 6 ∨ i = 7 ∨ i = 8 ∨ i = 9 ∨ i = 10 ∨ i = 11 := by omega
    rcases hcases with rfl | rfl | rfl | rfl | rfl | rfl | rfl | rfl | rfl | rfl | rfl | rfl
    · have hs0 : listed.getD 10 true = false := by
        cases hs0 : listed.getD 10 true with
        | false => rfl
        | true =>
          have h := RR.out
          exact absurd (h.o10 hs0).1 (by rw [HNO.out]; decide)
      have hZW := (HZ0.out hs0).symm
      subst hZW
      clear hi hw2_1 hw3_2 hw4_3 hw5_0 hw5_4 hw6_5 hw7_6 hw8_6 hw10_0 hw10_1 hw10_2 hw10_3 hw10_4 hw10_5 hw10_6 hw10_7 hw10_9 hw11_8 hw11_10
      refine wpOp_step rfl (fun K hK => ?_)
      go_simp
      exact hK _ _ ⟨fun k => if k = 75 then .agg #[.int .i64 rid, .int .i64 ver, .int .i64 kind, .string lang, .slice (some ⟨pb, po, none⟩) n rc] else xs k, _, by simp, RR.out.s0 HNO.out   (rfl) , fun _ => rfl, fun h => absurd (((set_listed h).resolve_left (by decide))) (by rw [hs0]; decide)⟩
    · clear hi hw2_1 hw3_2 hw4_3 hw5_0 hw5_4 hw6_5 hw7_6 hw8_6 hw10_0 hw10_1 hw10_2 hw10_3 hw10_4 hw10_5 hw10_6 hw10_7 hw10_9 hw11_8 hw11_10
      refine wpOp_step rfl (fun K hK => ?_)
      go_simp
      exact hK _ _ ⟨fun k => if k = 76 then .pointer (some ⟨n1, 4, none⟩) else xs k, _, by simp, RR.out.s1 HNO.out   (rfl) , fun h => HZ0.out (set_false h), fun h => HZ1.out ((set_listed h).resolve_left (by decide))⟩
    · have l1 := waited hi hw2_1
      have hs0 : listed.getD 10 true = false := by
        cases hs0 : listed.getD 10 true with
        | false => rfl
        | true =>
          have h := RR.out
          exact absurd (h.o10 hs0).2.2.1 (by rw [HNO.out]; decide)
      have hZW := (HZ0.out hs0).symm
      subst hZW
      have e76 := RR.out.f1 l1
      clear hi hw2_1 hw3_2 hw4_3 hw5_0 hw5_4 hw6_5 hw7_6 hw8_6 hw10_0 hw10_1 hw10_2 hw10_3 hw10_4 hw10_5 hw10_6 hw10_7 hw10_9 hw11_8 hw11_10
      refine wpOp_step rfl (fun K hK => ?_)
      simp only [e76]
      go_simp
      exact hK _ _ ⟨fun k => if k = 77 then .slice (some ⟨pb, po, none⟩) n rc else xs k, _, by simp [e76], RR.out.s2 HNO.out l1  (rfl) , fun _ => rfl, fun h => absurd (((set_listed h).resolve_left (by decide))) (by rw [hs0]; decide)⟩
    · have l2 := waited hi hw3_2
      have e77 := RR.out.f2 l2
      clear hi hw2_1 hw3_2 hw4_3 hw5_0 hw5_4 hw6_5 hw7_6 hw8_6 hw10_0 hw10_1 hw10_2 hw10_3 hw10_4 hw10_5 hw10_6 hw10_7 hw10_9 hw11_8 hw11_10
      refine wpOp_step rfl (fun K hK => ?_)
      simp only [e77]
      go_simp
      exact hK _ _ ⟨fun k => if k = 78 then .pointer (some ⟨pb, po, none⟩) else xs k, _, by simp [e77], RR.out.s3 HNO.out l2  (rfl) , fun h => HZ0.out (set_false h), fun h => HZ1.out ((set_listed h).resolve_left (by decide))⟩
    · have l3 := waited hi hw4_3
      have hs0 : listed.getD 10 true = false := by
        cases hs0 : listed.getD 10 true with
        | false => rfl
        | true =>
          have h := RR.out
          exact absurd (h.o10 hs0).2.2.2.2.1 (by rw [HNO.out]; decide)
      have hZW := (HZ0.out hs0).symm
      subst hZW
      have e78 := RR.out.f3 l3
      clear hi hw2_1 hw3_2 hw4_3 hw5_0 hw5_4 hw6_5 hw7_6 hw8_6 hw10_0 hw10_1 hw10_2 hw10_3 hw10_4 hw10_5 hw10_6 hw10_7 hw10_9 hw11_8 hw11_10
      refine wpOp_step rfl (fun K hK => ?_)
      simp only [e78]
      go_simp
      exact hK _ _ ⟨fun k => if k = 79 then .agg #[.string T, .string I, .slice sa sn sc, .int .i64 au] else xs k, _, by simp [e78], RR.out.s4 HNO.out l3  (rfl) , fun _ => rfl, fun h => absurd (((set_listed h).resolve_left (by decide))) (by rw [hs0]; decide)⟩
    · have l0 := waited hi hw5_0
      have l4 := waited hi hw5_4
      have hs0 : listed.getD 10 true = false := by
        cases hs0 : listed.getD 10 true with
        | false => rfl
        | true =>
          have h := RR.out
          exact absurd (h.o10 hs0).2.2.2.2.2.1 (by rw [HNO.out]; decide)
      have hZW := (HZ0.out hs0).symm
      subst hZW
      have e75 := RR.out.f0 l0
      have e79 := RR.out.f4 l4
      clear hi hw2_1 hw3_2 hw4_3 hw5_0 hw5_4 hw6_5 hw7_6 hw8_6 hw10_0 hw10_1 hw10_2 hw10_3 hw10_4 hw10_5 hw10_6 hw10_7 hw10_9 hw11_8 hw11_10
      refine wpOp_step rfl (fun K hK => ?_)
      simp only [e75, e79]
      go_simp
      refine (HII.out W BEL.out).mono ?_
      rintro e w'' ⟨a, c, rfl, hs, bb⟩
      exact hK _ _ ⟨fun k => if k = 80 then .tuple #[recV5 ⟨rec0, a, c⟩, .int .i64 2] else xs k, _, by simp [e75, e79], (RR.out.world (bb)).s5 HNO.out l0 l4  (⟨a, c, rfl⟩) , fun _ => rfl, fun h => absurd (((set_listed h).resolve_left (by decide))) (by rw [hs0]; decide)⟩
    · have l5 := waited hi hw6_5
      obtain ⟨a, c, e80⟩ := RR.out.f5 l5
      clear hi hw2_1 hw3_2 hw4_3 hw5_0 hw5_4 hw6_5 hw7_6 hw8_6 hw10_0 hw10_1 hw10_2 hw10_3 hw10_4 hw10_5 hw10_6 hw10_7 hw10_9 hw11_8 hw11_10
      refine wpOp_step rfl (fun K hK => ?_)
      simp only [e80]
      go_simp
      exact hK _ _ ⟨fun k => if k = 74 then .tuple #[recV5 ⟨rec0, a, c⟩, .int .i64 2] else xs k, _, by simp [e80], RR.out.s6 HNO.out l5  (⟨a, c, rfl⟩) , fun h => HZ0.out (set_false h), fun h => HZ1.out ((set_listed h).resolve_left (by decide))⟩
    · have l6 := waited hi hw7_6
      obtain ⟨a, c, e74⟩ := RR.out.f6 l6
      clear hi hw2_1 hw3_2 hw4_3 hw5_0 hw5_4 hw6_5 hw7_6 hw8_6 hw10_0 hw10_1 hw10_2 hw10_3 hw10_4 hw10_5 hw10_6 hw10_7 hw10_9 hw11_8 hw11_10
      refine wpOp_step rfl (fun K hK => ?_)
      simp only [e74]
      go_simp
      exact hK _ _ ⟨fun k => if k = 81 then recV5 ⟨rec0, a, c⟩ else xs k, _, by simp [e74], RR.out.s7 HNO.out l6  (⟨a, c, rfl⟩) , fun h => HZ0.out (set_false h), fun h => HZ1.out ((set_listed h).resolve_left (by decide))⟩
    · have l6 := waited hi hw8_6
      obtain ⟨a, c, e74⟩ := RR.out.f6 l6
      clear hi hw2_1 hw3_2 hw4_3 hw5_0 hw5_4 hw6_5 hw7_6 hw8_6 hw10_0 hw10_1 hw10_2 hw10_3 hw10_4 hw10_5 hw10_6 hw10_7 hw10_9 hw11_8 hw11_10
      refine wpOp_step rfl (fun K hK => ?_)
      simp only [e74]
      go_simp
      exact hK _ _ ⟨fun k => if k = 82 then .int .i64 2 else xs k, _, by simp [e74], RR.out.s8 HNO.out l6  (rfl) , fun h => HZ0.out (set_false h), fun h => HZ1.out ((set_listed h).resolve_left (by decide))⟩
    · have hs0 : listed.getD 10 true = false := by
        cases hs0 : listed.getD 10 true with
        | false => rfl
        | true =>
          have h := RR.out
          exact absurd (h.o10 hs0).2.2.2.2.2.2.2.2 (by rw [HNO.out]; decide)
      have hZW := (HZ0.out hs0).symm
      subst hZW
      clear hi hw2_1 hw3_2 hw4_3 hw5_0 hw5_4 hw6_5 hw7_6 hw8_6 hw10_0 hw10_1 hw10_2 hw10_3 hw10_4 hw10_5 hw10_6 hw10_7 hw10_9 hw11_8 hw11_10
      refine wpOp_step rfl (fun K hK => ?_)
      go_simp
      exact hK _ _ ⟨fun k => if k = 4 then .pointer (some ⟨W.heap.size, 0, none⟩) else xs k, _, by simp, (RR.out.world ((Below.refl _ _).alloc (Nat.le_refl _) _)).s9 HNO.out   (⟨_, rfl, alloc_at rfl, BEL.out.size⟩) , fun _ => rfl, fun h => absurd (((set_listed h).resolve_left (by decide))) (by rw [hs0]; decide)⟩
    · have l0 := waited hi hw10_0
      have l1 := waited hi hw10_1
      have l2 := waited hi hw10_2
      have l3 := waited hi hw10_3
      have l4 := waited hi hw10_4
      have l5 := waited hi hw10_5
      have l6 := waited hi hw10_6
      have l7 := waited hi hw10_7
      have l9 := waited hi hw10_9
      have hZW := (HZ0.out HNO.out).symm
      subst hZW
      obtain ⟨g, e4, hg, hA⟩ := RR.out.f9 l9
      obtain ⟨a, c, e81⟩ := RR.out.f7 l7
      unfold recV5 at e81
      simp only at e81
      have q0 := Lib.cell_of_heap hg 0
      have q1 := Lib.cell_of_heap hg 1
      have q2 := Lib.cell_of_heap hg 2
      have q3 := Lib.cell_of_heap hg 3
      have q4 := Lib.cell_of_heap hg 4
      have z0 := Lib.frozen_of_heap hg 0
      have z1 := Lib.frozen_of_heap hg 1
      have z2 := Lib.frozen_of_heap hg 2
      have z3 := Lib.frozen_of_heap hg 3
      have z4 := Lib.frozen_of_heap hg 4
      have HG := Lib.hid hg
      clear hg
      clear hi hw2_1 hw3_2 hw4_3 hw5_0 hw5_4 hw6_5 hw7_6 hw8_6 hw10_0 hw10_1 hw10_2 hw10_3 hw10_4 hw10_5 hw10_6 hw10_7 hw10_9 hw11_8 hw11_10
      refine wpOp_step rfl (fun K hK => ?_)
      simp only [e4, e81]
      go_simp
      exact hK _ _ ⟨xs, _, by simp [e4, e81], RR.out.s10 HNO.out l0 l1 l2 l3 l4 l5 l6 l7 l9   , fun h => absurd (listed_self' 10) (by rw [h]; decide), fun _ => ⟨g, .slice a rec0.fields.length c, hA, rfl⟩⟩
    · have l8 := waited hi hw11_8
      have l10 := waited hi hw11_10
      have e82 := RR.out.f8 l8
      clear hi hw2_1 hw3_2 hw4_3 hw5_0 hw5_4 hw6_5 hw7_6 hw8_6 hw10_0 hw10_1 hw10_2 hw10_3 hw10_4 hw10_5 hw10_6 hw10_7 hw10_9 hw11_8 hw11_10
      refine wpOp_step rfl (fun K hK => ?_)
      simp only [e82]
      go_simp
      exact hK _ _ ⟨fun k => if k = 5 then .int .i64 2 else xs k, _, by simp [e82], RR.out.s11 HNO.out l8 l10  (rfl) , fun h => HZ0.out (set_false h), fun h => HZ1.out ((set_listed h).resolve_left (by decide))⟩
end Go.Proofs.YtkfjeolpbopcnaaGreatDoor
namespace Go.Proofs.YtkfjeolpbopcnaaGreatDoor
open Go Go.RowKit

def exS (a b c d : Option Addr) : List Fld :=
  [⟨[49, 48, 48], [49, 32], [(97, sAnn)], 0, b, 1⟩, ⟨[50, 52, 53], [49, 48], [(97, sDogsC), (98, sGuide)], 0, a, 2⟩, ⟨[50, 54, 52], [32, 49], [(97, sLondon), (99, sYears)], 0, c, 2⟩, ⟨[54, 53, 48], [32, 48], [(97, sDogs), (120, sHist)], 0, d, 2⟩]
theorem ex_sort (a b c d : Option Addr) : sortR (exL a b c d) = exS a b c d := by kernel_rfl
theorem ex_subs2 (a b c d : Option Addr) : ∀ f ∈ exL a b c d, f.subs.length ≤ 1000000 := fun f hf => by have := (ex_each a b c d f hf).1; omega
abbrev sHead : ByteArray := ⟨#[68, 111, 103, 115, 45, 45, 72, 105, 115, 116, 111, 114, 121]⟩

set_option maxRecDepth 100000 in
set_option maxHeartbeats 8000000 in
theorem lAlive (w : World) (hE : Env w) :
    Calls Tryz.prog 11 #[] w fun e w' => e = .returned (.bool true) ∧ Below w.heap.size w w' := by
  have HE := Lib.hid hE
  have HEX := Lib.hid (lExample w)
  clear hE
  go_enter Tryz.func11, Tryz.ntmps11
  go_wp2_with fail
  refine HEX.out.mono ?_
  rintro e w1 ⟨a, b, c, d, va, vc, rfl, hr, b1⟩
  obtain ⟨X, hX⟩ : ∃ X : Rcd, X = ⟨exR a b c d, va, vc⟩ := ⟨_, rfl⟩
  rw [← hX] at hr
  have hb0 : Below w.heap.size w (w1.alloc (recO 1 3 1 ⟨#[101, 110, 103]⟩ va 4 vc)) := b1.alloc b1.size _
  have hr1 : RcdAt (w1.alloc (recO 1 3 1 ⟨#[101, 110, 103]⟩ va 4 vc)) X := hr.below ((Below.refl _ _).alloc (Nat.le_refl _) _) (Nat.le_refl _)
  have hn1 : (w1.alloc (recO 1 3 1 ⟨#[101, 110, 103]⟩ va 4 vc)).heap[w1.heap.size]? = some (recO 1 3 1 ⟨#[101, 110, 103]⟩ va 4 vc) := alloc_at rfl
  obtain ⟨A, hA⟩ : ∃ A, A = w1.alloc (recO 1 3 1 ⟨#[101, 110, 103]⟩ va 4 vc) := ⟨_, rfl⟩
  have hsz : A.heap.size = w1.heap.size + 1 := by rw [hA]; simp
  rw [← hA] at hb0 hr1 hn1
  obtain ⟨n1, hn1e⟩ : ∃ n, n = w1.heap.size := ⟨_, rfl⟩
  rw [← hn1e] at hn1 hsz
  have hxr : X.r = exR a b c d := by rw [hX]
  have hxf : X.r.fields = exL a b c d := by rw [hX]; rfl
  have hxl : X.r.fields.length ≤ 900 := by rw [hxf]; exact Nat.le_of_ble_eq_true (by kernel_rfl)
  have hxv : recV5 X = .agg #[.int .i64 1, .int .i64 3, .int .i64 1, .string ⟨#[101, 110, 103]⟩, .slice va 4 vc] := by rw [hX]; rfl
  have HXV := Lib.hid hxv
  have HRC : Hid (∀ W, Below A.heap.size A W → RcdAt W X) := Lib.hid (fun W h => hr1.below h (Nat.le_refl _))
  have HEW : Hid (∀ W, Below A.heap.size A W → Env W) := Lib.hid (fun W h => (HE.out.below hb0).below h)
  have HSU : Hid (∀ W, Below A.heap.size A W → Calls Tryz.prog 34 #[.agg #[.int .i64 1, .int .i64 3, .int .i64 1, .string ⟨#[101, 110, 103]⟩, .slice va 4 vc]] W (RetStrs W [sHead])) := Lib.hid (fun W h => by
    have := pSubjects X W (HRC.out W h) hxl (by rw [hxf]; exact fun f hf => (ex_each a b c d f hf).1) (by rw [hxf]; exact fun f hf => (ex_each a b c d f hf).2.2.2)
    rwa [hxv, hxf, ex_subjects] at this)
  have HSO : Hid (∀ W, Below A.heap.size A W → Calls Tryz.prog 25 #[.agg #[.int .i64 1, .int .i64 3, .int .i64 1, .string ⟨#[101, 110, 103]⟩, .slice va 4 vc]] W (RetR1 W ⟨1, 3, 1, ⟨#[101, 110, 103]⟩, exS a b c d⟩)) := Lib.hid (fun W h => by
    have := pSorted X W (HEW.out W h) (HRC.out W h) hxl
    rw [hxv, hxr] at this
    unfold withL exR at this
    simp only at this
    rwa [ex_sort] at this)
  have HRI : Hid (∀ W, Below A.heap.size A W → Calls Tryz.prog 12 #[.agg #[.int .i64 1, .int .i64 3, .int .i64 1, .string ⟨#[101, 110, 103]⟩, .slice va 4 vc]] W fun e w' => e = .returned (.int .i64 0) ∧ Below W.heap.size W w') := Lib.hid (fun W h => by
    have := pRecRight X.r X.sa X.r.fields.length X.sc W (HEW.out W h) (HRC.out W h) (by rw [hxr]; exact ex_small a b c d)
    rw [hX] at this
    simp only at this
    rwa [ex_right] at this)
  have HTI : Hid (∀ W, Below A.heap.size A W → Calls Tryz.prog 27 #[.agg #[.int .i64 1, .int .i64 3, .int .i64 1, .string ⟨#[101, 110, 103]⟩, .slice va 4 vc]] W fun e w' => e = .returned (.string ⟨#[68, 111, 103, 115, 32, 58, 32, 97, 32, 103, 117, 105, 100, 101]⟩) ∧ Below W.heap.size W w') := Lib.hid (fun W h => by
    have := pTitle X _ W (HRC.out W h) hxl (by rw [hxf]; exact ex_title a b c d)
    rwa [hxv] at this)
  have HAU : Hid (∀ W, Below A.heap.size A W → Calls Tryz.prog 29 #[.agg #[.int .i64 1, .int .i64 3, .int .i64 1, .string ⟨#[101, 110, 103]⟩, .slice va 4 vc]] W fun e w' => e = .returned (.string ⟨#[83, 109, 105, 116, 104, 44, 32, 65, 110, 110]⟩) ∧ Below W.heap.size W w') := Lib.hid (fun W h => by
    have := pAuthor X W (HRC.out W h) hxl (by rw [hxf]; exact fun f hf => (ex_each a b c d f hf).1)
    rwa [hxv, hxf, ex_author] at this)
  have HYE : Hid (∀ W, Below A.heap.size A W → Calls Tryz.prog 31 #[.agg #[.int .i64 1, .int .i64 3, .int .i64 1, .string ⟨#[101, 110, 103]⟩, .slice va 4 vc]] W fun e w' => e = .returned (.int .i64 1998) ∧ Below W.heap.size W w') := Lib.hid (fun W h => by
    have := pYear X W (HRC.out W h) hxl (by rw [hxf]; exact fun f hf => (ex_each a b c d f hf).1) (by rw [hxf]; exact fun f hf => (ex_each a b c d f hf).2.1)
    rwa [hxv, hxf, ex_year] at this)
  have HFI : Hid (∀ W, Below A.heap.size A W → Calls Tryz.prog 18 #[.agg #[.int .i64 1, .int .i64 3, .int .i64 1, .string ⟨#[101, 110, 103]⟩, .slice va 4 vc], .string ⟨#[50]⟩] W fun e w' => ∃ (x : Option Addr) (y : Nat), e = .returned (.slice x 2 y) ∧ Below W.heap.size W w') := Lib.hid (fun W h => by
    have := pFields X ⟨#[50]⟩ W (HRC.out W h) hxl
    rw [hxv, hxf] at this
    refine this.mono ?_
    rintro e w' ⟨v, rfl, ⟨⟨x, y, rfl, -⟩, -⟩, hb⟩
    rw [show (⟨#[50]⟩ : ByteArray).data.toList = [50] from rfl, ex_begins]
    exact ⟨x, y, rfl, hb⟩)
  have HSA : Hid (∀ W, Below A.heap.size A W → Calls Tryz.prog 14 #[.agg #[.int .i64 1, .int .i64 3, .int .i64 1, .string ⟨#[101, 110, 103]⟩, .slice va 4 vc], .agg #[.int .i64 1, .int .i64 3, .int .i64 1, .string ⟨#[101, 110, 103]⟩, .slice va 4 vc]] W fun e w' => e = .returned (.bool true) ∧ Below W.heap.size W w') := Lib.hid (fun W h => by
    have := pSameRec X.r X.r X.sa X.sa X.r.fields.length X.sc X.r.fields.length X.sc W (HRC.out W h) (HRC.out W h) (by omega) (by rw [hxf]; exact ex_subs2 a b c d)
    rw [sameRB_refl, hX] at this
    exact this)
  have HIN : Hid (∀ (f : Fld) W, f ∈ exL a b c d → Below A.heap.size A W → Calls Tryz.prog 21 #[.agg #[.int .i64 1, .int .i64 3, .int .i64 1, .string ⟨#[101, 110, 103]⟩, .slice va 4 vc], .int .i64 5, fldV f] W (RetR W (rec0, 2))) := Lib.hid (fun f W hf h => by
    obtain ⟨e1, e2, e3, -⟩ := ex_each a b c d f hf
    have := pInsert X 5 f W (HEW.out W h) (HRC.out W h) ((HRC.out W h).2 f (by rw [hxf]; exact hf)) ⟨by omega, e2, e3⟩ hxl
    rwa [hxv, hxr, ex_insert] at this)
  have HRE : Hid (∀ W, Below A.heap.size A W → Calls Tryz.prog 23 #[.agg #[.int .i64 1, .int .i64 3, .int .i64 1, .string ⟨#[101, 110, 103]⟩, .slice va 4 vc], .int .i64 4] W (RetR W (rec0, 2))) := Lib.hid (fun W h => by
    have := pRemove X 4 W (HRC.out W h) hxl (by decide)
    rwa [hxv, hxr, ex_remove] at this)
  have HB0 := Lib.hid hb0
  have HN1 := Lib.hid hn1
  have HSZ := Lib.hid hsz
  have HA := Lib.hid hA
  have HXF := Lib.hid hxf
  clear hr b1 hr1 hb0 hn1 hsz hxr hxl hxv HEX
  rw [show recV5 ⟨exR a b c d, va, vc⟩ = .agg #[.int .i64 1, .int .i64 3, .int .i64 1, .string ⟨#[101, 110, 103]⟩, .slice va 4 vc] from rfl]
  go_upto_region 2 with fail
  rw [← HA.out, ← hn1e]
  clear hn1e
  refine ali_region n1 1 3 1 ⟨#[101, 110, 103]⟩ va 4 vc [sHead] ⟨1, 3, 1, ⟨#[101, 110, 103]⟩, exS a b c d⟩ HN1.out HSU HSO (by kernel_rfl) (by kernel_rfl) (by kernel_rfl) (by kernel_rfl) (by kernel_rfl) (by kernel_rfl) (by kernel_rfl) (by kernel_rfl) (by kernel_rfl) (by kernel_rfl) (by kernel_rfl) (by kernel_rfl) (by kernel_rfl) (by kernel_rfl) ?_
  rintro xs W Z hb ⟨sa, sc, e2, hsc, hstr⟩ ⟨g, fa, fc, e3, ⟨hrows, -⟩, hg, hgA, hZ⟩
  simp only at e2 hZ hrows hsc hstr
  rw [show (exS a b c d).length = 4 from rfl] at hZ hrows
  rw [show [sHead].length = 1 from rfl] at e2 hsc
  have hbz : Below A.heap.size A Z := by rw [hZ]; exact putR_below hb hgA _ _ _ _ _
  have hgz : Z.heap[g]? = some (recO 1 3 1 ⟨#[101, 110, 103]⟩ fa 4 fc) := by rw [hZ]; exact putR_heap hg rfl _ _ _ _ _
  have hrz : Rows fldE 4 Z (.slice fa 4 fc) (exS a b c d) := rows_away hrows hg (fun b hb => by rw [hZ]; exact putR_other _ _ _ _ _ _ hb)
  obtain ⟨sb, so, hsa, hsl⟩ : ∃ sb so, sa = some ⟨sb, so, none⟩ ∧ Z.cell? ⟨sb, so, none⟩ = some (.string sHead) := by
    rcases hstr with h0 | ⟨sb, so, h1, h2, h3⟩
    · cases h0
    · refine ⟨sb, so, h1, ?_⟩
      have hc := h3 0 sHead rfl
      rw [Nat.add_zero] at hc
      rw [hZ]
      by_cases hgb : sb = g
      · exfalso
        rw [hgb, Lib.cell_of_heap hg] at hc
        have ho : so < 5 := (Array.getElem?_eq_some_iff.1 hc).1
        rcases (by omega : so = 0 ∨ so = 1 ∨ so = 2 ∨ so = 3 ∨ so = 4) with rfl | rfl | rfl | rfl | rfl <;> simp at hc
      · rw [cell_heap (putR_other _ _ _ _ _ _ hgb)]
        exact hc
  obtain ⟨fb, fo, hfa, hfc⟩ : ∃ fb fo, fa = some ⟨fb, fo, none⟩ ∧ ∀ j f, (exS a b c d)[j]? = some f → Four Z fb (fo + j * 4) f := by
    obtain ⟨a', c', he, hc, h0 | ⟨fb, fo, h1, h2, h3⟩⟩ := hrz
    · cases h0
    · cases he
      exact ⟨fb, fo, h1, fun j f hj => four_of (h3 j f hj)⟩
  have t0 := (hfc 0 _ rfl).c0
  have t3 := (hfc 3 _ rfl).c0
  rw [show fo + 0 * 4 = fo by omega] at t0
  subst hsa hfa
  have hgl : g < Z.heap.size := (Array.getElem?_eq_some_iff.1 hgz).1
  have hfl : fb < Z.heap.size := World.block_lt_of_cell? Z ⟨fb, fo, none⟩ t0
  have hsl' : sb < Z.heap.size := World.block_lt_of_cell? Z ⟨sb, so, none⟩ hsl
  have HZK : Hid (∀ V, Below Z.heap.size Z V → V.heap[n1]? = some (recO 1 3 1 ⟨#[101, 110, 103]⟩ va 4 vc) ∧ V.heap[g]? = some (recO 1 3 1 ⟨#[101, 110, 103]⟩ (some ⟨fb, fo, none⟩) 4 fc) ∧ V.cell? ⟨sb, so, none⟩ = some (.string sHead) ∧ V.cell? ⟨fb, fo, none⟩ = some (.string ⟨#[49, 48, 48]⟩) ∧ V.cell? ⟨fb, fo + 12, none⟩ = some (.string ⟨#[54, 53, 48]⟩) ∧ Below A.heap.size A V) := Lib.hid (fun V h =>
    ⟨((hbz.bt h).block _ (by have := HSZ.out; omega)).trans HN1.out, (h.block _ hgl).trans hgz, (h.cell (p := ⟨sb, so, none⟩) hsl').trans hsl, (h.cell (p := ⟨fb, fo, none⟩) hfl).trans t0, (h.cell (p := ⟨fb, fo + 12, none⟩) hfl).trans t3, hbz.bt h⟩)
  simp only [e2, e3]
  clear hZ hrows hg hgA hbz hgz hrz hsl hfc t0 t3 hgl hfl hsl' hb hstr hsc HN1 HSZ HA HSU HSO e2 e3 W
  obtain ⟨k1, kg, ks, kf, kt, kb⟩ := HZK.out Z (Below.refl _ _)
  have d0 := Lib.cell_of_heap k1 0
  have d1 := Lib.cell_of_heap k1 1
  have d2 := Lib.cell_of_heap k1 2
  have d3 := Lib.cell_of_heap k1 3
  have d4 := Lib.cell_of_heap k1 4
  have s4 := Lib.cell_of_heap kg 4
  clear k1 kg kb
  have HCL := Lib.hid (HRI.out Z (HZK.out Z (Below.refl _ _)).2.2.2.2.2)
  go_wp2_with fail
  refine HCL.out.mono ?_
  rintro e y1 ⟨rfl, bb⟩
  have HY1 : Hid (Below Z.heap.size Z y1) := Lib.hid bb
  clear bb HCL
  clear d0 d1 d2 d3 d4 s4 ks kf kt
  obtain ⟨k1, kg, ks, kf, kt, kb⟩ := HZK.out y1 HY1.out
  have d0 := Lib.cell_of_heap k1 0
  have d1 := Lib.cell_of_heap k1 1
  have d2 := Lib.cell_of_heap k1 2
  have d3 := Lib.cell_of_heap k1 3
  have d4 := Lib.cell_of_heap k1 4
  have s4 := Lib.cell_of_heap kg 4
  clear k1 kg kb
  have HCL := Lib.hid (HTI.out y1 (HZK.out y1 HY1.out).2.2.2.2.2)
  go_wp2_with fail
  refine HCL.out.mono ?_
  rintro e y2 ⟨rfl, bb⟩
  have HY2 : Hid (Below Z.heap.size Z y2) := Lib.hid (HY1.out.bt bb)
  clear bb HCL
  clear d0 d1 d2 d3 d4 s4 ks kf kt
  obtain ⟨k1, kg, ks, kf, kt, kb⟩ := HZK.out y2 HY2.out
  have d0 := Lib.cell_of_heap k1 0
  have d1 := Lib.cell_of_heap k1 1
  have d2 := Lib.cell_of_heap k1 2
  have d3 := Lib.cell_of_heap k1 3
  have d4 := Lib.cell_of_heap k1 4
  have s4 := Lib.cell_of_heap kg 4
  clear k1 kg kb
  have HCL := Lib.hid (HAU.out y2 (HZK.out y2 HY2.out).2.2.2.2.2)
  go_wp2_with fail
  refine HCL.out.mono ?_
  rintro e y3 ⟨rfl, bb⟩
  have HY3 : Hid (Below Z.heap.size Z y3) := Lib.hid (HY2.out.bt bb)
  clear bb HCL
  clear d0 d1 d2 d3 d4 s4 ks kf kt
  obtain ⟨k1, kg, ks, kf, kt, kb⟩ := HZK.out y3 HY3.out
  have d0 := Lib.cell_of_heap k1 0
  have d1 := Lib.cell_of_heap k1 1
  have d2 := Lib.cell_of_heap k1 2
  have d3 := Lib.cell_of_heap k1 3
  have d4 := Lib.cell_of_heap k1 4
  have s4 := Lib.cell_of_heap kg 4
  clear k1 kg kb
  have HCL := Lib.hid (HYE.out y3 (HZK.out y3 HY3.out).2.2.2.2.2)
  go_wp2_with fail
  refine HCL.out.mono ?_
  rintro e y4 ⟨rfl, bb⟩
  have HY4 : Hid (Below Z.heap.size Z y4) := Lib.hid (HY3.out.bt bb)
  clear bb HCL
  clear d0 d1 d2 d3 d4 s4 ks kf kt
  obtain ⟨k1, kg, ks, kf, kt, kb⟩ := HZK.out y4 HY4.out
  have d0 := Lib.cell_of_heap k1 0
  have d1 := Lib.cell_of_heap k1 1
  have d2 := Lib.cell_of_heap k1 2
  have d3 := Lib.cell_of_heap k1 3
  have d4 := Lib.cell_of_heap k1 4
  have s4 := Lib.cell_of_heap kg 4
  clear k1 kg kb
  have HCL := Lib.hid (HFI.out y4 (HZK.out y4 HY4.out).2.2.2.2.2)
  go_wp2_with fail
  refine HCL.out.mono ?_
  rintro e y5 ⟨x2, y2, rfl, bb⟩
  have HY5 : Hid (Below Z.heap.size Z y5) := Lib.hid (HY4.out.bt bb)
  clear bb HCL
  clear d0 d1 d2 d3 d4 s4 ks kf kt
  obtain ⟨k1, kg, ks, kf, kt, kb⟩ := HZK.out y5 HY5.out
  have d0 := Lib.cell_of_heap k1 0
  have d1 := Lib.cell_of_heap k1 1
  have d2 := Lib.cell_of_heap k1 2
  have d3 := Lib.cell_of_heap k1 3
  have d4 := Lib.cell_of_heap k1 4
  have s4 := Lib.cell_of_heap kg 4
  clear k1 kg kb
  have HCL := Lib.hid (HSA.out y5 (HZK.out y5 HY5.out).2.2.2.2.2)
  go_wp2_with fail
  refine HCL.out.mono ?_
  rintro e y6 ⟨rfl, bb⟩
  have HY6 : Hid (Below Z.heap.size Z y6) := Lib.hid (HY5.out.bt bb)
  clear bb HCL
  clear d0 d1 d2 d3 d4 s4 ks kf kt
  obtain ⟨k1, kg, ks, kf, kt, kb⟩ := HZK.out y6 HY6.out
  have d0 := Lib.cell_of_heap k1 0
  have d1 := Lib.cell_of_heap k1 1
  have d2 := Lib.cell_of_heap k1 2
  have d3 := Lib.cell_of_heap k1 3
  have d4 := Lib.cell_of_heap k1 4
  have s4 := Lib.cell_of_heap kg 4
  clear k1 kg kb
  go_upto_region 7 with fail
  clear d0 d1 d2 d3 d4 s4 ks kf kt
  have hB6 := (HZK.out y6 HY6.out).2.2.2.2.2
  obtain ⟨pb, po, hva, hpc⟩ : ∃ pb po, va = some ⟨pb, po, none⟩ ∧ Four y6 pb po ⟨[50, 52, 53], [49, 48], [(97, sDogsC), (98, sGuide)], 0, a, 2⟩ := by
    obtain ⟨⟨a', c', he, hc, h0 | ⟨pb, po, h1, h2, h3⟩⟩, -⟩ := HRC.out y6 hB6
    · rw [HXF.out] at h0; cases h0
    · rw [hX] at he
      cases he
      refine ⟨pb, po, h1, ?_⟩
      have := four_of (h3 0 ⟨[50, 52, 53], [49, 48], [(97, sDogsC), (98, sGuide)], 0, a, 2⟩ (by rw [HXF.out]; rfl))
      rwa [Nat.zero_mul, Nat.add_zero] at this
  subst hva
  have hn6 := (HZK.out y6 HY6.out).1
  refine alj_region n1 1 3 1 ⟨#[101, 110, 103]⟩ 4 vc pb po ⟨#[50, 52, 53]⟩ ⟨#[49, 48]⟩ a 2 2 0 hn6 (by decide) hpc.c0 hpc.c1 hpc.c2 hpc.c3 (Lib.hid fun V h => HIN.out ⟨[50, 52, 53], [49, 48], [(97, sDogsC), (98, sGuide)], 0, a, 2⟩ V (by simp [exL]) (hB6.bt h)) (by kernel_rfl) (by kernel_rfl) (by kernel_rfl) (by kernel_rfl) (by kernel_rfl) (by kernel_rfl) (by kernel_rfl) (by kernel_rfl) (by kernel_rfl) (by kernel_rfl) (by kernel_rfl) (by kernel_rfl) (by kernel_rfl) (by kernel_rfl) (by kernel_rfl) (by kernel_rfl) (by kernel_rfl) (by kernel_rfl) (by kernel_rfl) (by kernel_rfl) ?_
  rintro xs2 W2 Z2 hb2 e5 ⟨g2, ev, hg2, hZ2⟩
  have hz2 : Below y6.heap.size y6 Z2 := by rw [hZ2]; exact putR_below hb2 hg2 _ _ _ _ _
  simp only [e5]
  clear hZ2 hg2 hb2 hpc hn6 e5
  have hk := HZK.out Z2 (HY6.out.bt hz2)
  have HB7 := Lib.hid hk.2.2.2.2.2
  have d0 := Lib.cell_of_heap hk.1 0
  have d1 := Lib.cell_of_heap hk.1 1
  have d2 := Lib.cell_of_heap hk.1 2
  have d3 := Lib.cell_of_heap hk.1 3
  have d4 := Lib.cell_of_heap hk.1 4
  have HCL := Lib.hid (HRE.out Z2 HB7.out)
  clear hk hz2 hB6
  go_wp2_with fail
  refine HCL.out.mono ?_
  rintro e y7 ⟨ra, rc, rfl, -, bb⟩
  have HB8 : Hid (Below w.heap.size w y7) := Lib.hid (HB0.out.bt (HB7.out.bt bb))
  clear bb HCL d0 d1 d2 d3 d4
  rw [show recV5 ⟨(rec0, (2 : Int)).1, ra, rc⟩ = .agg #[.int .i64 0, .int .i64 0, .int .i64 0, .string ⟨#[]⟩, .slice ra 0 rc] from rfl]
  go_wp2
  go_ret
  exact ⟨rfl, HB8.out.alloc HB8.out.size _⟩
end Go.Proofs.YtkfjeolpbopcnaaGreatDoor
