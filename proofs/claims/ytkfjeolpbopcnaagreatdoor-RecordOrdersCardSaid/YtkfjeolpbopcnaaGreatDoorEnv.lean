/- What the walks need of the world; a range over a text. -/
import Derived.Test.YtkfjeolpbopcnaaGreatDoorStrs
import Derived.Shelf.Unicode.DecodeSlow
import Derived.Lib.OthersKept
import Derived.WalkKit
import Derived.WalkLawsBesides
import Derived.WalkSpells
import Derived.Lib.Hide
import Derived.Deep.QuietTactic
import Derived.BigQuiet
import Derived.Outline
namespace Go.Proofs.YtkfjeolpbopcnaaGreatDoor
open Go Go.RowKit

/-- What the walks need of the world: the library's tables and its one variable. -/
structure Env (w : World) : Prop where
  tabs : Lib.Utf8Tabs 1 2 w
  max : ∃ m, w.cell? ⟨0, 0, none⟩ = some (.int .i64 m)
theorem lt_of_cell {w : World} {a : Addr} {v : Value} (h : w.cell? a = some v) : a.block < w.heap.size := by
  rcases Nat.lt_or_ge a.block w.heap.size with h' | h'
  · exact h'
  · unfold World.cell? at h
    rw [Array.getElem?_eq_none h'] at h
    simp at h
theorem Env.below {w w' : World} (h : Env w) (hb : Below w.heap.size w w') : Env w' := by
  obtain ⟨ht, m, hm⟩ := h
  exact ⟨Utf8Tabs_below ht hb, m, (hb.cell (p := ⟨_, 0, none⟩) (lt_of_cell hm)).trans hm⟩
theorem Env.dr {w w' : World} (h : Env w) (hd : Dr w w') : Env w' := h.below (hd.below _)
/-- The next character of a range over a text. -/
theorem next_char {cs : List Nat} {k c : Nat} {r : List Nat} (w : World) (hat : At cs k (c :: r)) (hok : okt cs = true) (ty : TypeId) :
    (Instr.next (.pointer (some ⟨w.heap.size, 0, none⟩)) true ty).run Tryz.prog (w.iter (bs cs) k) = .ok (.tuple #[.bool true, .int .i64 k, .int .i32 c]) (w.iter (bs cs) (k + (enc1 c).length)) := by
  rw [run_next_any w (bs cs) k ty hat.lt.2, hat.decode hok]
theorem next_end {cs : List Nat} {k : Nat} (w : World) (hat : At cs k []) (ty : TypeId) :
    (Instr.next (.pointer (some ⟨w.heap.size, 0, none⟩)) true ty).run Tryz.prog (w.iter (bs cs) k) = .ok (.tuple #[.bool false]) (w.iter (bs cs) k) :=
  Lib.run_next_end_at (w.iter (bs cs) k) w.heap.size (bs cs) k ty (World.iter_heap _ _ _) (by have := hat.fin; omega)
/-- The same, the iterator in whatever block. -/
theorem next_char_at {cs : List Nat} {k c : Nat} {r : List Nat} (w : World) (b : Nat) (hit : w.heap[b]? = some (.stringIter (bs cs) k)) (hat : At cs k (c :: r)) (hok : okt cs = true) (ty : TypeId) :
    (Instr.next (.pointer (some ⟨b, 0, none⟩)) true ty).run Tryz.prog w = .ok (.tuple #[.bool true, .int .i64 k, .int .i32 c]) (w.iterAt b (bs cs) (k + (enc1 c).length)) := by
  rw [Lib.run_next_any_at w b (bs cs) k ty hit hat.lt.2, hat.decode hok]
theorem next_end_at {cs : List Nat} {k : Nat} (w : World) (b : Nat) (hit : w.heap[b]? = some (.stringIter (bs cs) k)) (hat : At cs k []) (ty : TypeId) :
    (Instr.next (.pointer (some ⟨b, 0, none⟩)) true ty).run Tryz.prog w = .ok (.tuple #[.bool false]) w :=
  Lib.run_next_end_at w b (bs cs) k ty hit (by have := hat.fin; omega)
end Go.Proofs.YtkfjeolpbopcnaaGreatDoor
