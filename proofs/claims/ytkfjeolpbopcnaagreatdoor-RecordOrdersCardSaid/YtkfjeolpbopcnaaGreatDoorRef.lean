/- Walks of the reference's functions on texts (layer 1): each returns what the plain Lean function of the same name says. -/
import Derived.Test.YtkfjeolpbopcnaaGreatDoorTxtb
import Derived.Test.YtkfjeolpbopcnaaGreatDoorProg
import Derived.WalkKit
import Derived.Outline
import Derived.WalkLawsBesides
import Derived.WalkSpells
import Derived.Lib.Hide
import Derived.Deep.QuietTactic
import Derived.BigQuiet
namespace Go.Proofs.YtkfjeolpbopcnaaGreatDoor
open Go Go.RowKit

theorem ret1i {k : IntKind} {a b : Int} (h : a = b) : Ending.returned (.int k a) = .returned (.int k b) := by rw [h]
theorem ret2i {k l : IntKind} {a b c d : Int} (h : a = b) (h' : c = d) : Ending.returned (.tuple #[.int k a, .int l c]) = .returned (.tuple #[.int k b, .int l d]) := by rw [h, h']

set_option maxRecDepth 100000 in
set_option maxHeartbeats 1000000 in
theorem decode_any (s : ByteArray) (i : Nat) (w : World) (hs : s.size ≤ 9223372036854775800) (hi : i < s.size) :
    Calls Tryz.prog 87 #[.string s, .int .i64 i] w fun e w' => e = .returned (.tuple #[.int .i64 (rdec (s.data.toList.drop i)).1, .int .i64 (rdec (s.data.toList.drop i)).2]) ∧ ∃ n, w' = w.drewN n := by
  have h0 : (s[i]'hi).toNat < 256 := (s[i]'hi).toNat_lt
  go_enter Tryz.func87, Tryz.ntmps87
  go_wp2
  all_goals (try (go_quiet (fail); go_wp2))
  all_goals
    go_ret2
    refine ⟨ret2i ?_ ?_, by first | exact ⟨0, rfl⟩ | exact ⟨_, rfl⟩⟩
  all_goals
    simp only [rdec, at_drop s i 0 hi, List.length_drop, len_data, Nat.add_zero]
    try simp only [at_drop s i 1 (by omega)]
    try simp only [at_drop s i 2 (by omega)]
    repeat (first | rw [if_pos (by omega)] | rw [if_neg (by omega)])
  all_goals (try omega)
end Go.Proofs.YtkfjeolpbopcnaaGreatDoor
