/- strings.FieldsFunc and strings.Join at texts. -/
import Derived.Test.YtkfjeolpbopcnaaGreatDoorBse
import Derived.Test.YtkfjeolpbopcnaaGreatDoorStrs
import Derived.Test.YtkfjeolpbopcnaaGreatDoorShelf
import Derived.Shelf.Strings.FieldsFuncAny
import Derived.WalkKit
import Derived.WalkLawsBesides
import Derived.WalkSpells
import Derived.Lib.Hide
import Derived.Deep.QuietTactic
import Derived.BigQuiet
import Derived.Outline
namespace Go.Proofs.YtkfjeolpbopcnaaGreatDoor
open Go Go.RowKit

/-- strings.FieldsFunc at a text. -/
theorem fields_text (g : Nat) (p : Nat → Bool) (cs : List Nat) (w : World) (eg : ∀ args w, (callFunc g args).run Tryz.prog w = .ok (.enter g args) w) (hp : PredAtRunes Tryz.prog g #[] p w) (hok : okt cs = true) (hs : (bs cs).size ≤ 4000000000) :
    Calls Tryz.prog 85 #[.string (bs cs), .func (.func g) #[] #[]] w (RetStrs w ((fields p cs).map bs)) := by
  refine (Tryz.strings_FieldsFunc_runes g #[] eg p (bs cs) w (by omega) hp).mono ?_
  rintro e w' ⟨A, rfl, _, hown, hb⟩
  rw [goFields_eq p cs hok] at hown ⊢
  exact ⟨_, rfl, Strs.of_own hown rfl, hb⟩
/-- strings.Join of strings in memory. -/
theorem join_any (xs : List ByteArray) (sep : ByteArray) (v : Value) (w : World) (hv : Strs w v xs) (hn : xs.length ≤ 4000000000) (hlen : (Lib.join (xs.map (·.data.toList)) sep.data.toList).length ≤ 140737488355328) :
    Calls Tryz.prog 63 #[v, .string sep] w fun e w' => e = .returned (.string ⟨(Lib.join (xs.map (·.data.toList)) sep.data.toList).toArray⟩) ∧ Below w.heap.size w w' := by
  obtain ⟨a, c, rfl, hc, h0 | ⟨b, o, rfl, hb, hx⟩⟩ := hv
  · subst h0
    refine (Tryz.strings_Join_none a c sep w).mono ?_
    rintro e w' ⟨rfl, rfl⟩
    exact ⟨rfl, Below.refl _ _⟩
  · exact Tryz.strings_Join b o c xs sep w hx hb (by omega) hc hlen
theorem join_text (ws : List (List Nat)) (v : Value) (w : World) (hv : Strs w v (ws.map bs)) (hn : ws.length ≤ 4000000000) (hs : (bs (glue ws)).size ≤ 4000000000) :
    Calls Tryz.prog 63 #[v, .string ⟨#[32]⟩] w fun e w' => e = .returned (.string (bs (glue ws))) ∧ Below w.heap.size w w' := by
  have hj := enc_glue ws
  have hm : (ws.map bs).map (·.data.toList) = ws.map enc := by
    rw [List.map_map]
    apply List.map_congr_left
    intro x _
    exact bs_data x
  have hd : (⟨#[32]⟩ : ByteArray).data.toList = [32] := rfl
  have := join_any (ws.map bs) ⟨#[32]⟩ v w hv (by rw [List.length_map]; exact hn) (by rw [hm, hd, ← hj, ← bs_size]; omega)
  rw [hm, hd, ← hj] at this
  exact this
end Go.Proofs.YtkfjeolpbopcnaaGreatDoor
