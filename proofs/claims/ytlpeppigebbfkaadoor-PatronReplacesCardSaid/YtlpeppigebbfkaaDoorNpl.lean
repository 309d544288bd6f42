/- Plain Lean: patrons, and what the chapter asks of them (layer 28). No program in sight. -/
import Derived.Test.YtlpeppigebbfkaaDoorTxtb
namespace Go.Proofs.YtlpeppigebbfkaaDoor
open Go

structure Pat where
  id : Int
  kind : Int
  branch : Int
  till : Int
  stop : Bool
  name : ByteArray
instance : Inhabited Pat := ⟨⟨0, 0, 0, 0, false, ⟨#[]⟩⟩⟩
/-- A patron's cells. -/
def Pat.enc (p : Pat) : List Value := [.int .i64 p.id, .int .i64 p.kind, .int .i64 p.branch, .int .i64 p.till, .bool p.stop, .string p.name]
def in64 (x : Int) : Prop := -9223372036854775808 ≤ x ∧ x ≤ 9223372036854775807
/-- A patron that Go can hold. -/
structure Pat.fits (p : Pat) : Prop where
  id : in64 p.id
  kind : in64 p.kind
  branch : in64 p.branch
  till : in64 p.till
  name : p.name.size ≤ 9223372036854775807
/-- A name is in form: not empty, a text, without superfluous blanks. -/
def formOk (n : ByteArray) : Prop := n.size ≠ 0 ∧ ∃ cs, okt cs = true ∧ n = bs cs ∧ clean cs = cs
theorem form_dec : ∃ F : ByteArray → Bool, ∀ n, F n = true ↔ formOk n := ⟨fun n => @decide (formOk n) (Classical.propDecidable _), fun n => by simp⟩
/-- The error of a patron by itself; F tells which names are in form. -/
def chk (F : ByteArray → Bool) (p : Pat) : Int :=
  if p.kind < 1 ∨ 9 < p.kind ∨ p.branch < 1 ∨ 4 < p.branch then 1
  else if p.till < 0 ∨ 109572 < p.till then 2
  else if F p.name = false then 3
  else if 200 < p.name.size then 4
  else 0
def rightFrom (F : ByteArray → Bool) : Int → List Pat → Int
  | _, [] => 0
  | last, p :: r => if p.id < 1 ∨ 9999 < p.id then 2 else if p.id ≤ last then 7 else if chk F p ≠ 0 then chk F p else rightFrom F p.id r
def right (F : ByteArray → Bool) (l : List Pat) : Int := if 32 < l.length then 13 else rightFrom F 0 l
/-- The place of the first patron with an ID. -/
def place (l : List Pat) (id : Int) : Option Nat := l.findIdx? (fun p => p.id == id)
/-- The first place of a patron with a greater ID, or the end. -/
def slot (l : List Pat) (id : Int) : Nat := (l.takeWhile (fun p => decide (p.id ≤ id))).length
def put (l : List Pat) (p : Pat) : List Pat := l.take (slot l p.id) ++ p :: l.drop (slot l p.id)
end Go.Proofs.YtlpeppigebbfkaaDoor
