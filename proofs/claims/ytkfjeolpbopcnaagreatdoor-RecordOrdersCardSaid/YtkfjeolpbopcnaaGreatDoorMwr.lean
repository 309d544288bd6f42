/- Subfields, fields and records in memory (layers 18, 16, 08). -/
import Derived.Test.YtkfjeolpbopcnaaGreatDoorGel
import Derived.Test.YtkfjeolpbopcnaaGreatDoorMpl
namespace Go.Proofs.YtkfjeolpbopcnaaGreatDoor
open Go Go.RowKit

def lb (l : List UInt8) : ByteArray := ⟨l.toArray⟩
theorem lb_list (l : List UInt8) : (lb l).toList = l := by rw [ByteArray.toList_eq]; simp [lb]
theorem lb_data (l : List UInt8) : (lb l).data.toList = l := by simp [lb]
theorem lb_size (l : List UInt8) : (lb l).size = l.length := by simp [lb, ByteArray.size]
theorem lb_inj {a b : List UInt8} (h : lb a = lb b) : a = b := by have := congrArg (fun x : ByteArray => x.data.toList) h; simpa [lb] using this
theorem lb_of (s : ByteArray) : s = lb s.data.toList := by simp [lb]
/-- A subfield's cells; a field's; a record's. -/
def subE (s : Nat × ByteArray) : List Value := [.int .u8 s.1, .string s.2]
def fldE (f : Fld) : List Value := [.string (lb f.tag), .string (lb f.ind), .slice f.sa f.subs.length f.sc, .int .i64 f.auth]
theorem subE_len (s : Nat × ByteArray) : (subE s).length = 2 := rfl
theorem fldE_len (f : Fld) : (fldE f).length = 4 := rfl
theorem subE_one : ∀ s, ∀ u ∈ subE s, u.oneCell' = true := by
  intro s u hu
  simp only [subE, List.mem_cons, List.not_mem_nil, or_false] at hu
  rcases hu with rfl | rfl <;> rfl
theorem fldE_one : ∀ f, ∀ u ∈ fldE f, u.oneCell' = true := by
  intro s u hu
  simp only [fldE, List.mem_cons, List.not_mem_nil, or_false] at hu
  rcases hu with rfl | rfl | rfl | rfl <;> rfl
/-- A field's value, its subfields in memory. -/
def Fld.val (f : Fld) : Value := .agg #[.string (lb f.tag), .string (lb f.ind), .slice f.sa f.subs.length f.sc, .int .i64 f.auth]
def FldAt (w : World) (f : Fld) : Prop := Rows subE 2 w (.slice f.sa f.subs.length f.sc) f.subs
theorem FldAt.below {w w' : World} {f : Fld} (h : FldAt w f) {B : Nat} (hb : Below B w w') (hB : w.heap.size ≤ B) : FldAt w' f := Rows.below h hb hB
/-- The value is a slice whose cells hold these fields. -/
def Flds (w : World) (v : Value) (l : List Fld) : Prop := Rows fldE 4 w v l ∧ ∀ f ∈ l, FldAt w f
theorem Flds.below {w w' : World} {v : Value} {l : List Fld} (h : Flds w v l) {B : Nat} (hb : Below B w w') (hB : w.heap.size ≤ B) : Flds w' v l := ⟨h.1.below hb hB, fun f hf => (h.2 f hf).below hb hB⟩
theorem Flds.nil (w : World) : Flds w (.slice none 0 0) [] := ⟨Rows.nil fldE 4 w, by simp⟩
theorem Flds.of_own {w : World} {v : Value} {base n : Nat} {T : TypeId} {l : List Fld} (h : w.ownsRow base T 4 v n (flatE fldE l)) (hn : n = l.length) (hs : ∀ f ∈ l, FldAt w f) : Flds w v l := ⟨Rows.of_own fldE_len h hn, hs⟩
/-- The four cells of a field. -/
structure Four (w : World) (b o : Nat) (f : Fld) : Prop where
  c0 : w.cell? ⟨b, o, none⟩ = some (.string (lb f.tag))
  c1 : w.cell? ⟨b, o + 1, none⟩ = some (.string (lb f.ind))
  c2 : w.cell? ⟨b, o + 2, none⟩ = some (.slice f.sa f.subs.length f.sc)
  c3 : w.cell? ⟨b, o + 3, none⟩ = some (.int .i64 f.auth)
theorem four_of {w : World} {b o : Nat} {f : Fld} (h : ∀ i u, (fldE f)[i]? = some u → w.cell? ⟨b, o + i, none⟩ = some u) : Four w b o f := ⟨h 0 _ rfl, h 1 _ rfl, h 2 _ rfl, h 3 _ rfl⟩
theorem Four.below {w w' : World} {b o : Nat} {f : Fld} (h : Four w b o f) {B : Nat} (hb : Below B w w') (hB : b < B) : Four w' b o f :=
  ⟨(hb.cell (p := ⟨b, o, none⟩) hB).trans h.c0, (hb.cell (p := ⟨b, o + 1, none⟩) hB).trans h.c1, (hb.cell (p := ⟨b, o + 2, none⟩) hB).trans h.c2, (hb.cell (p := ⟨b, o + 3, none⟩) hB).trans h.c3⟩
/-- A record. -/
structure Rec where
  id : Int
  ver : Int
  kind : Int
  lang : ByteArray
  fields : List Fld
/-- The value is a record with these fields in memory. -/
def RecV (w : World) (v : Value) (r : Rec) : Prop := ∃ a n c, v = .agg #[.int .i64 r.id, .int .i64 r.ver, .int .i64 r.kind, .string r.lang, .slice a n c] ∧ Flds w (.slice a n c) r.fields
theorem RecV.below {w w' : World} {v : Value} {r : Rec} (h : RecV w v r) {B : Nat} (hb : Below B w w') (hB : w.heap.size ≤ B) : RecV w' v r := by
  obtain ⟨a, n, c, rfl, h⟩ := h
  exact ⟨a, n, c, rfl, h.below hb hB⟩
theorem Flds.len {w : World} {a : Option Addr} {n c : Nat} {l : List Fld} (h : Flds w (.slice a n c) l) : n = l.length ∧ n ≤ c := by
  obtain ⟨⟨a', c', he, hc, -⟩, -⟩ := h
  cases he
  exact ⟨rfl, hc⟩
/-- A record that Go can hold, and of a size that the laws ask for. -/
structure Fld.small (f : Fld) : Prop where
  subs : f.subs.length ≤ 1000000
  vals : ∀ s ∈ f.subs, s.2.size ≤ 1000000
  codes : ∀ s ∈ f.subs, s.1 < 256
def Rec.small (r : Rec) : Prop := r.fields.length ≤ 1000000 ∧ ∀ f ∈ r.fields, f.small
/-- A list from k on. -/
theorem drop_step {α : Type} {l : List α} {k : Nat} {x : α} (h : l[k]? = some x) : l.drop k = x :: l.drop (k + 1) := by
  obtain ⟨h', rfl⟩ := List.getElem?_eq_some_iff.1 h
  exact List.drop_eq_getElem_cons h'
end Go.Proofs.YtkfjeolpbopcnaaGreatDoor
