/- The examples (layer 16), plain. -/
import Derived.Test.YtcdlgmncalmihaaDoorGal
namespace Go.Proofs.YtcdlgmncalmihaaDoor
open Go Go.RowKit

def t245 : List UInt8 := [50, 52, 53]
def t650 : List UInt8 := [54, 53, 48]
def t500 : List UInt8 := [53, 48, 48]
def engB : ByteArray := ⟨#[101, 110, 103]⟩
def dogs : ByteArray := ⟨#[68, 111, 103, 115]⟩
def allDogs : ByteArray := ⟨#[65, 108, 108, 32, 100, 111, 103, 115]⟩
def pets : ByteArray := ⟨#[80, 101, 116, 115]⟩
def good : ByteArray := ⟨#[71, 111, 111, 100]⟩
def intoX (s1 s2 a : Option Addr) (c : Nat) : Rcd := ⟨⟨1, 3, 1, engB, [fl1 t245 dogs s1, fl1 t650 dogs s2]⟩, a, c⟩
def fromX (s3 s4 s5 a : Option Addr) (c : Nat) : Rcd := ⟨⟨2, 3, 1, engB, [fl1 t245 allDogs s3, fl1 t650 dogs s4, fl1 t650 pets s5]⟩, a, c⟩
def mergedR (s1 s2 s5 : Option Addr) : Rec := ⟨1, 3, 1, engB, [fl1 t245 dogs s1, fl1 t650 dogs s2, fl1 t650 pets s5]⟩
theorem ex_merge (s1 s2 a s3 s4 s5 a' : Option Addr) (c c' : Nat) : mergeP (intoX s1 s2 a c) (fromX s3 s4 s5 a' c') stdK = (mergedR s1 s2 s5, ⟨1, fromX s3 s4 s5 a' c', [2]⟩, 0) := by kernel_rfl
theorem ex_arg (s1 s2 a : Option Addr) (c : Nat) : mergeP (intoX s1 s2 a c) (intoX s1 s2 a c) [] = (rec0, part0, 1) := by kernel_rfl
theorem ex_how1 : howL stdK ⟨#[56, 53, 54]⟩ = 0 := by kernel_rfl
theorem ex_how2 : howL [] ⟨#[50, 52, 53]⟩ = 1 := by kernel_rfl
/-- A record in a block of its own. -/
def RB (W : World) (n : Nat) (x : Rcd) : Prop := W.heap[n]? = some (.cells #[.int .i64 x.r.id, .int .i64 x.r.ver, .int .i64 x.r.kind, .string x.r.lang, .slice x.sa x.r.fields.length x.sc] 31 (0, 0)) ∧ RcdAt W x
theorem RB.below {w w' : World} {n : Nat} {x : Rcd} (h : RB w n x) (hb : Below w.heap.size w w') : RB w' n x := ⟨(hb.block n (Array.getElem?_eq_some_iff.1 h.1).1).trans h.1, h.2.below hb (Nat.le_refl _)⟩
theorem RB.new {w : World} {x : Rcd} (h : RcdAt w x) (n : Nat) (hn : n = w.heap.size) : RB (w.alloc (.cells #[.int .i64 x.r.id, .int .i64 x.r.ver, .int .i64 x.r.kind, .string x.r.lang, .slice x.sa x.r.fields.length x.sc] 31)) n x := ⟨alloc_at hn, h.below ((Below.refl _ _).alloc (Nat.le_refl _) _) (Nat.le_refl _)⟩

/-- A parting in a block of its own. -/
def PB (W : World) (n : Nat) (p : Part) (a : Option Addr) (m c : Nat) : Prop := W.heap[n]? = some (.cells #[.int .i64 p.into, .int .i64 p.frm.r.id, .int .i64 p.frm.r.ver, .int .i64 p.frm.r.kind, .string p.frm.r.lang, .slice p.frm.sa p.frm.r.fields.length p.frm.sc, .slice a m c] 36 (0, 0)) ∧ RcdAt W p.frm ∧ IntsAt W (.slice a m c) p.taken
theorem PB.below {w w' : World} {n : Nat} {p : Part} {a : Option Addr} {m c : Nat} (h : PB w n p a m c) (hb : Below w.heap.size w w') : PB w' n p a m c := ⟨(hb.block n (Array.getElem?_eq_some_iff.1 h.1).1).trans h.1, h.2.1.below hb (Nat.le_refl _), Rows.below h.2.2 hb (Nat.le_refl _)⟩
theorem fl1_small (t : List UInt8) (v : ByteArray) (sa : Option Addr) (hv : v.size ≤ 100) : (fl1 t v sa).small := by
  refine ⟨by show 1 ≤ _; omega, ?_, ?_⟩
  · intro s hs
    cases List.mem_singleton.1 hs
    show v.size ≤ _
    omega
  · intro s hs
    cases List.mem_singleton.1 hs
    show 97 < 256
    omega
theorem into_small (s1 s2 a : Option Addr) (c : Nat) : (intoX s1 s2 a c).r.small := by
  refine ⟨by show 2 ≤ _; omega, ?_⟩
  intro f hf
  simp only [intoX, List.mem_cons, List.not_mem_nil, or_false] at hf
  rcases hf with rfl | rfl <;> exact fl1_small _ _ _ (by decide)
theorem from_small (s3 s4 s5 a : Option Addr) (c : Nat) : (fromX s3 s4 s5 a c).r.small := by
  refine ⟨by show 3 ≤ _; omega, ?_⟩
  intro f hf
  simp only [fromX, List.mem_cons, List.not_mem_nil, or_false] at hf
  rcases hf with rfl | rfl | rfl <;> exact fl1_small _ _ _ (by decide)
theorem std_len : stdK.length = 10 := by kernel_rfl
theorem callMerge {W : World} {s1 s2 a s3 s4 s5 a' : Option Addr} {c c' : Nat} {vk : Value} (hE : Env W) (hx : RcdAt W (intoX s1 s2 a c)) (hy : RcdAt W (fromX s3 s4 s5 a' c')) (hk : Keeps W vk stdK) :
    Calls Tryd.prog 13 #[.agg #[.int .i64 1, .int .i64 3, .int .i64 1, .string ⟨#[101, 110, 103]⟩, .slice a 2 c], .agg #[.int .i64 2, .int .i64 3, .int .i64 1, .string ⟨#[101, 110, 103]⟩, .slice a' 3 c'], vk] W fun e w' => ∃ a2 c2 a3 c3, e = .returned (.tuple #[.agg #[.int .i64 1, .int .i64 3, .int .i64 1, .string ⟨#[101, 110, 103]⟩, .slice a2 3 c2], .agg #[.int .i64 1, .int .i64 2, .int .i64 3, .int .i64 1, .string ⟨#[101, 110, 103]⟩, .slice a' 3 c', .slice a3 1 c3], .int .i64 0]) ∧
      Hid (RcdAt w' ⟨mergedR s1 s2 s5, a2, c2⟩ ∧ RcdAt w' (fromX s3 s4 s5 a' c') ∧ IntsAt w' (.slice a3 1 c3) [2]) ∧ Below W.heap.size W w' := by
  refine (pMerge (intoX s1 s2 a c) (fromX s3 s4 s5 a' c') vk stdK W hE hx hy hk (into_small _ _ _ _) (from_small _ _ _ _ _) (by rw [std_len]; omega) (by show 2 ≤ _; omega) (by show 3 ≤ _; omega)).mono fun e w' h => ?_
  rw [ex_merge] at h
  obtain ⟨a2, c2, tv, rfl, h1, h2, h3, h4⟩ := h
  obtain ⟨a3, c3, rfl, -⟩ := Rows.shape h3
  exact ⟨a2, c2, a3, c3, rfl, Lib.hid ⟨h1, h2, h3⟩, h4⟩
def exPart (s3 s4 s5 a' : Option Addr) (c' : Nat) : Part := ⟨1, fromX s3 s4 s5 a' c', [2]⟩
theorem exPart_ok (s3 s4 s5 a' : Option Addr) (c' : Nat) : PartOk (exPart s3 s4 s5 a' c') where
  lo := by show (1 : Int) ≤ 1; omega
  hi := by show (1 : Int) ≤ 9999; omega
  rec_ := by kernel_rfl
  id0 := by show (2 : Int) ≠ 0; omega
  ne := by show (2 : Int) ≠ 1; omega
  rng := fun i hi => by
    cases List.mem_singleton.1 hi
    exact ⟨by omega, by show (2 : Int) < 3; omega⟩
  asc := fun k i j h1 h2 => by
    have : k + 1 < 1 := (List.getElem?_eq_some_iff.1 h2).1
    omega
theorem ex_same (s5 : Option Addr) : sameF (fl1 t650 pets s5) (fl1 t650 pets s5) = true := by kernel_rfl
theorem ex_diff (s5 s6 : Option Addr) : sameF (fl1 t500 good s6) (fl1 t650 pets s5) = false := by kernel_rfl
theorem exParts1 (s1 s2 s5 : Option Addr) : Parts [fl1 t650 pets s5].reverse (mergedR s1 s2 s5).fields [fl1 t245 dogs s1, fl1 t650 dogs s2] :=
  Parts.cons (x := fl1 t650 pets s5) (pre := [fl1 t245 dogs s1, fl1 t650 dogs s2]) (post := []) (ex_same s5) (fun _ h => by cases h) (Parts.nil _)
theorem exParts2 (s1 s2 s5 s6 : Option Addr) : Parts [fl1 t650 pets s5].reverse ((mergedR s1 s2 s5).fields ++ [fl1 t500 good s6]) [fl1 t245 dogs s1, fl1 t650 dogs s2, fl1 t500 good s6] :=
  Parts.cons (x := fl1 t650 pets s5) (pre := [fl1 t245 dogs s1, fl1 t650 dogs s2]) (post := [fl1 t500 good s6]) (ex_same s5) (fun y h => by cases List.mem_singleton.1 h; exact ex_diff s5 s6) (Parts.nil _)
theorem exPartIn {W : World} {x : Rcd} {s3 s4 s5 a' a3 : Option Addr} {c' c3 : Nat} {l out : List Fld} (hx : RcdAt W x) (he : x.r.fields = l) (hid : x.r.id = 1) (hl : l.length ≤ 10) (hs : ∀ f ∈ l, f.subs.length ≤ 10) (hf : RcdAt W (fromX s3 s4 s5 a' c')) (ht : IntsAt W (.slice a3 1 c3) [2]) (hp : Parts [fl1 t650 pets s5].reverse l out) : PartIn W x (exPart s3 s4 s5 a' c') (.slice a3 1 c3) [fl1 t650 pets s5] out where
  hx := hx
  hf := hf
  ht := ht
  hs := from_small _ _ _ _ _
  hsx := fun f h => by rw [he] at h; have := hs f h; omega
  hok := exPart_ok _ _ _ _ _
  hid := hid
  htl := rfl
  htf := fun k i f h1 h2 => by
    have hk : k < 1 := (List.getElem?_eq_some_iff.1 h2).1
    obtain rfl : k = 0 := by omega
    cases h1; cases h2; rfl
  hparts := by rw [he]; exact hp
  hl := by show 1 ≤ 1000; omega
  hfl := by show 3 ≤ 1000; omega
  hxl := by rw [he]; omega
theorem rec_no {a b c : Int} {d : ByteArray} {s : Option Addr} {n m : Nat} {x y : ByteArray} (o : Nat) : ¬ ((#[.int .i64 a, .int .i64 b, .int .i64 c, .string d, .slice s n m] : Array Value)[o]? = some (.string x) ∧ (#[.int .i64 a, .int .i64 b, .int .i64 c, .string d, .slice s n m] : Array Value)[o + 1]? = some (.string y)) := by
  rintro ⟨h1, h2⟩
  have ho : o < 5 := (Array.getElem?_eq_some_iff.1 h1).1
  rcases (by omega : o = 0 ∨ o = 1 ∨ o = 2 ∨ o = 3 ∨ o = 4) with rfl | rfl | rfl | rfl | rfl <;> first | (cases h1; done) | (cases h2; done)
theorem rec_no8 {a b c : Int} {d : ByteArray} {s : Option Addr} {n m : Nat} {x : Int} (o : Nat) : (#[.int .i64 a, .int .i64 b, .int .i64 c, .string d, .slice s n m] : Array Value)[o]? ≠ some (.int .u8 x) := by
  intro h1
  have ho : o < 5 := (Array.getElem?_eq_some_iff.1 h1).1
  rcases (by omega : o = 0 ∨ o = 1 ∨ o = 2 ∨ o = 3 ∨ o = 4) with rfl | rfl | rfl | rfl | rfl <;> cases h1
theorem rec_no2 {d : ByteArray} {s : Option Addr} {n m : Nat} (o : Nat) : (#[.int .i64 1, .int .i64 3, .int .i64 1, .string d, .slice s n m] : Array Value)[o]? ≠ some (.int .i64 2) := by
  intro h1
  have ho : o < 5 := (Array.getElem?_eq_some_iff.1 h1).1
  rcases (by omega : o = 0 ∨ o = 1 ∨ o = 2 ∨ o = 3 ∨ o = 4) with rfl | rfl | rfl | rfl | rfl <;> cases h1
end Go.Proofs.YtcdlgmncalmihaaDoor
