/- The walk of the examples (layer 16). -/
import Derived.Test.YtcdlgmncalmihaaDoorGsp
namespace Go.Proofs.YtcdlgmncalmihaaDoor
open Go Go.RowKit

theorem _root_.Go.RowKit.Below.alloc2 {B : Nat} {a w : World} (h : Below B a w) (hB : B ≤ w.heap.size) (O P : Obj) : Below B a ((w.alloc O).alloc P) := (h.alloc hB O).alloc (by simp only [World.size_alloc]; omega) P
/-- A field of the examples. -/
def fl1 (t : List UInt8) (v : ByteArray) (sa : Option Addr) : Fld := ⟨t, [32, 32], [(97, v)], 0, sa, 1⟩
theorem rows_one (w : World) (v : ByteArray) (T : TypeId) : Rows subE 2 (w.alloc (.cells #[.int .u8 97, .string v] T)) (.slice (some ⟨w.heap.size, 0, none⟩) 1 1) [(97, v)] := by
  refine ⟨_, 1, rfl, Nat.le_refl _, .inr ⟨w.heap.size, 0, rfl, by rw [World.size_alloc]; exact Nat.lt_succ_self _, fun j p hj i u hi => ?_⟩⟩
  have hj1 : j < 1 := (List.getElem?_eq_some_iff.1 hj).1
  obtain rfl : j = 0 := by omega
  cases hj
  rw [Lib.cell_of_heap (heap_alloc_new w _)]
  have hi2 : i < 2 := (List.getElem?_eq_some_iff.1 hi).1
  rcases (by omega : i = 0 ∨ i = 1) with rfl | rfl
  · cases hi; rfl
  · cases hi; rfl
theorem flds_laid (w : World) (l : List Fld) (T : TypeId) (h : ∀ f ∈ l, FldAt w f) : Flds (w.alloc (.cells (flatE fldE l).toArray T)) (.slice (some ⟨w.heap.size, 0, none⟩) l.length l.length) l := by
  refine ⟨⟨_, _, rfl, Nat.le_refl _, .inr ⟨w.heap.size, 0, rfl, by rw [World.size_alloc]; exact Nat.lt_succ_self _, fun j p hj i u hi => ?_⟩⟩, fun f hf => (h f hf).below ((Below.refl _ _).alloc (Nat.le_refl _) _) (Nat.le_refl _)⟩
  have hi4 : i < 4 := by have := (List.getElem?_eq_some_iff.1 hi).1; rwa [fldE_len] at this
  rw [Nat.zero_add, Lib.cell_of_heap (heap_alloc_new w _), List.getElem?_toArray, flatE_at fldE_len l j p hj i hi4]
  exact hi
theorem results_fld {fn : Func} {t : Tmp} (h : fn.results = #[.cell t 46]) (tmps : Array Value) (w : World) (g : Nat) (a b : ByteArray) (c : Value) (d : Int) {T : TypeId} (ht : tmps.getD t undef = .pointer (some ⟨g, 0, none⟩))
    (hg : w.heap[g]? = some (.cells #[.string a, .string b, c, .int .i64 d] T (0, 0))) :
    (results fn tmps).run Tryd.prog w = .ok (.agg #[.string a, .string b, c, .int .i64 d]) w := by
  have q0 := Lib.cell_of_heap hg 0
  have q1 := Lib.cell_of_heap hg 1
  have q2 := Lib.cell_of_heap hg 2
  have q3 := Lib.cell_of_heap hg 3
  clear hg
  unfold results
  rw [h]
  simp only [List.mapM_toArray, List.mapM_cons, List.mapM_nil]
  rw [ht]
  go_simp
set_option maxRecDepth 100000 in
set_option maxHeartbeats 2000000 in
theorem aOne (T V : ByteArray) (w : World) :
    Calls Tryd.prog 23 #[.string T, .string V] w fun e w' => ∃ sa, e = .returned (.agg #[.string T, .string ⟨#[32, 32]⟩, .slice sa 1 1, .int .i64 0]) ∧ Rows subE 2 w' (.slice sa 1 1) [(97, V)] ∧ Below w.heap.size w w' := by
  go_enter Tryd.func23, Tryd.ntmps23
  go_wp2
  (try simp only [Exit.inBlock, Exit.then])
  have hr := rows_one (w.alloc (.cells #[.string T, .string ⟨#[32, 32]⟩, .slice (some ⟨w.heap.size + 1, 0, none⟩) 1 1, .int .i64 0] 46)) V 64
  rw [World.size_alloc] at hr
  have hb : ((w.alloc (.cells #[.string T, .string ⟨#[32, 32]⟩, .slice (some ⟨w.heap.size + 1, 0, none⟩) 1 1, .int .i64 0] 46)).alloc (.cells #[.int .u8 97, .string V] 64)).heap[w.heap.size]? = _ := (alloc_old (by simp)).trans (alloc_at rfl)
  exact bodyPost_ret (results_fld rfl _ _ w.heap.size T ⟨#[32, 32]⟩ (.slice (some ⟨w.heap.size + 1, 0, none⟩) 1 1) 0 rfl hb) rfl ⟨_, rfl, hr, ((Below.refl _ _).alloc (Nat.le_refl _) _).alloc (by simp) _⟩
end Go.Proofs.YtcdlgmncalmihaaDoor
