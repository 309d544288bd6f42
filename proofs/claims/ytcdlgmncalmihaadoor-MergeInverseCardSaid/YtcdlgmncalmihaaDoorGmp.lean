/- The plain Merge, partings in memory, and results in two cells (layer 16). -/
import Derived.Test.YtcdlgmncalmihaaDoorGcl
import Derived.Test.YtcdlgmncalmihaaDoorMrr
namespace Go.Proofs.YtcdlgmncalmihaaDoor
open Go Go.RowKit

/-- A parting. -/
structure Part where
  into : Int
  frm : Rcd
  taken : List Int
def part0 : Part := ⟨0, rcd0, []⟩
def partV (p : Part) (tv : Value) : Value := .agg #[.int .i64 p.into, .int .i64 p.frm.r.id, .int .i64 p.frm.r.ver, .int .i64 p.frm.r.kind, .string p.frm.r.lang, .slice p.frm.sa p.frm.r.fields.length p.frm.sc, tv]
abbrev IntsAt (w : World) (v : Value) (l : List Int) : Prop := Rows intE 1 w v l
/-- Which fields are taken: from the field with index k on. -/
def mergeGo (keeps : List (ByteArray × Int)) (into : List Fld) : List Fld → Nat → List Fld → List Int → List Fld × List Int
  | [], _, fs, ts => (fs, ts)
  | f :: l, k, fs, ts => if takesL keeps fs into f = true then mergeGo keeps into l (k + 1) (fs ++ [f]) (ts ++ [(k : Int)]) else mergeGo keeps into l (k + 1) fs ts
def mergeErr (x y : Rec) : Int :=
  if recErr x ≠ 0 then recErr x else if recErr y ≠ 0 then recErr y else if x.id = 0 ∨ y.id = 0 then 2 else if x.id = y.id then 1 else if x.ver ≠ y.ver then 20 else 0
/-- Merge, plain: the record, the parting, the error. -/
def mergeP (x y : Rcd) (keeps : List (ByteArray × Int)) : Rec × Part × Int :=
  if mergeErr x.r y.r ≠ 0 then (rec0, part0, mergeErr x.r y.r)
  else if 64 < (mergeGo keeps x.r.fields y.r.fields 0 x.r.fields []).1.length then (rec0, part0, 13)
  else (⟨x.r.id, x.r.ver, x.r.kind, x.r.lang, (mergeGo keeps x.r.fields y.r.fields 0 x.r.fields []).1⟩, ⟨x.r.id, y, (mergeGo keeps x.r.fields y.r.fields 0 x.r.fields []).2⟩, 0)
/-- A call returns a record, a parting and an error's number. -/
def RetMerge (w : World) (R : Rec × Part × Int) (e : Ending) (w' : World) : Prop :=
  ∃ (a : Option Addr) (c : Nat) (tv : Value), e = .returned (.tuple #[recV5 ⟨R.1, a, c⟩, partV R.2.1 tv, .int .i64 R.2.2]) ∧ RcdAt w' ⟨R.1, a, c⟩ ∧ RcdAt w' R.2.1.frm ∧ IntsAt w' tv R.2.1.taken ∧ Below w.heap.size w w'
theorem retMerge_err {w w' : World} {err : Int} (h : Below w.heap.size w w') : RetMerge w (rec0, part0, err) (.returned (.tuple #[.agg #[.int .i64 0, .int .i64 0, .int .i64 0, .string ⟨#[]⟩, .slice none 0 0], .agg #[.int .i64 0, .int .i64 0, .int .i64 0, .int .i64 0, .string ⟨#[]⟩, .slice none 0 0, .slice none 0 0], .int .i64 err])) w' :=
  ⟨none, 0, .slice none 0 0, rfl, Flds.nil w', rcdAt_zero w', Rows.nil intE 1 w', h⟩
theorem mergeGo_len (keeps : List (ByteArray × Int)) (into : List Fld) : ∀ (l : List Fld) (k : Nat) (fs : List Fld) (ts : List Int), (mergeGo keeps into l k fs ts).1.length ≤ fs.length + l.length
  | [], _, fs, ts => by simp [mergeGo]
  | f :: l, k, fs, ts => by
    unfold mergeGo
    split
    · have := mergeGo_len keeps into l (k + 1) (fs ++ [f]) (ts ++ [(k : Int)])
      simp only [List.length_append, List.length_cons, List.length_nil] at this ⊢
      omega
    · have := mergeGo_len keeps into l (k + 1) fs ts
      simp only [List.length_cons]
      omega
theorem mergeGo_mem (keeps : List (ByteArray × Int)) (into : List Fld) : ∀ (l : List Fld) (k : Nat) (fs : List Fld) (ts : List Int), ∀ f ∈ (mergeGo keeps into l k fs ts).1, f ∈ fs ∨ f ∈ l
  | [], _, fs, ts, f, hf => .inl hf
  | g :: l, k, fs, ts, f, hf => by
    unfold mergeGo at hf
    split at hf
    · rcases mergeGo_mem keeps into l (k + 1) (fs ++ [g]) (ts ++ [(k : Int)]) f hf with h | h
      · rcases List.mem_append.1 h with h | h
        · exact .inl h
        · cases List.mem_singleton.1 h; exact .inr List.mem_cons_self
      · exact .inr (List.mem_cons_of_mem _ h)
    · rcases mergeGo_mem keeps into l (k + 1) fs ts f hf with h | h
      · exact .inl h
      · exact .inr (List.mem_cons_of_mem _ h)

/-- Five stores; seven stores. -/
def put5 (w : World) (g : Nat) (a b c d e : Value) : World := ((((w.setCell ⟨g, 0, none⟩ a).setCell ⟨g, 1, none⟩ b).setCell ⟨g, 2, none⟩ c).setCell ⟨g, 3, none⟩ d).setCell ⟨g, 4, none⟩ e
def put7 (w : World) (g : Nat) (a b c d e f h : Value) : World := ((((((w.setCell ⟨g, 0, none⟩ a).setCell ⟨g, 1, none⟩ b).setCell ⟨g, 2, none⟩ c).setCell ⟨g, 3, none⟩ d).setCell ⟨g, 4, none⟩ e).setCell ⟨g, 5, none⟩ f).setCell ⟨g, 6, none⟩ h
theorem put5_eq (w : World) (g : Nat) (a b c d e : Value) : put5 w g a b c d e = putL w g 0 [a, b, c, d, e] := rfl
theorem put7_eq (w : World) (g : Nat) (a b c d e f h : Value) : put7 w g a b c d e f h = putL w g 0 [a, b, c, d, e, f, h] := rfl
theorem results_mrg {fn : Func} {t u v : Tmp} (h : fn.results = #[.cell t 31, .cell u 36, .tmp v]) (tmps : Array Value) (w : World) (g g' : Nat) (a b c : Int) (d : ByteArray) (e : Value) (a' b' c' d' : Int) (e' : ByteArray) (f' h' : Value) {T T' : TypeId} (ht : tmps.getD t undef = .pointer (some ⟨g, 0, none⟩)) (hu : tmps.getD u undef = .pointer (some ⟨g', 0, none⟩))
    (hg : w.heap[g]? = some (.cells #[.int .i64 a, .int .i64 b, .int .i64 c, .string d, e] T (0, 0))) (hg' : w.heap[g']? = some (.cells #[.int .i64 a', .int .i64 b', .int .i64 c', .int .i64 d', .string e', f', h'] T' (0, 0))) :
    (results fn tmps).run Tryd.prog w = .ok (.tuple #[.agg #[.int .i64 a, .int .i64 b, .int .i64 c, .string d, e], .agg #[.int .i64 a', .int .i64 b', .int .i64 c', .int .i64 d', .string e', f', h'], tmps.getD v undef]) w := by
  have q0 := Lib.cell_of_heap hg 0
  have q1 := Lib.cell_of_heap hg 1
  have q2 := Lib.cell_of_heap hg 2
  have q3 := Lib.cell_of_heap hg 3
  have q4 := Lib.cell_of_heap hg 4
  have r0 := Lib.cell_of_heap hg' 0
  have r1 := Lib.cell_of_heap hg' 1
  have r2 := Lib.cell_of_heap hg' 2
  have r3 := Lib.cell_of_heap hg' 3
  have r4 := Lib.cell_of_heap hg' 4
  have r5 := Lib.cell_of_heap hg' 5
  have r6 := Lib.cell_of_heap hg' 6
  clear hg hg'
  unfold results
  rw [h]
  simp only [List.mapM_toArray, List.mapM_cons, List.mapM_nil]
  rw [ht, hu]
  go_simp
/-- The end of a call that refuses: zeros are stored. -/
theorem merge_end {fn : Func} {t u v : Tmp} (h : fn.results = #[.cell t 31, .cell u 36, .tmp v]) {w W : World} {tmps : Array Value} {err : Int} {g : Nat} {x5 : Array Value} {x7 : Array Value} {T T' : TypeId} (ht : tmps.getD t undef = .pointer (some ⟨g, 0, none⟩)) (hu : tmps.getD u undef = .pointer (some ⟨g + 1, 0, none⟩)) (hv : tmps.getD v undef = .int .i64 err)
    (hg : W.heap[g]? = some (.cells x5 T (0, 0))) (h5 : x5.size = 5) (hg' : W.heap[g + 1]? = some (.cells x7 T' (0, 0))) (h7 : x7.size = 7) (hb : Below w.heap.size w W) (hlt : w.heap.size ≤ g) {Q : Ending → World → Prop} (hQ : ∀ e w', RetMerge w (rec0, part0, err) e w' → Q e w') :
    bodyPost Tryd.prog fn Q .ret ⟨tmps, []⟩ (put7 (put5 W g (.int .i64 0) (.int .i64 0) (.int .i64 0) (.string ⟨#[]⟩) (.slice none 0 0)) (g + 1) (.int .i64 0) (.int .i64 0) (.int .i64 0) (.int .i64 0) (.string ⟨#[]⟩) (.slice none 0 0) (.slice none 0 0)) := by
  rw [put5_eq, put7_eq]
  have e5 := putL_all [.int .i64 0, .int .i64 0, .int .i64 0, .string ⟨#[]⟩, .slice none 0 0] W g x5 T hg h5.symm
  have e5' : (putL (putL W g 0 [.int .i64 0, .int .i64 0, .int .i64 0, .string ⟨#[]⟩, .slice none 0 0]) (g + 1) 0 [.int .i64 0, .int .i64 0, .int .i64 0, .int .i64 0, .string ⟨#[]⟩, .slice none 0 0, .slice none 0 0]).heap[g]? = _ := (putL_other _ _ _ _ (by omega)).trans e5
  have e7 := putL_all [.int .i64 0, .int .i64 0, .int .i64 0, .int .i64 0, .string ⟨#[]⟩, .slice none 0 0, .slice none 0 0] (putL W g 0 [.int .i64 0, .int .i64 0, .int .i64 0, .string ⟨#[]⟩, .slice none 0 0]) (g + 1) x7 T' ((putL_other _ _ _ _ (by omega)).trans hg') h7.symm
  have hb2 := putL_below [.int .i64 0, .int .i64 0, .int .i64 0, .int .i64 0, .string ⟨#[]⟩, .slice none 0 0, .slice none 0 0] _ (g + 1) 0 (putL_below [.int .i64 0, .int .i64 0, .int .i64 0, .string ⟨#[]⟩, .slice none 0 0] W g 0 hb hlt) (by omega : w.heap.size ≤ g + 1)
  refine bodyPost_ret (results_mrg h tmps _ g (g + 1) 0 0 0 ⟨#[]⟩ (.slice none 0 0) 0 0 0 0 ⟨#[]⟩ (.slice none 0 0) (.slice none 0 0) ht hu e5' e7) rfl ?_
  rw [hv]
  exact hQ _ _ (retMerge_err hb2)
end Go.Proofs.YtcdlgmncalmihaaDoor
