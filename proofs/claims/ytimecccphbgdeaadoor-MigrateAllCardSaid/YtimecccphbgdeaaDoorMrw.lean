/- The walk of the reference's With; append as a step of a region that draws its order, at fields (layer 18). -/
import Derived.Test.YtimecccphbgdeaaDoorMpu
import Derived.Deep.RegionLaw
namespace Go.Proofs.YtimecccphbgdeaaDoor
open Go Go.RowKit

theorem step_append_flds {ops : Array Oper} {o : Oper} {a : Act} {w : World} {K : Act → World → Prop} {Q : Exit → Act → World → Prop} {E : Prop}
    (hg : o.guard = none) (s x : Operand) (ho : o.op = Op.call { callee := Callee.builtin Builtin.append, args := #[s, x], argTypes := #[22, 22] })
    (B : Nat) (v : Value) (out : List Fld) (hs : a.eval s = v) (hown : OwnF w B v out)
    (ad : Addr) (m c : Nat) (news : List Fld) (hx : a.eval x = .slice (some ad) m c) (hm : m = news.length) (hnews : ∀ j u, (flatE fldE news)[j]? = some u → w.cell? (ad.add j) = some u)
    (hlen : out.length + m ≤ 1000000) (hB : B ≤ w.heap.size)
    (h : ∀ v' w', OwnF w' B v' (out ++ news) → Below B w w' → K (a.put o.dst v') w') :
    if Region.wanted o (yielded ops a.tmps) = true then Oper.wp Tryd.prog o a w K Q else E := by
  have hw : Region.wanted o (yielded ops a.tmps) = true := by simp [Region.wanted, hg]
  rw [if_pos hw]
  obtain ⟨i0, hi, hz0, hz1, hz2⟩ := info_parts infoFld
  refine wp_append_own w s x 22 ho B 41 i0 (.agg #[.string ⟨#[]⟩, .string ⟨#[]⟩, .slice none 0 0, .int .i64 0]) 4 64 Tryd.underlying22 hi hz0 hz1 hz2 rfl (by decide) v out.length (flatE fldE out) hs hown ad m c (flatE fldE news) hx (by rw [flatE_len fldE_len, hm]) hnews (flatE_one fldE_one news) (by unfold maxLen; omega) (by omega) hB ?_
  intro v' w' h1 h2 _
  refine h v' w' ?_ ((Below.refl B w).grown h2 hB (fun k hk => (World.ownsRow.lt hown k hk).1))
  unfold OwnF
  rw [flatE_append, List.length_append, ← hm]
  exact h1
theorem results_fld {fn : Func} {t : Tmp} (h : fn.results = #[.cell t 41]) (tmps : Array Value) (w : World) (g : Nat) (T I : ByteArray) (s : Value) (au : Int) (ht : tmps.getD t undef = .pointer (some ⟨g, 0, none⟩)) (h0 : w.cell? ⟨g, 0, none⟩ = some (.string T)) (h1 : w.cell? ⟨g, 1, none⟩ = some (.string I)) (h2 : w.cell? ⟨g, 2, none⟩ = some s) (h3 : w.cell? ⟨g, 3, none⟩ = some (.int .i64 au)) :
    (results fn tmps).run Tryd.prog w = .ok (.agg #[.string T, .string I, s, .int .i64 au]) w := by
  unfold results
  rw [h]
  simp only [List.mapM_toArray, List.mapM_cons, List.mapM_nil]
  rw [ht]
  go_simp
theorem new2_cell (w : World) (O : Obj) (cs : Array Value) (T : TypeId) (j : Nat) : ((w.alloc O).alloc (.cells cs T)).cell? ⟨w.heap.size + 1, j, none⟩ = cs[j]? := by
  have := Lib.cell_of_heap (heap_alloc_new (w.alloc O) (.cells cs T)) j
  rwa [World.size_alloc] at this
set_option maxRecDepth 100000 in
set_option maxHeartbeats 2000000 in
theorem rWith (T I T' I' : ByteArray) (s : Option Addr) (n c : Nat) (au au' : Int) (w : World) :
    Calls Tryd.prog 36 #[.agg #[.string T, .string I, .slice s n c, .int .i64 au], .string T', .string I', .int .i64 au'] w fun e w' => e = .returned (.agg #[.string T', .string I', .slice s n c, .int .i64 au']) ∧ Below w.heap.size w w' := by
  go_enter Tryd.func36, Tryd.ntmps36
  go_wp2
  (try simp only [Exit.inBlock, Exit.then])
  exact bodyPost_ret (results_fld rfl _ _ (w.heap.size + 1) T' I' (.slice s n c) au' rfl (new2_cell w _ _ _ 0) (new2_cell w _ _ _ 1) (new2_cell w _ _ _ 2) (new2_cell w _ _ _ 3)) rfl ⟨rfl, ((Below.refl _ _).alloc (Nat.le_refl _) _).alloc (by simp) _⟩
end Go.Proofs.YtimecccphbgdeaaDoor
