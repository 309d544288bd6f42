/- The walk of slices.Insert at patrons, one patron (layer 28). -/
import Derived.Test.YtlpeppigebbfkaaDoorNdl
import Derived.Shelf.Spec.SlicesInsert
import Derived.Lib.AppendZerosOnto
import Derived.Laws.NewBlocks
namespace Go.Proofs.YtlpeppigebbfkaaDoor
open Go Go.RowKit

/-- What Insert hands back: these patrons; memory that is older than a bound is as it was. -/
def RetIns (w : World) (base : Nat) (xs : List Pat) (e : Ending) (w' : World) : Prop := ∃ v', e = .returned v' ∧ Pats w' v' xs ∧ ∀ B a, Below B a w → B ≤ base → B ≤ w.heap.size → Below B a w'

set_option maxRecDepth 100000 in
set_option maxHeartbeats 2000000 in
/-- At the end. -/
theorem pInsertEnd {w : World} {base n : Nat} {v : Value} {l : List Pat} (h : w.ownsRow base 28 6 v n (pcells l)) (hn1 : n ≤ 1000) (hbw : base ≤ w.heap.size) (vb : Nat) (p : Pat) (hvb : ∀ j u, p.enc[j]? = some u → w.cell? ⟨vb, j, none⟩ = some u) :
    Calls Tryd.prog 37 #[v, .int .i64 n, .slice (some ⟨vb, 0, none⟩) 1 1] w (RetIns w base (l ++ [p])) := by
  obtain ⟨i0, hi, hz0, hz1, hz2⟩ := info_parts infoPat
  have HI := Lib.hid hi; have HZ0 := Lib.hid hz0; have HZ1 := Lib.hid hz1; have HZ2 := Lib.hid hz2
  have HO := Lib.hid h
  have hn : n = l.length := by have := h.1; rw [pcells_len] at this; omega
  have HN := Lib.hid hn
  have hB : Hid (∀ B a w', Below B a w → B ≤ base → B ≤ w.heap.size → ∀ row, w.grownBy w' row → (∀ k, row = some k → base ≤ k) → Below B a w') := Lib.hid (by
    intro B a w' hb h1 h2 row hg hr
    exact hb.grown hg h2 (fun k hk => Nat.le_trans h1 (hr k hk)))
  have hV : Hid (∀ j u, p.enc[j]? = some u → w.cell? ((⟨vb, 0, none⟩ : Addr).add j) = some u) := Lib.hid (by
    intro j u hj
    rw [Addr.add_lit, Nat.zero_add]
    exact hvb j u hj)
  rcases h.2 with ⟨rfl, h0⟩ | ⟨g, cap, cur, rfl, hg, hh, hc, hm, -, -⟩
  · subst h0
    clear hi hz0 hz1 hz2 h hn hvb
    go_enter Tryd.func37, Tryd.ntmps37
    go_wp2_with (at_builtin; refine wpList_append_own _ rfl _ _ 22 rfl base 28 i0 (.agg #[.int .i64 0, .int .i64 0, .int .i64 0, .int .i64 0, .bool false, .string ⟨#[]⟩]) 6 56 Tryd.underlying22 HI.out HZ0.out HZ1.out HZ2.out rfl (by decide) _ _ _ rfl HO.out ⟨vb, 0, none⟩ 1 1 (Pat.enc p) rfl rfl ?c1 ?c2 ?c3 ?c4 ?c5 ?_)
    case c1 => exact hV.out
    case c2 => exact enc_one _
    case c3 => decide
    case c4 => decide
    case c5 => exact hbw
    intro v7 w7 hown hgrow _
    have HOw7 : Hid (w7.ownsRow base 28 6 v7 (l ++ [p]).length (pcells (l ++ [p]))) := Lib.hid (by rw [pcells_append]; have := hown; simp only [List.length_append, List.length_cons, List.length_nil, ← HN.out] at this ⊢; exact this)
    have HBw7 : Hid (∀ B a, Below B a w → B ≤ base → B ≤ w.heap.size → Below B a w7) := Lib.hid (fun B a hb h1 h2 => hB.out B a w7 hb h1 h2 _ hgrow (fun k hk => (HO.out.lt k hk).1))
    clear hown hgrow
    go_wp2
    go_ret
    exact ⟨_, rfl, Pats.of_own HOw7.out rfl, HBw7.out⟩
  · clear hi hz0 hz1 hz2 h hn hvb hh
    have hmz := hm
    unfold maxLen at hmz
    have hcn : cap = n ∨ ¬ cap = n := Decidable.em _
    rcases hcn with hcn | hcn
    all_goals
      go_enter Tryd.func37, Tryd.ntmps37
      go_wp2_with (at_builtin; refine wpList_append_own _ rfl _ _ 22 rfl base 28 i0 (.agg #[.int .i64 0, .int .i64 0, .int .i64 0, .int .i64 0, .bool false, .string ⟨#[]⟩]) 6 56 Tryd.underlying22 HI.out HZ0.out HZ1.out HZ2.out rfl (by decide) _ _ _ rfl HO.out ⟨vb, 0, none⟩ 1 1 (Pat.enc p) rfl rfl ?c1 ?c2 ?c3 ?c4 ?c5 ?_)
      case c1 => exact hV.out
      case c2 => exact enc_one _
      case c3 => unfold maxLen; omega
      case c4 => omega
      case c5 => exact hbw
      intro v7 w7 hown hgrow _
      have HOw7 : Hid (w7.ownsRow base 28 6 v7 (l ++ [p]).length (pcells (l ++ [p]))) := Lib.hid (by rw [pcells_append]; have := hown; simp only [List.length_append, List.length_cons, List.length_nil, ← HN.out] at this ⊢; exact this)
      have HBw7 : Hid (∀ B a, Below B a w → B ≤ base → B ≤ w.heap.size → Below B a w7) := Lib.hid (fun B a hb h1 h2 => hB.out B a w7 hb h1 h2 _ hgrow (fun k hk => (HO.out.lt k hk).1))
      clear hown hgrow
      go_wp2
      go_ret
      exact ⟨_, rfl, Pats.of_own HOw7.out rfl, HBw7.out⟩
end Go.Proofs.YtlpeppigebbfkaaDoor
