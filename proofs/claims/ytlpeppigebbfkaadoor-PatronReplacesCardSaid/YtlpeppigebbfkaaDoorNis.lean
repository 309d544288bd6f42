/- The walk of slices.Insert at patrons, one patron (layer 28). The walk of slices.Insert at patrons, one patron, where there is room (layer 28). -/
import Derived.Test.YtlpeppigebbfkaaDoorNdl
import Derived.Shelf.Spec.SlicesInsert
import Derived.Lib.AppendZerosOnto
import Derived.Laws.NewBlocks
namespace Go.Proofs.YtlpeppigebbfkaaDoor
open Go Go.RowKit

/-- What Insert hands back: these patrons; memory that is older than a bound is as it was. -/
def RetIns (w : World) (base : Nat) (xs : List Pat) (e : Ending) (w' : World) : Prop := ∃ v', e = .returned v' ∧ Pats w' v' xs ∧ ∀ B a, Below B a w → B ≤ base → B ≤ w.heap.size → Below B a w'

set_option maxRecDepth 100000 in
set_option maxHeartbeats 2000000 in
/-- At the end. -/
theorem pInsertEnd {w : World} {base n : Nat} {v : Value} {l : List Pat} (h : w.ownsRow base 28 6 v n (pcells l)) (hn1 : n ≤ 1000) (hbw : base ≤ w.heap.size) (vb : Nat) (p : Pat) (hvb : ∀ j u, p.enc[j]? = some u → w.cell? ⟨vb, j, none⟩ = some u) :
    Calls Tryd.prog 37 #[v, .int .i64 n, .slice (some ⟨vb, 0, none⟩) 1 1] w (RetIns w base (l ++ [p])) := by
  obtain ⟨i0, hi, hz0, hz1, hz2⟩ := info_parts infoPat
  have HI := Lib.hid hi; have HZ0 := Lib.hid hz0; have HZ1 := Lib.hid hz1; have HZ2 := Lib.hid hz2
  have HO := Lib.hid h
  have hn : n = l.length := by have := h.1; rw [pcells_len] at this; omega
  have HN := Lib.hid hn
  have hB : Hid (∀ B a w', Below B a w → B ≤ base → B ≤ w.heap.size → ∀ row, w.grownBy w' row → (∀ k, row = some k → base ≤ k) → Below B a w') := Lib.hid (by
    intro B a w' hb h1 h2 row hg hr
    exact hb.grown hg h2 (fun k hk => Nat.le_trans h1 (hr k hk)))
  have hV : Hid (∀ j u, p.enc[j]? = some u → w.cell? ((⟨vb, 0, none⟩ : Addr).add j) = some u) := Lib.hid (by
    intro j u hj
    rw [Addr.add_lit, Nat.zero_add]
    exact hvb j u hj)
  rcases h.2 with ⟨rfl, h0⟩ | ⟨g, cap, cur, rfl, hg, hh, hc, hm, -, -⟩
  · subst h0
    clear hi hz0 hz1 hz2 h hn hvb
    go_enter Tryd.func37, Tryd.ntmps37
    go_wp2_with (at_builtin; refine wpList_append_own _ rfl _ _ 22 rfl base 28 i0 (.agg #[.int .i64 0, .int .i64 0, .int .i64 0, .int .i64 0, .bool false, .string ⟨#[]⟩]) 6 56 Tryd.underlying22 HI.out HZ0.out HZ1.out HZ2.out rfl (by decide) _ _ _ rfl HO.out ⟨vb, 0, none⟩ 1 1 (Pat.enc p) rfl rfl ?c1 ?c2 ?c3 ?c4 ?c5 ?_)
    case c1 => exact hV.out
    case c2 => exact enc_one _
    case c3 => decide
    case c4 => decide
    case c5 => exact hbw
    intro v7 w7 hown hgrow _
    have HOw7 : Hid (w7.ownsRow base 28 6 v7 (l ++ [p]).length (pcells (l ++ [p]))) := Lib.hid (by rw [pcells_append]; have := hown; simp only [List.length_append, List.length_cons, List.length_nil, ← HN.out] at this ⊢; exact this)
    have HBw7 : Hid (∀ B a, Below B a w → B ≤ base → B ≤ w.heap.size → Below B a w7) := Lib.hid (fun B a hb h1 h2 => hB.out B a w7 hb h1 h2 _ hgrow (fun k hk => (HO.out.lt k hk).1))
    clear hown hgrow
    go_wp2
    go_ret
    exact ⟨_, rfl, Pats.of_own HOw7.out rfl, HBw7.out⟩
  · clear hi hz0 hz1 hz2 h hn hvb hh
    have hmz := hm
    unfold maxLen at hmz
    have hcn : cap = n ∨ ¬ cap = n := Decidable.em _
    rcases hcn with hcn | hcn
    all_goals
      go_enter Tryd.func37, Tryd.ntmps37
      go_wp2_with (at_builtin; refine wpList_append_own _ rfl _ _ 22 rfl base 28 i0 (.agg #[.int .i64 0, .int .i64 0, .int .i64 0, .int .i64 0, .bool false, .string ⟨#[]⟩]) 6 56 Tryd.underlying22 HI.out HZ0.out HZ1.out HZ2.out rfl (by decide) _ _ _ rfl HO.out ⟨vb, 0, none⟩ 1 1 (Pat.enc p) rfl rfl ?c1 ?c2 ?c3 ?c4 ?c5 ?_)
      case c1 => exact hV.out
      case c2 => exact enc_one _
      case c3 => unfold maxLen; omega
      case c4 => omega
      case c5 => exact hbw
      intro v7 w7 hown hgrow _
      have HOw7 : Hid (w7.ownsRow base 28 6 v7 (l ++ [p]).length (pcells (l ++ [p]))) := Lib.hid (by rw [pcells_append]; have := hown; simp only [List.length_append, List.length_cons, List.length_nil, ← HN.out] at this ⊢; exact this)
      have HBw7 : Hid (∀ B a, Below B a w → B ≤ base → B ≤ w.heap.size → Below B a w7) := Lib.hid (fun B a hb h1 h2 => hB.out B a w7 hb h1 h2 _ hgrow (fun k hk => (HO.out.lt k hk).1))
      clear hown hgrow
      go_wp2
      go_ret
      exact ⟨_, rfl, Pats.of_own HOw7.out rfl, HBw7.out⟩
end Go.Proofs.YtlpeppigebbfkaaDoor
namespace Go.Proofs.YtlpeppigebbfkaaDoor
open Go Go.RowKit

/-- The plain memory of a patron in a block of its own. -/
def Lone (w : World) (vb : Nat) (p : Pat) : Prop := w.heap[vb]? = some (.cells #[.int .i64 p.id, .int .i64 p.kind, .int .i64 p.branch, .int .i64 p.till, .bool p.stop, .string p.name] 28)
theorem Lone.cells {w : World} {vb : Nat} {p : Pat} (h : Lone w vb p) : ∀ j u, p.enc[j]? = some u → w.cell? ⟨vb, j, none⟩ = some u := by
  intro j u hj
  rw [Lib.cell_of_heap h, ← Array.getElem?_toList]
  exact hj
theorem Lone.shape {w : World} {vb : Nat} {p : Pat} (h : Lone w vb p) : w.shape? vb = some (28, 6) := by
  unfold Lone at h
  simp [World.shape?, h]
theorem Lone.frozen {w : World} {vb : Nat} {p : Pat} (h : Lone w vb p) (j : Nat) : w.frozen? ⟨vb, j, none⟩ = false := by
  unfold Lone at h
  simp [World.frozen?, h]
theorem take_put (l : List Pat) (p : Pat) (i t : Nat) (u : Value) (hi : i ≤ l.length) (h : (pcells (l.take i ++ p :: l.drop i))[t]? = some u) :
    (t < i * 6 ∧ (pcells l)[t]? = some u) ∨ (i * 6 ≤ t ∧ t < i * 6 + 6 ∧ p.enc[t - i * 6]? = some u) ∨ (i * 6 + 6 ≤ t ∧ (pcells (l.drop i))[t - (i * 6 + 6)]? = some u) := by
  have hk : (pcells (l.take i)).length = i * 6 := by rw [pcells_len, List.length_take]; omega
  rw [pcells_append, pcells_cons] at h
  by_cases h1 : t < i * 6
  · refine .inl ⟨h1, ?_⟩
    rw [List.getElem?_append_left (by omega)] at h
    have e : pcells l = pcells (l.take i) ++ pcells (l.drop i) := by rw [← pcells_append, List.take_append_drop]
    rw [e, List.getElem?_append_left (by omega)]
    exact h
  · rw [List.getElem?_append_right (by omega), hk] at h
    by_cases h2 : t < i * 6 + 6
    · rw [List.getElem?_append_left (by rw [enc_len]; omega)] at h
      exact .inr (.inl ⟨by omega, h2, h⟩)
    · rw [List.getElem?_append_right (by rw [enc_len]; omega), enc_len] at h
      exact .inr (.inr ⟨by omega, by rw [show t - (i * 6 + 6) = t - i * 6 - 6 by omega]; exact h⟩)

set_option maxRecDepth 100000 in
set_option maxHeartbeats 2000000 in
theorem pInsertShift {w : World} {base n g cap : Nat} {l : List Pat} (h : w.ownsRow base 28 6 (.slice (some ⟨g, 0, none⟩) n cap) n (pcells l)) (hn1 : n ≤ 1000) (vb : Nat) (hvg : vb ≠ g) (p : Pat) (hv : Lone w vb p) (i : Nat) (hi : i < n) (m : Nat) (hm : m = 1) (hroom : n + m ≤ cap) :
    Calls Tryd.prog 37 #[.slice (some ⟨g, 0, none⟩) n cap, .int .i64 i, .slice (some ⟨vb, 0, none⟩) m m] w (RetIns w base (l.take i ++ p :: l.drop i)) := by
  obtain ⟨i0, hi0, hz0, hz1, hz2⟩ := info_parts infoPat
  have hn : n = l.length := by have := h.1; rw [pcells_len] at this; omega
  have hp := Pats.of_own h hn
  obtain ⟨hcap, hm63, hgw, hbg, hfr, hsome⟩ : n ≤ cap ∧ cap ≤ maxLen ∧ g < w.heap.size ∧ base ≤ g ∧ (∀ j, w.frozen? ⟨g, j, none⟩ = false) ∧ (∀ t, t < cap * 6 → (w.cell? ⟨g, t, none⟩).isSome = true) := by
    rcases h.2 with ⟨h0, -⟩ | ⟨g', cap', cur, he, hb, hh, hc, hm, hsz, -⟩
    · cases h0
    · cases he
      exact ⟨hc, hm, (Array.getElem?_eq_some_iff.1 hh).1, hb, fun j => by simp [World.frozen?, hh], fun t ht => by rw [Lib.cell_of_heap hh, Array.getElem?_eq_getElem (by omega)]; rfl⟩
  have hcell : ∀ t u, (pcells l)[t]? = some u → w.cell? ⟨g, t, none⟩ = some u := by
    intro t u ht
    have := hp.cells rfl t u ht
    rwa [Addr.add_lit, Nat.zero_add] at this
  obtain ⟨tail, htail⟩ : ∃ tail, tail = pcells (l.drop i) := ⟨_, rfl⟩
  have htl : tail.length = (n - i) * 6 := by rw [htail, pcells_len, List.length_drop, hn]
  have hdrop : ∀ t, tail[t]? = (pcells l)[i * 6 + t]? := by
    intro t
    have e : pcells l = pcells (l.take i) ++ pcells (l.drop i) := by rw [← pcells_append, List.take_append_drop]
    rw [e, List.getElem?_append_right (by rw [pcells_len, List.length_take]; omega), pcells_len, List.length_take, show i * 6 + t - min i l.length * 6 = t by omega, htail]
  obtain ⟨W1, hW1⟩ : ∃ W1, W1 = w.drew.setCells g ((i + m) * 6) tail := ⟨_, rfl⟩
  have hin1 : ∀ t, t < tail.length → (w.drew.cell? ⟨g, (i + m) * 6 + t, none⟩).isSome = true := fun t ht => hsome _ (by omega)
  have hW1s : ∀ t, t < cap * 6 → (W1.cell? ⟨g, t, none⟩).isSome = true := by
    intro t ht
    rw [hW1]
    exact some_setCells g tail _ _ hin1 t (hsome t ht)
  have hcp1 : ∀ ty dc sc, (Builtin.copy_ #[22, 22] ty #[.slice (some ⟨g, (i + m) * 6, none⟩) (n + m - (i + m)) dc, .slice (some ⟨g, i * 6, none⟩) (n + m - i) sc]).run Tryd.prog w.drew = .ok (goInt ((n - i : Nat) : Int)) W1 := fun ty dc sc => by
    have hmin : Nat.min (n + m - i) (n + m - (i + m)) = n - i := by simp only [Nat.min_def]; split <;> omega
    have := run_copy_wide (P := Tryd.prog) w.drew 22 22 ty 28 i0 6 g ((i + m) * 6) (n + m - (i + m)) dc ⟨g, i * 6, none⟩ (n + m - i) sc tail Tryd.underlying22 hi0 hz1 (by rw [hmin, htl])
      (fun j v hj => by rw [Addr.add_lit]; exact hcell _ v (by rw [← hdrop]; exact hj)) hin1 (fun j _ => hfr _) (by rw [htail]; exact pcells_one _)
    rw [hmin, ← hW1] at this
    exact this
  obtain ⟨W2, hW2⟩ : ∃ W2, W2 = W1.setCells g (i * 6) p.enc := ⟨_, rfl⟩
  have hin2 : ∀ t, t < p.enc.length → (W1.cell? ⟨g, i * 6 + t, none⟩).isSome = true := fun t ht => hW1s _ (by rw [enc_len] at ht; omega)
  have hcp2 : ∀ ty dc, (Builtin.copy_ #[22, 22] ty #[.slice (some ⟨g, i * 6, none⟩) (n + m - i) dc, .slice (some ⟨vb, 0, none⟩) m m]).run Tryd.prog W1 = .ok (goInt ((m : Nat) : Int)) W2 := fun ty dc => by
    have hmin : Nat.min m (n + m - i) = m := by simp only [Nat.min_def]; split <;> omega
    have := run_copy_wide (P := Tryd.prog) W1 22 22 ty 28 i0 6 g (i * 6) (n + m - i) dc ⟨vb, 0, none⟩ m m p.enc Tryd.underlying22 hi0 hz1 (by rw [hmin, enc_len, hm])
      (fun j v hj => by
        rw [Addr.add_lit, Nat.zero_add, hW1, World.cell?_setCells_out _ _ _ _ _ (fun e _ => absurd e hvg)]
        exact hv.cells j v hj) hin2 (fun j _ => by rw [hW1, World.frozen?_setCells]; exact hfr _) (enc_one p)
    rw [hmin, ← hW2] at this
    exact this
  have hov : ∀ lb cb, (callFunc 54 #[.slice (some ⟨vb, 0, none⟩) m m, .slice (some ⟨g, (i + m) * 6, none⟩) lb cb]).run Tryd.prog w = .ok (.value (.bool false)) w := fun lb cb => by
    rw [run_callFunc_extern Tryd.func54 (by kernel_rfl) (by kernel_rfl) (by kernel_rfl) (e := Extern.SlicesOverlaps.overlaps #[22, 22] #[4]) (by kernel_rfl),
      Lib.run_overlaps_apart w 22 4 28 Tryd.underlying22 6 Tryd.sizeOf28 ⟨vb, 0, none⟩ ⟨g, (i + m) * 6, none⟩ m m lb cb hvg 28 28 6 (cap * 6) hv.shape (by
        rcases h.2 with ⟨h0, -⟩ | ⟨g', cap', cur, he, hb, hh, hc, hm, hsz, -⟩
        · cases h0
        · cases he; simp [World.shape?, hh, hsz]) (by omega) (hv.frozen 0) (hv.frozen 6)]
    rfl
  have hfin : Pats W2 (.slice (some ⟨g, 0, none⟩) (n + m) cap) (l.take i ++ p :: l.drop i) ∧ ∀ B a, Below B a w → B ≤ base → B ≤ w.heap.size → Below B a W2 := by
    constructor
    · refine Pats.mk_cells (by rw [List.length_append, List.length_cons, List.length_take, List.length_drop]; omega) hroom (by rw [hW2, size_setCells, hW1, size_setCells]; exact hgw) ?_
      intro t u ht
      rcases take_put l p i t u (by omega) ht with ⟨h1, hu⟩ | ⟨h1, h2, hu⟩ | ⟨h1, hu⟩
      · rw [hW2, World.cell?_setCells_out _ _ _ _ _ (fun _ _ => .inl (by show t < _; omega)), hW1, World.cell?_setCells_out _ _ _ _ _ (fun _ _ => .inl (by show t < _; omega))]
        exact hcell t u hu
      · obtain ⟨hk, hu⟩ := List.getElem?_eq_some_iff.1 hu
        have := World.cell?_setCells_in g p.enc (i * 6) W1 hin2 _ hk
        rw [show i * 6 + (t - i * 6) = t by omega, hu] at this
        rw [hW2]
        exact this
      · rw [hW2, World.cell?_setCells_out _ _ _ _ _ (fun _ _ => .inr (by show _ ≤ t; rw [enc_len]; omega)), hW1]
        rw [← htail] at hu
        obtain ⟨hk, hu⟩ := List.getElem?_eq_some_iff.1 hu
        have := World.cell?_setCells_in g tail ((i + m) * 6) w.drew hin1 _ hk
        rw [show (i + m) * 6 + (t - (i * 6 + 6)) = t by omega, hu] at this
        exact this
    · intro B a hb h1 _
      rw [hW2, hW1]
      exact below_setCells (by omega) _ _ _ (below_setCells (by omega) _ _ _ hb.drew)
  have HF := Lib.hid hfin
  have HC1 := Lib.hid hcp1
  have hcapz := hm63
  unfold maxLen at hcapz
  have hw1 : IntKind.i64.wrap ((i : Int) + (m : Int)) = (i : Int) + (m : Int) := by rw [IntKind.wrap_i64]; omega
  have hz1m : ¬ ((m : Int) = 0) := by omega
  have hz2n : ¬ ((i : Int) = (n : Int)) := by omega
  have hb1 : (0 : Int) ≤ (i : Int) + (m : Int) := by omega
  have hin : i ≤ n := by omega
  have htn : ((i : Int) + (m : Int)).toNat = i + m := by omega
  have hb2 : ¬ (cap = i + m) := by omega
  have hb3 : (i : Int) ≤ (n : Int) + (m : Int) := by omega
  have hb4 : ¬ (cap = i) := by omega
  clear hi0 hz0 hz1 hz2 hn hp hfr hsome hcell htail htl hdrop hW1 hin1 hW1s hcp1 hW2 hin2 hfin h hv hm
  go_enter Tryd.func37, Tryd.ntmps37
  go_wp2_with (simp only [hov])
  go_region_law (refine step_copy_runI rfl _ _ 22 22 rfl (.slice (some ⟨g, (i + m) * 6, none⟩) (n + m - (i + m)) (cap - (i + m))) (.slice (some ⟨g, i * 6, none⟩) (n + m - i) (cap - i)) (by simp [Act.eval, Act.put]) (by simp [Act.eval, Act.put]) (HC1.out 3 _ _) ?_)
  go_wp2
  go_ret
  exact ⟨_, rfl, HF.out.1, HF.out.2⟩
end Go.Proofs.YtlpeppigebbfkaaDoor
