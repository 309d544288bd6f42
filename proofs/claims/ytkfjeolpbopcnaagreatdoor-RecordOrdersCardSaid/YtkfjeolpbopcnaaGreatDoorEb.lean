/- The walk of slices.Insert at fields, one field: at the end, and where there is room (layer 08). The walk of slices.Insert at fields, one field, where there is no room (layer 08). -/
import Derived.Test.YtkfjeolpbopcnaaGreatDoorEa
import Derived.Deep.RegionLaw
import Derived.Shelf.Spec.SlicesInsert
import Derived.Lib.AppendZerosOnto
import Derived.Laws.NewBlocks
namespace Go.Proofs.YtkfjeolpbopcnaaGreatDoor
open Go Go.RowKit

theorem rows_mk {w : World} {g c n : Nat} {l : List Fld} (hn : n = l.length) (hc : n ≤ c) (hg : g < w.heap.size) (h : ∀ t u, (flatE fldE l)[t]? = some u → w.cell? ⟨g, t, none⟩ = some u) : Rows fldE 4 w (.slice (some ⟨g, 0, none⟩) n c) l := by
  subst hn
  refine ⟨_, c, rfl, hc, .inr ⟨g, 0, rfl, hg, ?_⟩⟩
  intro j p hj i u hi
  rw [Nat.zero_add]
  exact h (j * 4 + i) u (by rw [flatE_at fldE_len l j p hj i (List.getElem?_eq_some_iff.1 hi).1]; exact hi)
section
variable {P : Program}
/-- copy where an element lies in several cells: all is read before anything is written. -/
theorem run_copy_wide (w : World) (dT sT ty elem : TypeId) (i : TypeInfo) (size : Nat) (b o dLen dCap : Nat) (a : Addr) (sLen sCap : Nat) (cs : List Value)
    (hu : P.underlying dT = some (.slice elem)) (hi : P.info? elem = some i) (hs : i.size = size) (hn : cs.length = Nat.min sLen dLen * size)
    (hsrc : ∀ j v, cs[j]? = some v → w.cell? (a.add j) = some v) (hc : ∀ j, j < cs.length → (w.cell? ⟨b, o + j, none⟩).isSome = true) (hf : ∀ j, j < cs.length → w.frozen? ⟨b, o + j, none⟩ = false) (h1 : ∀ v ∈ cs, v.oneCell' = true) :
    (Builtin.copy_ #[dT, sT] ty #[.slice (some ⟨b, o, none⟩) dLen dCap, .slice (some a) sLen sCap]).run P w = .ok (goInt (Nat.min sLen dLen)) (w.setCells b o cs) := by
  have hl := run_loadCells_list (P := P) w a cs hsrc
  have hst := run_storeCells_cells (P := P) b o cs 0 w (by simpa using hc) (by simpa using hf) h1
  subst hs
  rw [hn] at hl
  obtain ⟨m, hm⟩ : ∃ m, m = Nat.min sLen dLen := ⟨_, rfl⟩
  rw [← hm] at hl ⊢
  simp [Builtin.copy_, run_underlying hu, Builtin.lenOf, Builtin.firstCells, sizeOf, typeInfo, hi, ← hm, hl, hst]
end

/-- What Insert hands back: these fields; memory that is older than a bound is as it was. -/
def RetIns (w : World) (base : Nat) (xs : List Fld) (e : Ending) (w' : World) : Prop := ∃ v', e = .returned v' ∧ Rows fldE 4 w' v' xs ∧ ∀ B a, Below B a w → B ≤ base → B ≤ w.heap.size → Below B a w'

set_option maxRecDepth 100000 in
set_option maxHeartbeats 2000000 in
/-- At the end. -/
theorem pInsertEnd {w : World} {base n : Nat} {v : Value} {l : List Fld} (h : w.ownsRow base 35 4 v n (flatE fldE l)) (hn1 : n ≤ 1000) (hbw : base ≤ w.heap.size) (vb : Nat) (p : Fld) (hvb : ∀ j u, (fldE p)[j]? = some u → w.cell? ⟨vb, j, none⟩ = some u) :
    Calls Tryz.prog 45 #[v, .int .i64 n, .slice (some ⟨vb, 0, none⟩) 1 1] w (RetIns w base (l ++ [p])) := by
  obtain ⟨i0, hi, hz0, hz1, hz2⟩ := info_parts infoFld
  have HI := Lib.hid hi; have HZ0 := Lib.hid hz0; have HZ1 := Lib.hid hz1; have HZ2 := Lib.hid hz2
  have HO := Lib.hid h
  have hn : n = l.length := by have := h.1; rw [flatE_len fldE_len] at this; omega
  have HN := Lib.hid hn
  have hB : Hid (∀ B a w', Below B a w → B ≤ base → B ≤ w.heap.size → ∀ row, w.grownBy w' row → (∀ k, row = some k → base ≤ k) → Below B a w') := Lib.hid (by
    intro B a w' hb h1 h2 row hg hr
    exact hb.grown hg h2 (fun k hk => Nat.le_trans h1 (hr k hk)))
  have hV : Hid (∀ j u, (fldE p)[j]? = some u → w.cell? ((⟨vb, 0, none⟩ : Addr).add j) = some u) := Lib.hid (by
    intro j u hj
    rw [Addr.add_lit, Nat.zero_add]
    exact hvb j u hj)
  rcases h.2 with ⟨rfl, h0⟩ | ⟨g, cap, cur, rfl, hg, hh, hc, hm, -, -⟩
  · subst h0
    clear hi hz0 hz1 hz2 h hn hvb
    go_enter Tryz.func45, Tryz.ntmps45
    go_wp2_with (at_builtin; refine wpList_append_own _ rfl _ _ 22 rfl base 35 i0 (.agg #[.string ⟨#[]⟩, .string ⟨#[]⟩, .slice none 0 0, .int .i64 0]) 4 64 Tryz.underlying22 HI.out HZ0.out HZ1.out HZ2.out rfl (by decide) _ _ _ rfl HO.out ⟨vb, 0, none⟩ 1 1 (fldE p) rfl rfl ?c1 ?c2 ?c3 ?c4 ?c5 ?_)
    case c1 => exact hV.out
    case c2 => exact fldE_one _
    case c3 => decide
    case c4 => decide
    case c5 => exact hbw
    intro v7 w7 hown hgrow _
    have HOw7 : Hid (w7.ownsRow base 35 4 v7 (l ++ [p]).length (flatE fldE (l ++ [p]))) := Lib.hid (by rw [flatE_append]; have := hown; simp only [List.length_append, List.length_cons, List.length_nil, ← HN.out] at this ⊢; exact this)
    have HBw7 : Hid (∀ B a, Below B a w → B ≤ base → B ≤ w.heap.size → Below B a w7) := Lib.hid (fun B a hb h1 h2 => hB.out B a w7 hb h1 h2 _ hgrow (fun k hk => (HO.out.lt k hk).1))
    clear hown hgrow
    go_wp2
    go_ret
    exact ⟨_, rfl, Rows.of_own fldE_len HOw7.out rfl, HBw7.out⟩
  · clear hi hz0 hz1 hz2 h hn hvb hh
    have hmz := hm
    unfold maxLen at hmz
    have hcn : cap = n ∨ ¬ cap = n := Decidable.em _
    rcases hcn with hcn | hcn
    all_goals
      go_enter Tryz.func45, Tryz.ntmps45
      go_wp2_with (at_builtin; refine wpList_append_own _ rfl _ _ 22 rfl base 35 i0 (.agg #[.string ⟨#[]⟩, .string ⟨#[]⟩, .slice none 0 0, .int .i64 0]) 4 64 Tryz.underlying22 HI.out HZ0.out HZ1.out HZ2.out rfl (by decide) _ _ _ rfl HO.out ⟨vb, 0, none⟩ 1 1 (fldE p) rfl rfl ?c1 ?c2 ?c3 ?c4 ?c5 ?_)
      case c1 => exact hV.out
      case c2 => exact fldE_one _
      case c3 => unfold maxLen; omega
      case c4 => omega
      case c5 => exact hbw
      intro v7 w7 hown hgrow _
      have HOw7 : Hid (w7.ownsRow base 35 4 v7 (l ++ [p]).length (flatE fldE (l ++ [p]))) := Lib.hid (by rw [flatE_append]; have := hown; simp only [List.length_append, List.length_cons, List.length_nil, ← HN.out] at this ⊢; exact this)
      have HBw7 : Hid (∀ B a, Below B a w → B ≤ base → B ≤ w.heap.size → Below B a w7) := Lib.hid (fun B a hb h1 h2 => hB.out B a w7 hb h1 h2 _ hgrow (fun k hk => (HO.out.lt k hk).1))
      clear hown hgrow
      go_wp2
      go_ret
      exact ⟨_, rfl, Rows.of_own fldE_len HOw7.out rfl, HBw7.out⟩
end Go.Proofs.YtkfjeolpbopcnaaGreatDoor
namespace Go.Proofs.YtkfjeolpbopcnaaGreatDoor
open Go Go.RowKit

/-- The plain memory of a field in a block of its own. -/
def Lone (w : World) (vb : Nat) (p : Fld) : Prop := w.heap[vb]? = some (.cells #[.string (lb p.tag), .string (lb p.ind), .slice p.sa p.subs.length p.sc, .int .i64 p.auth] 35)
theorem Lone.cells {w : World} {vb : Nat} {p : Fld} (h : Lone w vb p) : ∀ j u, (fldE p)[j]? = some u → w.cell? ⟨vb, j, none⟩ = some u := by
  intro j u hj
  rw [Lib.cell_of_heap h, ← Array.getElem?_toList]
  exact hj
theorem Lone.shape {w : World} {vb : Nat} {p : Fld} (h : Lone w vb p) : w.shape? vb = some (35, 4) := by
  unfold Lone at h
  simp [World.shape?, h]
theorem Lone.frozen {w : World} {vb : Nat} {p : Fld} (h : Lone w vb p) (j : Nat) : w.frozen? ⟨vb, j, none⟩ = false := by
  unfold Lone at h
  simp [World.frozen?, h]
theorem take_put (l : List Fld) (p : Fld) (i t : Nat) (u : Value) (hi : i ≤ l.length) (h : (flatE fldE (l.take i ++ p :: l.drop i))[t]? = some u) :
    (t < i * 4 ∧ (flatE fldE l)[t]? = some u) ∨ (i * 4 ≤ t ∧ t < i * 4 + 4 ∧ (fldE p)[t - i * 4]? = some u) ∨ (i * 4 + 4 ≤ t ∧ (flatE fldE (l.drop i))[t - (i * 4 + 4)]? = some u) := by
  have hk : (flatE fldE (l.take i)).length = i * 4 := by rw [flatE_len fldE_len, List.length_take]; omega
  rw [flatE_append, flatE_cons] at h
  by_cases h1 : t < i * 4
  · refine .inl ⟨h1, ?_⟩
    rw [List.getElem?_append_left (by omega)] at h
    have e : flatE fldE l = flatE fldE (l.take i) ++ flatE fldE (l.drop i) := by rw [← flatE_append, List.take_append_drop]
    rw [e, List.getElem?_append_left (by omega)]
    exact h
  · rw [List.getElem?_append_right (by omega), hk] at h
    by_cases h2 : t < i * 4 + 4
    · rw [List.getElem?_append_left (by rw [fldE_len]; omega)] at h
      exact .inr (.inl ⟨by omega, h2, h⟩)
    · rw [List.getElem?_append_right (by rw [fldE_len]; omega), fldE_len] at h
      exact .inr (.inr ⟨by omega, by rw [show t - (i * 4 + 4) = t - i * 4 - 4 by omega]; exact h⟩)

set_option maxRecDepth 100000 in
set_option maxHeartbeats 2000000 in
theorem pInsertShift {w : World} {base n g cap : Nat} {l : List Fld} (h : w.ownsRow base 35 4 (.slice (some ⟨g, 0, none⟩) n cap) n (flatE fldE l)) (hn1 : n ≤ 1000) (vb : Nat) (hvg : vb ≠ g) (p : Fld) (hv : Lone w vb p) (i : Nat) (hi : i < n) (m : Nat) (hm : m = 1) (hroom : n + m ≤ cap) :
    Calls Tryz.prog 45 #[.slice (some ⟨g, 0, none⟩) n cap, .int .i64 i, .slice (some ⟨vb, 0, none⟩) m m] w (RetIns w base (l.take i ++ p :: l.drop i)) := by
  obtain ⟨i0, hi0, hz0, hz1, hz2⟩ := info_parts infoFld
  have hn : n = l.length := by have := h.1; rw [flatE_len fldE_len] at this; omega
  have hp := Rows.of_own fldE_len h hn
  obtain ⟨hcap, hm63, hgw, hbg, hfr, hsome⟩ : n ≤ cap ∧ cap ≤ maxLen ∧ g < w.heap.size ∧ base ≤ g ∧ (∀ j, w.frozen? ⟨g, j, none⟩ = false) ∧ (∀ t, t < cap * 4 → (w.cell? ⟨g, t, none⟩).isSome = true) := by
    rcases h.2 with ⟨h0, -⟩ | ⟨g', cap', cur, he, hb, hh, hc, hm, hsz, -⟩
    · cases h0
    · cases he
      exact ⟨hc, hm, (Array.getElem?_eq_some_iff.1 hh).1, hb, fun j => by simp [World.frozen?, hh], fun t ht => by rw [Lib.cell_of_heap hh, Array.getElem?_eq_getElem (by omega)]; rfl⟩
  have hcell : ∀ t u, (flatE fldE l)[t]? = some u → w.cell? ⟨g, t, none⟩ = some u := by
    intro t u ht
    have := Rows.cells fldE_len (by decide) hp t u ht
    rwa [Addr.add_lit, Nat.zero_add] at this
  obtain ⟨tail, htail⟩ : ∃ tail, tail = flatE fldE (l.drop i) := ⟨_, rfl⟩
  have htl : tail.length = (n - i) * 4 := by rw [htail, flatE_len fldE_len, List.length_drop, hn]
  have hdrop : ∀ t, tail[t]? = (flatE fldE l)[i * 4 + t]? := by
    intro t
    have e : flatE fldE l = flatE fldE (l.take i) ++ flatE fldE (l.drop i) := by rw [← flatE_append, List.take_append_drop]
    rw [e, List.getElem?_append_right (by rw [flatE_len fldE_len, List.length_take]; omega), flatE_len fldE_len, List.length_take, show i * 4 + t - min i l.length * 4 = t by omega, htail]
  obtain ⟨W1, hW1⟩ : ∃ W1, W1 = w.drew.setCells g ((i + m) * 4) tail := ⟨_, rfl⟩
  have hin1 : ∀ t, t < tail.length → (w.drew.cell? ⟨g, (i + m) * 4 + t, none⟩).isSome = true := fun t ht => hsome _ (by omega)
  have hW1s : ∀ t, t < cap * 4 → (W1.cell? ⟨g, t, none⟩).isSome = true := by
    intro t ht
    rw [hW1]
    exact some_setCells g tail _ _ hin1 t (hsome t ht)
  have hcp1 : ∀ ty dc sc, (Builtin.copy_ #[22, 22] ty #[.slice (some ⟨g, (i + m) * 4, none⟩) (n + m - (i + m)) dc, .slice (some ⟨g, i * 4, none⟩) (n + m - i) sc]).run Tryz.prog w.drew = .ok (goInt ((n - i : Nat) : Int)) W1 := fun ty dc sc => by
    have hmin : Nat.min (n + m - i) (n + m - (i + m)) = n - i := by simp only [Nat.min_def]; split <;> omega
    have := run_copy_wide (P := Tryz.prog) w.drew 22 22 ty 35 i0 4 g ((i + m) * 4) (n + m - (i + m)) dc ⟨g, i * 4, none⟩ (n + m - i) sc tail Tryz.underlying22 hi0 hz1 (by rw [hmin, htl])
      (fun j v hj => by rw [Addr.add_lit]; exact hcell _ v (by rw [← hdrop]; exact hj)) hin1 (fun j _ => hfr _) (by rw [htail]; exact flatE_one fldE_one _)
    rw [hmin, ← hW1] at this
    exact this
  obtain ⟨W2, hW2⟩ : ∃ W2, W2 = W1.setCells g (i * 4) (fldE p) := ⟨_, rfl⟩
  have hin2 : ∀ t, t < (fldE p).length → (W1.cell? ⟨g, i * 4 + t, none⟩).isSome = true := fun t ht => hW1s _ (by rw [fldE_len] at ht; omega)
  have hcp2 : ∀ ty dc, (Builtin.copy_ #[22, 22] ty #[.slice (some ⟨g, i * 4, none⟩) (n + m - i) dc, .slice (some ⟨vb, 0, none⟩) m m]).run Tryz.prog W1 = .ok (goInt ((m : Nat) : Int)) W2 := fun ty dc => by
    have hmin : Nat.min m (n + m - i) = m := by simp only [Nat.min_def]; split <;> omega
    have := run_copy_wide (P := Tryz.prog) W1 22 22 ty 35 i0 4 g (i * 4) (n + m - i) dc ⟨vb, 0, none⟩ m m (fldE p) Tryz.underlying22 hi0 hz1 (by rw [hmin, fldE_len, hm])
      (fun j v hj => by
        rw [Addr.add_lit, Nat.zero_add, hW1, World.cell?_setCells_out _ _ _ _ _ (fun e _ => absurd e hvg)]
        exact hv.cells j v hj) hin2 (fun j _ => by rw [hW1, World.frozen?_setCells]; exact hfr _) (fldE_one p)
    rw [hmin, ← hW2] at this
    exact this
  have hov : ∀ lb cb, (callFunc 81 #[.slice (some ⟨vb, 0, none⟩) m m, .slice (some ⟨g, (i + m) * 4, none⟩) lb cb]).run Tryz.prog w = .ok (.value (.bool false)) w := fun lb cb => by
    rw [run_callFunc_extern Tryz.func81 (by kernel_rfl) (by kernel_rfl) (by kernel_rfl) (e := Extern.SlicesOverlaps.overlaps #[22, 22] #[4]) (by kernel_rfl),
      Lib.run_overlaps_apart w 22 4 35 Tryz.underlying22 4 Tryz.sizeOf35 ⟨vb, 0, none⟩ ⟨g, (i + m) * 4, none⟩ m m lb cb hvg 35 35 4 (cap * 4) hv.shape (by
        rcases h.2 with ⟨h0, -⟩ | ⟨g', cap', cur, he, hb, hh, hc, hm, hsz, -⟩
        · cases h0
        · cases he; simp [World.shape?, hh, hsz]) (by omega) (hv.frozen 0) (hv.frozen 4)]
    rfl
  have hfin : Rows fldE 4 W2 (.slice (some ⟨g, 0, none⟩) (n + m) cap) (l.take i ++ p :: l.drop i) ∧ ∀ B a, Below B a w → B ≤ base → B ≤ w.heap.size → Below B a W2 := by
    constructor
    · refine rows_mk (by rw [List.length_append, List.length_cons, List.length_take, List.length_drop]; omega) hroom (by rw [hW2, size_setCells, hW1, size_setCells]; exact hgw) ?_
      intro t u ht
      rcases take_put l p i t u (by omega) ht with ⟨h1, hu⟩ | ⟨h1, h2, hu⟩ | ⟨h1, hu⟩
      · rw [hW2, World.cell?_setCells_out _ _ _ _ _ (fun _ _ => .inl (by show t < _; omega)), hW1, World.cell?_setCells_out _ _ _ _ _ (fun _ _ => .inl (by show t < _; omega))]
        exact hcell t u hu
      · obtain ⟨hk, hu⟩ := List.getElem?_eq_some_iff.1 hu
        have := World.cell?_setCells_in g (fldE p) (i * 4) W1 hin2 _ hk
        rw [show i * 4 + (t - i * 4) = t by omega, hu] at this
        rw [hW2]
        exact this
      · rw [hW2, World.cell?_setCells_out _ _ _ _ _ (fun _ _ => .inr (by show _ ≤ t; rw [fldE_len]; omega)), hW1]
        rw [← htail] at hu
        obtain ⟨hk, hu⟩ := List.getElem?_eq_some_iff.1 hu
        have := World.cell?_setCells_in g tail ((i + m) * 4) w.drew hin1 _ hk
        rw [show (i + m) * 4 + (t - (i * 4 + 4)) = t by omega, hu] at this
        exact this
    · intro B a hb h1 _
      rw [hW2, hW1]
      exact below_setCells (by omega) _ _ _ (below_setCells (by omega) _ _ _ hb.drew)
  have HF := Lib.hid hfin
  have HC1 := Lib.hid hcp1
  have hcapz := hm63
  unfold maxLen at hcapz
  have hw1 : IntKind.i64.wrap ((i : Int) + (m : Int)) = (i : Int) + (m : Int) := by rw [IntKind.wrap_i64]; omega
  have hz1m : ¬ ((m : Int) = 0) := by omega
  have hz2n : ¬ ((i : Int) = (n : Int)) := by omega
  have hb1 : (0 : Int) ≤ (i : Int) + (m : Int) := by omega
  have hin : i ≤ n := by omega
  have htn : ((i : Int) + (m : Int)).toNat = i + m := by omega
  have hb2 : ¬ (cap = i + m) := by omega
  have hb3 : (i : Int) ≤ (n : Int) + (m : Int) := by omega
  have hb4 : ¬ (cap = i) := by omega
  clear hi0 hz0 hz1 hz2 hn hp hfr hsome hcell htail htl hdrop hW1 hin1 hW1s hcp1 hW2 hin2 hfin h hv hm
  go_enter Tryz.func45, Tryz.ntmps45
  go_wp2_with (simp only [hov])
  go_region_law (refine step_copy_runI rfl _ _ 22 22 rfl (.slice (some ⟨g, (i + m) * 4, none⟩) (n + m - (i + m)) (cap - (i + m))) (.slice (some ⟨g, i * 4, none⟩) (n + m - i) (cap - i)) (by simp [Act.eval, Act.put]) (by simp [Act.eval, Act.put]) (HC1.out 3 _ _) ?_)
  go_wp2
  go_ret
  exact ⟨_, rfl, HF.out.1, HF.out.2⟩
end Go.Proofs.YtkfjeolpbopcnaaGreatDoor
namespace Go.Proofs.YtkfjeolpbopcnaaGreatDoor
open Go Go.RowKit

theorem zfld_size : (Value.agg #[.string ⟨#[]⟩, .string ⟨#[]⟩, .slice none 0 0, .int .i64 0]).cells.size = 4 := by kernel_rfl
theorem zeros_size (z : Array Value) (k : Nat) : (Builtin.zeroCells z k).size = k * z.size := by simp [Builtin.zeroCells]

set_option maxRecDepth 100000 in
set_option maxHeartbeats 2000000 in
theorem pInsertGrow {w : World} {base n g cap : Nat} {l : List Fld} (h : w.ownsRow base 35 4 (.slice (some ⟨g, 0, none⟩) n cap) n (flatE fldE l)) (hn1 : n ≤ 1000) (_ : base ≤ w.heap.size) (vb : Nat) (p : Fld) (hv : Lone w vb p) (i : Nat) (hi : i < n) (m : Nat) (hm : m = 1) (hroom : cap < n + m) :
    Calls Tryz.prog 45 #[.slice (some ⟨g, 0, none⟩) n cap, .int .i64 i, .slice (some ⟨vb, 0, none⟩) m m] w (RetIns w base (l.take i ++ p :: l.drop i)) := by
  obtain ⟨i0, hi0, hz0, hz1, hz2⟩ := info_parts infoFld
  have hn : n = l.length := by have := h.1; rw [flatE_len fldE_len] at this; omega
  have hp := Rows.of_own fldE_len h hn
  obtain ⟨hcap, hm63, hgw, hbg⟩ : n ≤ cap ∧ cap ≤ maxLen ∧ g < w.heap.size ∧ base ≤ g := by
    rcases h.2 with ⟨h0, -⟩ | ⟨g', cap', cur, he, hb, hh, hc, hm, hsz, -⟩
    · cases h0
    · cases he
      exact ⟨hc, hm, (Array.getElem?_eq_some_iff.1 hh).1, hb⟩
  have hcell : ∀ t u, (flatE fldE l)[t]? = some u → w.cell? ⟨g, t, none⟩ = some u := by
    intro t u ht
    have := Rows.cells fldE_len (by decide) hp t u ht
    rwa [Addr.add_lit, Nat.zero_add] at this
  have hsplit : flatE fldE l = flatE fldE (l.take i) ++ flatE fldE (l.drop i) := by rw [← flatE_append, List.take_append_drop]
  have htk : (flatE fldE (l.take i)).length = i * 4 := by rw [flatE_len fldE_len, List.length_take]; omega
  obtain ⟨tail, htail⟩ : ∃ tail, tail = flatE fldE (l.drop i) := ⟨_, rfl⟩
  have htl : tail.length = (n - i) * 4 := by rw [htail, flatE_len fldE_len, List.length_drop, hn]
  have hdrop : ∀ t, tail[t]? = (flatE fldE l)[i * 4 + t]? := by
    intro t
    rw [hsplit, List.getElem?_append_right (by omega), htk, show i * 4 + t - i * 4 = t by omega, htail]
  have hvw : vb < w.heap.size := (Array.getElem?_eq_some_iff.1 hv).1
  have hold : (Builtin.firstCells i0.size i (.slice (some ⟨g, 0, none⟩) i cap)).run Tryz.prog w.drew = .ok (flatE fldE (l.take i)).toArray w.drew := by
    rw [hz1]
    refine run_firstCells_some w.drew 4 i ⟨g, 0, none⟩ i cap (flatE fldE (l.take i)) htk (fun j u hj => ?_)
    rw [Addr.add_lit, Nat.zero_add]
    refine hcell j u ?_
    rw [hsplit, List.getElem?_append_left (List.getElem?_eq_some_iff.1 hj).1]
    exact hj
  obtain ⟨z, hz⟩ : ∃ z, z = (Value.agg #[.string ⟨#[]⟩, .string ⟨#[]⟩, .slice none 0 0, .int .i64 0]).cells := ⟨_, rfl⟩
  have hzs : z.size = 4 := by rw [hz]; exact zfld_size
  have hik : i + (n + m - i) = n + m := by omega
  have hkk : (n : Int) + (m : Int) - (i : Int) = ((n + m - i : Nat) : Int) := by omega
  obtain ⟨G, hG⟩ : ∃ G, G = grownCap w (n + m) cap 35 := ⟨_, rfl⟩
  obtain ⟨ROW, hROW⟩ : ∃ ROW : Array Value, ROW = (flatE fldE (l.take i)).toArray ++ Builtin.zeroCells z (n + m - i) ++ Builtin.zeroCells z (G - (n + m)) := ⟨_, rfl⟩
  obtain ⟨W1, hW1⟩ : ∃ W1, W1 = w.drew.alloc (.cells ROW 35) := ⟨_, rfl⟩
  have hrz : ∀ ty, (Builtin.append_ #[22, 3] ty #[.slice (some ⟨g, 0, none⟩) i cap, .int .i64 ((n : Int) + (m : Int) - (i : Int))]).run Tryz.prog w = .ok (.slice (some ⟨w.heap.size, 0, none⟩) (n + m) G) W1 := fun ty => by
    have h := Lib.run_append_grow_zeros (P := Tryz.prog) w 22 3 ty 35 i0 _ .i64 .i64 Tryz.underlying22 Tryz.underlying3 hi0 hz0 (some ⟨g, 0, none⟩) i cap (flatE fldE (l.take i)) hold (n + m - i) (by omega) (by omega) (by omega) (by omega) (by rw [hz2]; omega) (by rw [hz2, hik]; exact growslice_fits hroom (by omega))
    rw [hik, ← hz, ← hG, ← hROW, ← hW1] at h
    rw [hkk]
    exact h
  have hGn : n + m ≤ G := by rw [hG]; exact grownCap_ge w _ _ _
  have hG63 : G ≤ 9223372036854775807 := by
    have := grownCap_le_maxLen w (n + m) cap 35 (by unfold maxLen; omega)
    rw [← hG] at this
    unfold maxLen at this
    omega
  have hRl : ROW.size = G * 4 := by
    rw [hROW, Array.size_append, Array.size_append, zeros_size, zeros_size, hzs, List.size_toArray, htk]
    omega
  obtain ⟨N, hN⟩ : ∃ N, N = w.heap.size := ⟨_, rfl⟩
  have hNc : ∀ t, W1.cell? ⟨N, t, none⟩ = ROW[t]? := fun t => by
    rw [hW1, World.cell?_alloc_at (w := w.drew) ROW _ N t hN]
  have hNs : ∀ t, t < G * 4 → (W1.cell? ⟨N, t, none⟩).isSome = true := fun t ht => by
    rw [hNc, Array.getElem?_eq_getElem (by omega)]; rfl
  have hNf : ∀ t, W1.frozen? ⟨N, t, none⟩ = false := fun t => by rw [hW1]; exact World.frozen?_alloc_at (w := w.drew) ROW _ N t hN
  have hOb : ∀ b j u, b < N → w.cell? ⟨b, j, none⟩ = some u → W1.cell? ⟨b, j, none⟩ = some u := fun b j u hb h => by rw [hW1, World.cell?_alloc_past (w := w.drew) _ b j (by show b < w.heap.size; omega)]; exact h
  rw [← hN] at hrz
  obtain ⟨W2, hW2⟩ : ∃ W2, W2 = W1.setCells N (i * 4) (fldE p) := ⟨_, rfl⟩
  have hin2 : ∀ t, t < (fldE p).length → (W1.cell? ⟨N, i * 4 + t, none⟩).isSome = true := fun t ht => hNs _ (by rw [fldE_len] at ht; omega)
  have hcpA : ∀ ty dc, (Builtin.copy_ #[22, 22] ty #[.slice (some ⟨N, i * 4, none⟩) (n + m - i) dc, .slice (some ⟨vb, 0, none⟩) m m]).run Tryz.prog W1 = .ok (goInt ((m : Nat) : Int)) W2 := fun ty dc => by
    have hmin : Nat.min m (n + m - i) = m := by simp only [Nat.min_def]; split <;> omega
    have := run_copy_wide (P := Tryz.prog) W1 22 22 ty 35 i0 4 N (i * 4) (n + m - i) dc ⟨vb, 0, none⟩ m m (fldE p) Tryz.underlying22 hi0 hz1 (by rw [hmin, fldE_len, hm])
      (fun j v hj => by
        rw [Addr.add_lit, Nat.zero_add]
        exact hOb vb j v (by omega) (hv.cells j v hj)) hin2 (fun j _ => hNf _) (fldE_one p)
    rw [hmin, ← hW2] at this
    exact this
  obtain ⟨W3, hW3⟩ : ∃ W3, W3 = W2.drew.setCells N ((i + m) * 4) tail := ⟨_, rfl⟩
  have hW2s : ∀ t, t < G * 4 → (W2.cell? ⟨N, t, none⟩).isSome = true := by
    intro t ht
    rw [hW2]
    exact some_setCells N _ _ _ hin2 t (hNs t ht)
  have hin3 : ∀ t, t < tail.length → (W2.drew.cell? ⟨N, (i + m) * 4 + t, none⟩).isSome = true := fun t ht => hW2s _ (by omega)
  have hcpB : ∀ ty dc sc, (Builtin.copy_ #[22, 22] ty #[.slice (some ⟨N, (i + m) * 4, none⟩) (n + m - (i + m)) dc, .slice (some ⟨g, i * 4, none⟩) (n - i) sc]).run Tryz.prog W2.drew = .ok (goInt ((n - i : Nat) : Int)) W3 := fun ty dc sc => by
    have hmin : Nat.min (n - i) (n + m - (i + m)) = n - i := by simp only [Nat.min_def]; split <;> omega
    have := run_copy_wide (P := Tryz.prog) W2.drew 22 22 ty 35 i0 4 N ((i + m) * 4) (n + m - (i + m)) dc ⟨g, i * 4, none⟩ (n - i) sc tail Tryz.underlying22 hi0 hz1 (by rw [hmin, htl])
      (fun j v hj => by
        rw [Addr.add_lit]
        show W2.cell? _ = _
        rw [hW2, World.cell?_setCells_out _ _ _ _ _ (fun e _ => absurd (show g = N from e) (by omega))]
        exact hOb g _ v (by omega) (hcell _ v (by rw [← hdrop]; exact hj))) hin3 (fun j _ => by
        show W2.frozen? _ = _
        rw [hW2, World.frozen?_setCells]; exact hNf _) (by rw [htail]; exact flatE_one fldE_one _)
    rw [hmin, ← hW3] at this
    exact this
  have hfin : Rows fldE 4 W3 (.slice (some ⟨N, 0, none⟩) (n + m) G) (l.take i ++ p :: l.drop i) ∧ ∀ B a, Below B a w → B ≤ base → B ≤ w.heap.size → Below B a W3 := by
    constructor
    · refine rows_mk (by rw [List.length_append, List.length_cons, List.length_take, List.length_drop]; omega) hGn (by rw [hW3, size_setCells]; show N < W2.heap.size; rw [hW2, size_setCells, hW1, World.size_alloc, hN]; exact Nat.lt_succ_self _) ?_
      intro t u ht
      rcases take_put l p i t u (by omega) ht with ⟨h1, hu⟩ | ⟨h1, h2, hu⟩ | ⟨h1, hu⟩
      · rw [hW3, World.cell?_setCells_out _ _ _ _ _ (fun _ _ => .inl (by show t < _; omega))]
        show W2.cell? _ = _
        rw [hW2, World.cell?_setCells_out _ _ _ _ _ (fun _ _ => .inl (by show t < _; omega)), hNc, hROW, Array.append_assoc, Array.getElem?_append_left (by rw [List.size_toArray]; omega), List.getElem?_toArray]
        rw [hsplit, List.getElem?_append_left (by omega)] at hu
        exact hu
      · obtain ⟨hk, hu⟩ := List.getElem?_eq_some_iff.1 hu
        have := World.cell?_setCells_in N (fldE p) (i * 4) W1 hin2 _ hk
        rw [show i * 4 + (t - i * 4) = t by omega, hu] at this
        rw [hW3, World.cell?_setCells_out _ _ _ _ _ (fun _ _ => .inl (by show t < _; omega))]
        show W2.cell? _ = _
        rw [hW2]
        exact this
      · rw [← htail] at hu
        obtain ⟨hk, hu⟩ := List.getElem?_eq_some_iff.1 hu
        have := World.cell?_setCells_in N tail ((i + m) * 4) W2.drew hin3 _ hk
        rw [show (i + m) * 4 + (t - (i * 4 + 4)) = t by omega, hu] at this
        rw [hW3]
        exact this
    · intro B a hb h1 h2
      rw [hW3]
      refine below_setCells (by omega) _ _ _ (Below.drew ?_)
      rw [hW2]
      refine below_setCells (by omega) _ _ _ ?_
      rw [hW1]
      exact hb.drew.alloc h2 _
  have HF := Lib.hid hfin
  have HB := Lib.hid hcpB
  have hz1m : ¬ ((m : Int) = 0) := by omega
  have hz2n : ¬ ((i : Int) = (n : Int)) := by omega
  have hz3 : (cap : Int) < (n : Int) + (m : Int) := by omega
  have hGi : ¬ (G = i) := by omega
  have hGim : ¬ (G = i + m) := by omega
  have hci : ¬ (cap = i) := by omega
  have hw1 : IntKind.i64.wrap ((i : Int) + (m : Int)) = (i : Int) + (m : Int) := by rw [IntKind.wrap_i64]; omega
  have hb1 : (0 : Int) ≤ (i : Int) + (m : Int) := by omega
  have hin : i ≤ n := by omega
  have htn : ((i : Int) + (m : Int)).toNat = i + m := by omega
  have hb3 : (i : Int) ≤ (n : Int) := by omega
  have hcapz := hm63
  unfold maxLen at hcapz
  have HR := Lib.hid hrz
  clear hi0 hz0 hz1 hz2 hn hp hcell htail htl hdrop hW1 hin2 hW2 hfin h hv hm hold hz hzs hik hkk hG hROW hRl hN hNc hNs hNf hOb hW3 hW2s hin3 hcpB hsplit htk
  go_enter Tryz.func45, Tryz.ntmps45
  go_wp2_with (at_builtin; refine Lib.wpList_append_run _ rfl _ _ _ _ rfl _ _ rfl rfl _ _ (HR.out _) ?_)
  go_region_law (refine step_copy_runI rfl _ _ 22 22 rfl (.slice (some ⟨N, (i + m) * 4, none⟩) (n + m - (i + m)) (G - (i + m))) (.slice (some ⟨g, i * 4, none⟩) (n - i) (cap - i)) (by simp [Act.eval, Act.put]) (by simp [Act.eval, Act.put]) (HB.out 3 (G - (i + m)) (cap - i)) ?_)
  go_wp2
  go_ret
  exact ⟨_, rfl, HF.out.1, HF.out.2⟩
end Go.Proofs.YtkfjeolpbopcnaaGreatDoor
