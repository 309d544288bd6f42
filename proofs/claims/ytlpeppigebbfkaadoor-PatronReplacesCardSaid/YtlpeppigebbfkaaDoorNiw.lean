/- The walk of slices.Insert at patrons, one patron, where there is no room (layer 28). -/
import Derived.Test.YtlpeppigebbfkaaDoorNis
namespace Go.Proofs.YtlpeppigebbfkaaDoor
open Go Go.RowKit

theorem zpat_size : (Value.agg #[.int .i64 0, .int .i64 0, .int .i64 0, .int .i64 0, .bool false, .string ⟨#[]⟩]).cells.size = 6 := by kernel_rfl
theorem zeros_size (z : Array Value) (k : Nat) : (Builtin.zeroCells z k).size = k * z.size := by simp [Builtin.zeroCells]

set_option maxRecDepth 100000 in
set_option maxHeartbeats 2000000 in
theorem pInsertGrow {w : World} {base n g cap : Nat} {l : List Pat} (h : w.ownsRow base 28 6 (.slice (some ⟨g, 0, none⟩) n cap) n (pcells l)) (hn1 : n ≤ 1000) (_ : base ≤ w.heap.size) (vb : Nat) (p : Pat) (hv : Lone w vb p) (i : Nat) (hi : i < n) (m : Nat) (hm : m = 1) (hroom : cap < n + m) :
    Calls Tryd.prog 37 #[.slice (some ⟨g, 0, none⟩) n cap, .int .i64 i, .slice (some ⟨vb, 0, none⟩) m m] w (RetIns w base (l.take i ++ p :: l.drop i)) := by
  obtain ⟨i0, hi0, hz0, hz1, hz2⟩ := info_parts infoPat
  have hn : n = l.length := by have := h.1; rw [pcells_len] at this; omega
  have hp := Pats.of_own h hn
  obtain ⟨hcap, hm63, hgw, hbg⟩ : n ≤ cap ∧ cap ≤ maxLen ∧ g < w.heap.size ∧ base ≤ g := by
    rcases h.2 with ⟨h0, -⟩ | ⟨g', cap', cur, he, hb, hh, hc, hm, hsz, -⟩
    · cases h0
    · cases he
      exact ⟨hc, hm, (Array.getElem?_eq_some_iff.1 hh).1, hb⟩
  have hcell : ∀ t u, (pcells l)[t]? = some u → w.cell? ⟨g, t, none⟩ = some u := by
    intro t u ht
    have := hp.cells rfl t u ht
    rwa [Addr.add_lit, Nat.zero_add] at this
  have hsplit : pcells l = pcells (l.take i) ++ pcells (l.drop i) := by rw [← pcells_append, List.take_append_drop]
  have htk : (pcells (l.take i)).length = i * 6 := by rw [pcells_len, List.length_take]; omega
  obtain ⟨tail, htail⟩ : ∃ tail, tail = pcells (l.drop i) := ⟨_, rfl⟩
  have htl : tail.length = (n - i) * 6 := by rw [htail, pcells_len, List.length_drop, hn]
  have hdrop : ∀ t, tail[t]? = (pcells l)[i * 6 + t]? := by
    intro t
    rw [hsplit, List.getElem?_append_right (by omega), htk, show i * 6 + t - i * 6 = t by omega, htail]
  have hvw : vb < w.heap.size := (Array.getElem?_eq_some_iff.1 hv).1
  have hold : (Builtin.firstCells i0.size i (.slice (some ⟨g, 0, none⟩) i cap)).run Tryd.prog w.drew = .ok (pcells (l.take i)).toArray w.drew := by
    rw [hz1]
    refine run_firstCells_some w.drew 6 i ⟨g, 0, none⟩ i cap (pcells (l.take i)) htk (fun j u hj => ?_)
    rw [Addr.add_lit, Nat.zero_add]
    refine hcell j u ?_
    rw [hsplit, List.getElem?_append_left (List.getElem?_eq_some_iff.1 hj).1]
    exact hj
  obtain ⟨z, hz⟩ : ∃ z, z = (Value.agg #[.int .i64 0, .int .i64 0, .int .i64 0, .int .i64 0, .bool false, .string ⟨#[]⟩]).cells := ⟨_, rfl⟩
  have hzs : z.size = 6 := by rw [hz]; exact zpat_size
  have hik : i + (n + m - i) = n + m := by omega
  have hkk : (n : Int) + (m : Int) - (i : Int) = ((n + m - i : Nat) : Int) := by omega
  obtain ⟨G, hG⟩ : ∃ G, G = grownCap w (n + m) cap 28 := ⟨_, rfl⟩
  obtain ⟨ROW, hROW⟩ : ∃ ROW : Array Value, ROW = (pcells (l.take i)).toArray ++ Builtin.zeroCells z (n + m - i) ++ Builtin.zeroCells z (G - (n + m)) := ⟨_, rfl⟩
  obtain ⟨W1, hW1⟩ : ∃ W1, W1 = w.drew.alloc (.cells ROW 28) := ⟨_, rfl⟩
  have hrz : ∀ ty, (Builtin.append_ #[22, 3] ty #[.slice (some ⟨g, 0, none⟩) i cap, .int .i64 ((n : Int) + (m : Int) - (i : Int))]).run Tryd.prog w = .ok (.slice (some ⟨w.heap.size, 0, none⟩) (n + m) G) W1 := fun ty => by
    have h := Lib.run_append_grow_zeros (P := Tryd.prog) w 22 3 ty 28 i0 _ .i64 .i64 Tryd.underlying22 Tryd.underlying3 hi0 hz0 (some ⟨g, 0, none⟩) i cap (pcells (l.take i)) hold (n + m - i) (by omega) (by omega) (by omega) (by omega) (by rw [hz2]; omega) (by rw [hz2, hik]; exact growslice_fits hroom (by omega))
    rw [hik, ← hz, ← hG, ← hROW, ← hW1] at h
    rw [hkk]
    exact h
  have hGn : n + m ≤ G := by rw [hG]; exact grownCap_ge w _ _ _
  have hG63 : G ≤ 9223372036854775807 := by
    have := grownCap_le_maxLen w (n + m) cap 28 (by unfold maxLen; omega)
    rw [← hG] at this
    unfold maxLen at this
    omega
  have hRl : ROW.size = G * 6 := by
    rw [hROW, Array.size_append, Array.size_append, zeros_size, zeros_size, hzs, List.size_toArray, htk]
    omega
  obtain ⟨N, hN⟩ : ∃ N, N = w.heap.size := ⟨_, rfl⟩
  have hNc : ∀ t, W1.cell? ⟨N, t, none⟩ = ROW[t]? := fun t => by
    rw [hW1, World.cell?_alloc_at (w := w.drew) ROW _ N t hN]
  have hNs : ∀ t, t < G * 6 → (W1.cell? ⟨N, t, none⟩).isSome = true := fun t ht => by
    rw [hNc, Array.getElem?_eq_getElem (by omega)]; rfl
  have hNf : ∀ t, W1.frozen? ⟨N, t, none⟩ = false := fun t => by rw [hW1]; exact World.frozen?_alloc_at (w := w.drew) ROW _ N t hN
  have hOb : ∀ b j u, b < N → w.cell? ⟨b, j, none⟩ = some u → W1.cell? ⟨b, j, none⟩ = some u := fun b j u hb h => by rw [hW1, World.cell?_alloc_past (w := w.drew) _ b j (by show b < w.heap.size; omega)]; exact h
  rw [← hN] at hrz
  obtain ⟨W2, hW2⟩ : ∃ W2, W2 = W1.setCells N (i * 6) p.enc := ⟨_, rfl⟩
  have hin2 : ∀ t, t < p.enc.length → (W1.cell? ⟨N, i * 6 + t, none⟩).isSome = true := fun t ht => hNs _ (by rw [enc_len] at ht; omega)
  have hcpA : ∀ ty dc, (Builtin.copy_ #[22, 22] ty #[.slice (some ⟨N, i * 6, none⟩) (n + m - i) dc, .slice (some ⟨vb, 0, none⟩) m m]).run Tryd.prog W1 = .ok (goInt ((m : Nat) : Int)) W2 := fun ty dc => by
    have hmin : Nat.min m (n + m - i) = m := by simp only [Nat.min_def]; split <;> omega
    have := run_copy_wide (P := Tryd.prog) W1 22 22 ty 28 i0 6 N (i * 6) (n + m - i) dc ⟨vb, 0, none⟩ m m p.enc Tryd.underlying22 hi0 hz1 (by rw [hmin, enc_len, hm])
      (fun j v hj => by
        rw [Addr.add_lit, Nat.zero_add]
        exact hOb vb j v (by omega) (hv.cells j v hj)) hin2 (fun j _ => hNf _) (enc_one p)
    rw [hmin, ← hW2] at this
    exact this
  obtain ⟨W3, hW3⟩ : ∃ W3, W3 = W2.drew.setCells N ((i + m) * 6) tail := ⟨_, rfl⟩
  have hW2s : ∀ t, t < G * 6 → (W2.cell? ⟨N, t, none⟩).isSome = true := by
    intro t ht
    rw [hW2]
    exact some_setCells N _ _ _ hin2 t (hNs t ht)
  have hin3 : ∀ t, t < tail.length → (W2.drew.cell? ⟨N, (i + m) * 6 + t, none⟩).isSome = true := fun t ht => hW2s _ (by omega)
  have hcpB : ∀ ty dc sc, (Builtin.copy_ #[22, 22] ty #[.slice (some ⟨N, (i + m) * 6, none⟩) (n + m - (i + m)) dc, .slice (some ⟨g, i * 6, none⟩) (n - i) sc]).run Tryd.prog W2.drew = .ok (goInt ((n - i : Nat) : Int)) W3 := fun ty dc sc => by
    have hmin : Nat.min (n - i) (n + m - (i + m)) = n - i := by simp only [Nat.min_def]; split <;> omega
    have := run_copy_wide (P := Tryd.prog) W2.drew 22 22 ty 28 i0 6 N ((i + m) * 6) (n + m - (i + m)) dc ⟨g, i * 6, none⟩ (n - i) sc tail Tryd.underlying22 hi0 hz1 (by rw [hmin, htl])
      (fun j v hj => by
        rw [Addr.add_lit]
        show W2.cell? _ = _
        rw [hW2, World.cell?_setCells_out _ _ _ _ _ (fun e _ => absurd (show g = N from e) (by omega))]
        exact hOb g _ v (by omega) (hcell _ v (by rw [← hdrop]; exact hj))) hin3 (fun j _ => by
        show W2.frozen? _ = _
        rw [hW2, World.frozen?_setCells]; exact hNf _) (by rw [htail]; exact pcells_one _)
    rw [hmin, ← hW3] at this
    exact this
  have hfin : Pats W3 (.slice (some ⟨N, 0, none⟩) (n + m) G) (l.take i ++ p :: l.drop i) ∧ ∀ B a, Below B a w → B ≤ base → B ≤ w.heap.size → Below B a W3 := by
    constructor
    · refine Pats.mk_cells (by rw [List.length_append, List.length_cons, List.length_take, List.length_drop]; omega) hGn (by rw [hW3, size_setCells]; show N < W2.heap.size; rw [hW2, size_setCells, hW1, World.size_alloc, hN]; exact Nat.lt_succ_self _) ?_
      intro t u ht
      rcases take_put l p i t u (by omega) ht with ⟨h1, hu⟩ | ⟨h1, h2, hu⟩ | ⟨h1, hu⟩
      · rw [hW3, World.cell?_setCells_out _ _ _ _ _ (fun _ _ => .inl (by show t < _; omega))]
        show W2.cell? _ = _
        rw [hW2, World.cell?_setCells_out _ _ _ _ _ (fun _ _ => .inl (by show t < _; omega)), hNc, hROW, Array.append_assoc, Array.getElem?_append_left (by rw [List.size_toArray]; omega), List.getElem?_toArray]
        rw [hsplit, List.getElem?_append_left (by omega)] at hu
        exact hu
      · obtain ⟨hk, hu⟩ := List.getElem?_eq_some_iff.1 hu
        have := World.cell?_setCells_in N p.enc (i * 6) W1 hin2 _ hk
        rw [show i * 6 + (t - i * 6) = t by omega, hu] at this
        rw [hW3, World.cell?_setCells_out _ _ _ _ _ (fun _ _ => .inl (by show t < _; omega))]
        show W2.cell? _ = _
        rw [hW2]
        exact this
      · rw [← htail] at hu
        obtain ⟨hk, hu⟩ := List.getElem?_eq_some_iff.1 hu
        have := World.cell?_setCells_in N tail ((i + m) * 6) W2.drew hin3 _ hk
        rw [show (i + m) * 6 + (t - (i * 6 + 6)) = t by omega, hu] at this
        rw [hW3]
        exact this
    · intro B a hb h1 h2
      rw [hW3]
      refine below_setCells (by omega) _ _ _ (Below.drew ?_)
      rw [hW2]
      refine below_setCells (by omega) _ _ _ ?_
      rw [hW1]
      exact hb.drew.alloc h2 _
  have HF := Lib.hid hfin
  have HB := Lib.hid hcpB
  have hz1m : ¬ ((m : Int) = 0) := by omega
  have hz2n : ¬ ((i : Int) = (n : Int)) := by omega
  have hz3 : (cap : Int) < (n : Int) + (m : Int) := by omega
  have hGi : ¬ (G = i) := by omega
  have hGim : ¬ (G = i + m) := by omega
  have hci : ¬ (cap = i) := by omega
  have hw1 : IntKind.i64.wrap ((i : Int) + (m : Int)) = (i : Int) + (m : Int) := by rw [IntKind.wrap_i64]; omega
  have hb1 : (0 : Int) ≤ (i : Int) + (m : Int) := by omega
  have hin : i ≤ n := by omega
  have htn : ((i : Int) + (m : Int)).toNat = i + m := by omega
  have hb3 : (i : Int) ≤ (n : Int) := by omega
  have hcapz := hm63
  unfold maxLen at hcapz
  have HR := Lib.hid hrz
  clear hi0 hz0 hz1 hz2 hn hp hcell htail htl hdrop hW1 hin2 hW2 hfin h hv hm hold hz hzs hik hkk hG hROW hRl hN hNc hNs hNf hOb hW3 hW2s hin3 hcpB hsplit htk
  go_enter Tryd.func37, Tryd.ntmps37
  go_wp2_with (at_builtin; refine Lib.wpList_append_run _ rfl _ _ _ _ rfl _ _ rfl rfl _ _ (HR.out _) ?_)
  go_region_law (refine step_copy_runI rfl _ _ 22 22 rfl (.slice (some ⟨N, (i + m) * 6, none⟩) (n + m - (i + m)) (G - (i + m))) (.slice (some ⟨g, i * 6, none⟩) (n - i) (cap - i)) (by simp [Act.eval, Act.put]) (by simp [Act.eval, Act.put]) (HB.out 3 (G - (i + m)) (cap - i)) ?_)
  go_wp2
  go_ret
  exact ⟨_, rfl, HF.out.1, HF.out.2⟩
end Go.Proofs.YtlpeppigebbfkaaDoor
