/- The walk of slices.Delete at fields (layers 16, 08). -/
import Derived.Test.YtcdlgmncalmihaaDoorGse
import Derived.Laws.IdiomCopy
namespace Go.Proofs.YtcdlgmncalmihaaDoor
open Go Go.RowKit

theorem below_setCells {B : Nat} {a : World} {b : Nat} (hb : B ≤ b) : ∀ (vs : List Value) (o : Nat) (w : World), Below B a w → Below B a (w.setCells b o vs)
  | [], _, _, h => h
  | v :: r, o, w, h => by
    rw [World.setCells]
    exact below_setCells hb r (o + 1) _ (h.setCell (p := ⟨b, o, none⟩) hb v)
theorem size_setCells (b : Nat) : ∀ (vs : List Value) (o : Nat) (w : World), (w.setCells b o vs).heap.size = w.heap.size
  | [], _, _ => rfl
  | v :: r, o, w => by rw [World.setCells, size_setCells b r, World.size_setCell]
theorem some_setCells (b : Nat) (vs : List Value) (o : Nat) (w : World) (h : ∀ j, j < vs.length → (w.cell? ⟨b, o + j, none⟩).isSome = true) (k : Nat) (hk : (w.cell? ⟨b, k, none⟩).isSome = true) : ((w.setCells b o vs).cell? ⟨b, k, none⟩).isSome = true := by
  by_cases hin : o ≤ k ∧ k < o + vs.length
  · have := World.cell?_setCells_in b vs o w h (k - o) (by omega)
    rw [show o + (k - o) = k by omega] at this
    rw [this]; rfl
  · rw [World.cell?_setCells_out b vs o w ⟨b, k, none⟩ (fun _ _ => by show k < o ∨ o + vs.length ≤ k; omega)]
    exact hk
section
variable {P : Program}
/-- clear at a slice with one element of several cells. -/
theorem run_clear_one (w : World) (t e ty : TypeId) (z : Value) (zs : List Value) (ht : P.underlying t = some (.slice e)) (hv : ∀ w, (zeroValue e).run P w = .ok z w) (hz : (Builtin.zeroCells z.cells 1).toList = zs) (h1 : ∀ u ∈ zs, u.oneCell' = true) (b o n c : Nat) (hn : n = 1)
    (hc : ∀ j, j < zs.length → (w.cell? ⟨b, o + j, none⟩).isSome = true) (hf : ∀ j, j < zs.length → w.frozen? ⟨b, o + j, none⟩ = false) :
    (Builtin.clear_ #[t] ty #[.slice (some ⟨b, o, none⟩) n c]).run P w = .ok (.tuple #[]) (w.setCells b o zs) := by
  subst hn
  have hst := run_storeCells_cells (P := P) b o zs 0 w (by simpa using hc) (by simpa using hf) h1
  simp only [Nat.add_zero] at hst
  simp [Builtin.clear_, run_underlying ht, hv, hz, hst]
end
/-- The zero field. -/
def zfld : Fld := ⟨[], [], [], 0, none, 0⟩
theorem zfld_cells : (Builtin.zeroCells (Value.agg #[.string ⟨#[]⟩, .string ⟨#[]⟩, .slice none 0 0, .int .i64 0]).cells 1).toList = fldE zfld := by kernel_rfl
theorem setCells_block (g : Nat) : ∀ (vs : List Value) (o : Nat) (w : World) (cur : Array Value) (T : TypeId), w.heap[g]? = some (.cells cur T (0, 0)) → ∃ cur', (w.setCells g o vs).heap[g]? = some (.cells cur' T (0, 0)) ∧ cur'.size = cur.size
  | [], _, _, cur, _, h => ⟨cur, h, rfl⟩
  | v :: r, o, w, cur, T, h => by
    obtain ⟨cur', h1, h2⟩ := setCells_block g r (o + 1) (w.setCell ⟨g, o, none⟩ v) _ T (heap_setCell_same w g o cur T v h)
    exact ⟨cur', by rw [World.setCells]; exact h1, by rw [h2, Array.size_setIfInBounds]⟩
theorem own_mk {w : World} {base g n cap : Nat} {T : TypeId} {cur : Array Value} {xs : List Value} (hl : xs.length = n * 4) (hb : base ≤ g) (hh : w.heap[g]? = some (.cells cur T (0, 0))) (hn : n ≤ cap) (hm : cap ≤ maxLen) (hs : cur.size = cap * 4)
    (h : ∀ t u, xs[t]? = some u → w.cell? ⟨g, t, none⟩ = some u) : w.ownsRow base T 4 (.slice (some ⟨g, 0, none⟩) n cap) n xs := by
  refine ⟨hl, .inr ⟨g, cap, cur, rfl, hb, hh, hn, hm, hs, ?_⟩⟩
  apply List.ext_getElem?
  intro t
  by_cases ht : t < n * 4
  · have hu := List.getElem?_eq_getElem (l := xs) (i := t) (by omega)
    have := h t _ hu
    rw [Lib.cell_of_heap hh] at this
    rw [hu, List.getElem?_take_of_lt ht, Array.getElem?_toList, this]
  · rw [List.getElem?_eq_none (by rw [List.length_take]; omega), List.getElem?_eq_none (by omega)]

set_option maxRecDepth 100000 in
set_option maxHeartbeats 1000000 in
theorem pDelete {w : World} {base n : Nat} {g cap : Nat} {l : List Fld} (h : w.ownsRow base 46 4 (.slice (some ⟨g, 0, none⟩) n cap) n (flatE fldE l)) (hn1 : n ≤ 1000) (i j : Nat) (hi : i < n) (hij : j = i + 1) :
    Calls Tryd.prog 44 #[.slice (some ⟨g, 0, none⟩) n cap, .int .i64 i, .int .i64 j] w fun e w' => e = .returned (.slice (some ⟨g, 0, none⟩) (n - 1) cap) ∧ w'.ownsRow base 46 4 (.slice (some ⟨g, 0, none⟩) (n - 1) cap) (n - 1) (flatE fldE (l.eraseIdx i)) ∧ ∀ B a, Below B a w → B ≤ g → Below B a w' := by
  obtain ⟨i0, hi0, hz0, hz1, hz2⟩ := info_parts infoFld
  have hij2 : j ≤ i + 1 ∧ i + 1 ≤ j := by omega
  have HIJ := Lib.hid hij
  clear hij
  have hn : n = l.length := by have := h.1; rw [flatE_len fldE_len] at this; omega
  have hp := Rows.of_own fldE_len h hn
  have hcap : n ≤ cap ∧ cap ≤ maxLen ∧ g < w.heap.size := by
    rcases h.2 with ⟨h0, -⟩ | ⟨g', cap', cur, he, hb, hh, hc, hm, -⟩
    · cases h0
    · cases he; exact ⟨hc, hm, (Array.getElem?_eq_some_iff.1 hh).1⟩
  have hfr : ∀ j, w.frozen? ⟨g, j, none⟩ = false := by
    rcases h.2 with ⟨h0, -⟩ | ⟨g', cap', cur, he, hb, hh, hc, hm, -⟩
    · cases h0
    · cases he; intro j; simp [World.frozen?, hh]
  have hcell : ∀ t u, (flatE fldE l)[t]? = some u → w.cell? ⟨g, t, none⟩ = some u := by
    intro t u ht
    have := Rows.cells fldE_len (by decide) hp t u ht
    rwa [Addr.add_lit, Nat.zero_add] at this
  have hsome : ∀ t, t < n * 4 → (w.cell? ⟨g, t, none⟩).isSome = true := by
    intro t ht
    obtain ⟨u, hu⟩ : ∃ u, (flatE fldE l)[t]? = some u := ⟨_, List.getElem?_eq_getElem (by rw [flatE_len fldE_len]; omega)⟩
    rw [hcell t u hu]; rfl
  obtain ⟨news, hnews⟩ : ∃ news, news = flatE fldE (l.drop j) := ⟨_, rfl⟩
  have hnl : news.length = (n - j) * 4 := by rw [hnews, flatE_len fldE_len, List.length_drop, hn]
  have hsplit : ∀ k, k ≤ n → flatE fldE l = flatE fldE (l.take k) ++ flatE fldE (l.drop k) := fun k _ => by rw [← flatE_append, List.take_append_drop]
  have hdrop : ∀ t, (flatE fldE (l.drop j))[t]? = (flatE fldE l)[j * 4 + t]? := by
    intro t
    rw [hsplit j (by omega), List.getElem?_append_right (by rw [flatE_len fldE_len, List.length_take]; omega), flatE_len fldE_len, List.length_take, show j * 4 + t - min j l.length * 4 = t by omega]
  obtain ⟨W1, hW1⟩ : ∃ W1, W1 = w.drew.setCells g (0 + i * 4) news := ⟨_, rfl⟩
  have hin1 : ∀ t, t < news.length → (w.drew.cell? ⟨g, 0 + i * 4 + t, none⟩).isSome = true := by
    intro t ht
    show (w.cell? _).isSome = true
    exact hsome _ (by omega)
  have hW1s : ∀ t, t < n * 4 → (W1.cell? ⟨g, t, none⟩).isSome = true := by
    intro t ht
    rw [hW1]
    exact some_setCells g news _ _ hin1 t (hsome t ht)
  have hW1f : ∀ t, W1.frozen? ⟨g, t, none⟩ = false := by
    intro t
    rw [hW1, World.frozen?_setCells]
    exact hfr t
  have hcl : ∀ ty, (Builtin.clear_ #[29] ty #[.slice (some ⟨g, (i + (n - j)) * 4, none⟩) (n - (i + (n - j))) (cap - (i + (n - j)))]).run Tryd.prog W1 = .ok (.tuple #[]) (W1.setCells g ((i + (n - j)) * 4) (fldE zfld)) := fun ty =>
    run_clear_one W1 _ _ ty _ (fldE zfld) Tryd.underlying29 Tryd.zeroValue46 zfld_cells (fldE_one _) g _ _ _ (by omega) (fun t ht => hW1s _ (by rw [fldE_len] at ht; omega)) (fun t _ => hW1f _)
  obtain ⟨W2, hW2⟩ : ∃ W2, W2 = W1.setCells g ((i + (n - j)) * 4) (fldE zfld) := ⟨_, rfl⟩
  rw [← hW2] at hcl
  obtain ⟨cur0, hb0, hk0, hs0⟩ : ∃ cur0, base ≤ g ∧ w.drew.heap[g]? = some (.cells cur0 46 (0, 0)) ∧ cur0.size = cap * 4 := by
    rcases h.2 with ⟨h0, -⟩ | ⟨g', cap', cur, he, hb, hh, hc, hm, hsz, -⟩
    · cases h0
    · cases he; exact ⟨cur, hb, hh, hsz⟩
  obtain ⟨cur1, hk1, hs1⟩ := setCells_block g news (0 + i * 4) w.drew cur0 _ hk0
  rw [← hW1] at hk1
  obtain ⟨cur2, hk2, hs2⟩ := setCells_block g (fldE zfld) ((i + (n - j)) * 4) W1 cur1 _ hk1
  rw [← hW2] at hk2
  have hblk0 : base ≤ g := hb0
  have hblk1 := hk2
  have hblk2 : cur2.size = cap * 4 := by rw [hs2, hs1, hs0]
  have hfin : W2.ownsRow base 46 4 (.slice (some ⟨g, 0, none⟩) (n - 1) cap) (n - 1) (flatE fldE (l.eraseIdx i)) ∧ ∀ B a, Below B a w → B ≤ g → Below B a W2 := by
    constructor
    · refine own_mk (by rw [flatE_len fldE_len, List.length_eraseIdx_of_lt (by omega)]; congr 1; omega) hblk0 hblk1 (by omega) hcap.2.1 hblk2 ?_
      intro t u ht
      have hlt : t < (n - 1) * 4 := by
        have := (List.getElem?_eq_some_iff.1 ht).1
        rw [flatE_len fldE_len, List.length_eraseIdx_of_lt (by omega)] at this
        omega
      rw [List.eraseIdx_eq_take_drop_succ, flatE_append] at ht
      rw [hW2, World.cell?_setCells_out _ _ _ _ _ (fun _ _ => .inl (by show t < _; omega)), hW1]
      by_cases hti : t < i * 4
      · rw [World.cell?_setCells_out _ _ _ _ _ (fun _ _ => .inl (by show t < _; omega))]
        refine hcell t u ?_
        rw [List.getElem?_append_left (by rw [flatE_len fldE_len, List.length_take]; omega)] at ht
        rw [hsplit i (by omega), List.getElem?_append_left (by rw [flatE_len fldE_len, List.length_take]; omega)]
        exact ht
      · rw [List.getElem?_append_right (by rw [flatE_len fldE_len, List.length_take]; omega), flatE_len fldE_len, List.length_take, show i + 1 = j by omega, ← hnews] at ht
        obtain ⟨hk, hu⟩ := List.getElem?_eq_some_iff.1 ht
        have := World.cell?_setCells_in g news (0 + i * 4) w.drew hin1 _ hk
        rw [show 0 + i * 4 + (t - min i l.length * 4) = t by omega, hu] at this
        exact this
    · intro B a hb hB
      rw [hW2, hW1]
      exact below_setCells hB _ _ _ (below_setCells hB _ _ _ hb.drew)
  obtain ⟨A, hA, hX⟩ : ∃ A : Addr, (if cap = j then some (⟨g, 0, none⟩ : Addr) else some ⟨g, j * 4, none⟩) = some A ∧ Hid (∀ t u, news[t]? = some u → w.drew.cell? (A.add t) = some u) := by
    by_cases h : cap = j
    · refine ⟨⟨g, 0, none⟩, by simp [h], Lib.hid fun t u hu => ?_⟩
      have := (List.getElem?_eq_some_iff.1 hu).1
      omega
    · refine ⟨⟨g, j * 4, none⟩, by simp [h], Lib.hid fun t u hu => ?_⟩
      rw [Addr.add_lit]
      show w.cell? _ = _
      rw [hnews, hdrop] at hu
      exact hcell _ u hu
  have s1 := Lib.hid hnl
  have s2 : Hid (∀ u ∈ news, u.oneCell' = true) := Lib.hid (by rw [hnews]; exact flatE_one fldE_one _)
  have s3 : Hid (∀ t, t < news.length → (w.drew.cell? ⟨g, 0 + i * 4 + t, none⟩).isSome = true ∧ w.drew.frozen? ⟨g, 0 + i * 4 + t, none⟩ = false) := Lib.hid fun t ht => ⟨hin1 t ht, hfr _⟩
  have HI := Lib.hid hi0; have HZ1 := Lib.hid hz1
  have hcapz := hcap.2.1
  have hci : i ≤ cap := by omega
  have hjn : j ≤ n := by omega
  have hijz : (i : Int) < (j : Int) := by omega
  have hne : ((i : Int) == (j : Int)) = false := by rw [beq_eq_false_iff_ne]; omega
  have hci1 : j ≤ cap := by omega
  have hcin : ¬ (cap = i + (n - j)) := by omega
  have HF := Lib.hid hfin
  have HW := Lib.hid hW1
  have hnn1 : i + (n - j) = n - 1 := by omega
  have HNN := Lib.hid hnn1
  have hin2 : i + (n - j) ≤ n := by omega
  clear hi0 hz0 hz1 hz2 hp hcell hdrop hnews hnl hfr h hn hfin hW1 hW2 hsome hsplit hin1 hW1s hW1f hnn1 hb0 hk0 hs0 hk1 hs1 hk2 hs2 hblk0 hblk1 hblk2
  go_enter Tryd.func44, Tryd.ntmps44
  go_wp2_with fail
  go_region_law (refine step_append_room rfl (.tmp 22) (.tmp 25) 29 rfl 46 i0 4 Tryd.underlying29 HI.out HZ1.out g 0 i cap (by simp [Act.eval, Act.put]) A (n - j) (cap - j) news (by simp [Act.eval, Act.put]) s1.out hX.out s2.out (by omega) s3.out ?_; rw [← HW.out])
  go_wp2
  go_ret
  refine ⟨by rw [HNN.out]; rfl, HF.out.1, HF.out.2⟩
end Go.Proofs.YtcdlgmncalmihaaDoor
