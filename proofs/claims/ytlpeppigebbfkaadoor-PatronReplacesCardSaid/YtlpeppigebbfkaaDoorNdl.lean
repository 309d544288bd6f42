/- The walk of slices.Delete at patrons (layer 28). -/
import Derived.Test.YtlpeppigebbfkaaDoorNst
namespace Go.Proofs.YtlpeppigebbfkaaDoor
open Go Go.RowKit

set_option maxRecDepth 100000 in
set_option maxHeartbeats 1000000 in
theorem pDelete {w : World} {base n : Nat} {g cap : Nat} {l : List Pat} (h : w.ownsRow base 28 6 (.slice (some ⟨g, 0, none⟩) n cap) n (pcells l)) (hn1 : n ≤ 1000) (i j : Nat) (hi : i < n) (hij : j = i + 1) :
    Calls Tryd.prog 46 #[.slice (some ⟨g, 0, none⟩) n cap, .int .i64 i, .int .i64 j] w fun e w' => e = .returned (.slice (some ⟨g, 0, none⟩) (n - 1) cap) ∧ Pats w' (.slice (some ⟨g, 0, none⟩) (n - 1) cap) (l.eraseIdx i) ∧ ∀ B a, Below B a w → B ≤ g → Below B a w' := by
  obtain ⟨i0, hi0, hz0, hz1, hz2⟩ := info_parts infoPat
  have hij2 : j ≤ i + 1 ∧ i + 1 ≤ j := by omega
  have HIJ := Lib.hid hij
  clear hij
  have hn : n = l.length := by have := h.1; rw [pcells_len] at this; omega
  have hp := Pats.of_own h hn
  have hcap : n ≤ cap ∧ cap ≤ maxLen ∧ g < w.heap.size := by
    rcases h.2 with ⟨h0, -⟩ | ⟨g', cap', cur, he, hb, hh, hc, hm, -⟩
    · cases h0
    · cases he; exact ⟨hc, hm, (Array.getElem?_eq_some_iff.1 hh).1⟩
  have hfr : ∀ j, w.frozen? ⟨g, j, none⟩ = false := by
    rcases h.2 with ⟨h0, -⟩ | ⟨g', cap', cur, he, hb, hh, hc, hm, -⟩
    · cases h0
    · cases he; intro j; simp [World.frozen?, hh]
  have hcell : ∀ t u, (pcells l)[t]? = some u → w.cell? ⟨g, t, none⟩ = some u := by
    intro t u ht
    have := hp.cells rfl t u ht
    rwa [Addr.add_lit, Nat.zero_add] at this
  have hsome : ∀ t, t < n * 6 → (w.cell? ⟨g, t, none⟩).isSome = true := by
    intro t ht
    obtain ⟨u, hu⟩ : ∃ u, (pcells l)[t]? = some u := ⟨_, List.getElem?_eq_getElem (by rw [pcells_len]; omega)⟩
    rw [hcell t u hu]; rfl
  obtain ⟨news, hnews⟩ : ∃ news, news = pcells (l.drop j) := ⟨_, rfl⟩
  have hnl : news.length = (n - j) * 6 := by rw [hnews, pcells_len, List.length_drop, hn]
  have hsplit : ∀ k, k ≤ n → pcells l = pcells (l.take k) ++ pcells (l.drop k) := fun k _ => by rw [← pcells_append, List.take_append_drop]
  have hdrop : ∀ t, (pcells (l.drop j))[t]? = (pcells l)[j * 6 + t]? := by
    intro t
    rw [hsplit j (by omega), List.getElem?_append_right (by rw [pcells_len, List.length_take]; omega), pcells_len, List.length_take, show j * 6 + t - min j l.length * 6 = t by omega]
  obtain ⟨W1, hW1⟩ : ∃ W1, W1 = w.drew.setCells g (0 + i * 6) news := ⟨_, rfl⟩
  have hin1 : ∀ t, t < news.length → (w.drew.cell? ⟨g, 0 + i * 6 + t, none⟩).isSome = true := by
    intro t ht
    show (w.cell? _).isSome = true
    exact hsome _ (by omega)
  have hW1s : ∀ t, t < n * 6 → (W1.cell? ⟨g, t, none⟩).isSome = true := by
    intro t ht
    rw [hW1]
    exact some_setCells g news _ _ hin1 t (hsome t ht)
  have hW1f : ∀ t, W1.frozen? ⟨g, t, none⟩ = false := by
    intro t
    rw [hW1, World.frozen?_setCells]
    exact hfr t
  have hcl : ∀ ty, (Builtin.clear_ #[22] ty #[.slice (some ⟨g, (i + (n - j)) * 6, none⟩) (n - (i + (n - j))) (cap - (i + (n - j)))]).run Tryd.prog W1 = .ok (.tuple #[]) (W1.setCells g ((i + (n - j)) * 6) zpat.enc) := fun ty =>
    run_clear_one W1 _ _ ty _ zpat.enc Tryd.underlying22 Tryd.zeroValue28 zpat_cells (enc_one _) g _ _ _ (by omega) (fun t ht => hW1s _ (by rw [enc_len] at ht; omega)) (fun t _ => hW1f _)
  obtain ⟨W2, hW2⟩ : ∃ W2, W2 = W1.setCells g ((i + (n - j)) * 6) zpat.enc := ⟨_, rfl⟩
  rw [← hW2] at hcl
  have hfin : Pats W2 (.slice (some ⟨g, 0, none⟩) (n - 1) cap) (l.eraseIdx i) ∧ ∀ B a, Below B a w → B ≤ g → Below B a W2 := by
    constructor
    · refine Pats.mk_cells (by rw [List.length_eraseIdx_of_lt (by omega)]; omega) (by omega) (by rw [hW2, size_setCells, hW1, size_setCells]; exact hcap.2.2) ?_
      intro t u ht
      have hlt : t < (n - 1) * 6 := by
        have := (List.getElem?_eq_some_iff.1 ht).1
        rw [pcells_len, List.length_eraseIdx_of_lt (by omega)] at this
        omega
      rw [List.eraseIdx_eq_take_drop_succ, pcells_append] at ht
      rw [hW2, World.cell?_setCells_out _ _ _ _ _ (fun _ _ => .inl (by show t < _; omega)), hW1]
      by_cases hti : t < i * 6
      · rw [World.cell?_setCells_out _ _ _ _ _ (fun _ _ => .inl (by show t < _; omega))]
        refine hcell t u ?_
        rw [List.getElem?_append_left (by rw [pcells_len, List.length_take]; omega)] at ht
        rw [hsplit i (by omega), List.getElem?_append_left (by rw [pcells_len, List.length_take]; omega)]
        exact ht
      · rw [List.getElem?_append_right (by rw [pcells_len, List.length_take]; omega), pcells_len, List.length_take, show i + 1 = j by omega, ← hnews] at ht
        obtain ⟨hk, hu⟩ := List.getElem?_eq_some_iff.1 ht
        have := World.cell?_setCells_in g news (0 + i * 6) w.drew hin1 _ hk
        rw [show 0 + i * 6 + (t - min i l.length * 6) = t by omega, hu] at this
        exact this
    · intro B a hb hB
      rw [hW2, hW1]
      exact below_setCells hB _ _ _ (below_setCells hB _ _ _ hb.drew)
  obtain ⟨A, hA, hX⟩ : ∃ A : Addr, (if cap = j then some (⟨g, 0, none⟩ : Addr) else some ⟨g, j * 6, none⟩) = some A ∧ Hid (∀ t u, news[t]? = some u → w.drew.cell? (A.add t) = some u) := by
    by_cases h : cap = j
    · refine ⟨⟨g, 0, none⟩, by simp [h], Lib.hid fun t u hu => ?_⟩
      have := (List.getElem?_eq_some_iff.1 hu).1
      omega
    · refine ⟨⟨g, j * 6, none⟩, by simp [h], Lib.hid fun t u hu => ?_⟩
      rw [Addr.add_lit]
      show w.cell? _ = _
      rw [hnews, hdrop] at hu
      exact hcell _ u hu
  have s1 := Lib.hid hnl
  have s2 : Hid (∀ u ∈ news, u.oneCell' = true) := Lib.hid (by rw [hnews]; exact pcells_one _)
  have s3 : Hid (∀ t, t < news.length → (w.drew.cell? ⟨g, 0 + i * 6 + t, none⟩).isSome = true ∧ w.drew.frozen? ⟨g, 0 + i * 6 + t, none⟩ = false) := Lib.hid fun t ht => ⟨hin1 t ht, hfr _⟩
  have HI := Lib.hid hi0; have HZ1 := Lib.hid hz1
  have hcapz := hcap.2.1
  have hci : i ≤ cap := by omega
  have hjn : j ≤ n := by omega
  have hijz : (i : Int) < (j : Int) := by omega
  have hne : ((i : Int) == (j : Int)) = false := by rw [beq_eq_false_iff_ne]; omega
  have hci1 : j ≤ cap := by omega
  have hcin : ¬ (cap = i + (n - j)) := by omega
  have HF := Lib.hid hfin
  have HW := Lib.hid hW1
  have hnn1 : i + (n - j) = n - 1 := by omega
  have HNN := Lib.hid hnn1
  have hin2 : i + (n - j) ≤ n := by omega
  clear hi0 hz0 hz1 hz2 hp hcell hdrop hnews hnl hfr h hn hfin hW1 hW2 hsome hsplit hin1 hW1s hW1f hnn1
  go_enter Tryd.func46, Tryd.ntmps46
  go_wp2_with fail
  go_region_law (refine step_append_room rfl (.tmp 22) (.tmp 25) 22 rfl 28 i0 6 Tryd.underlying22 HI.out HZ1.out g 0 i cap (by simp [Act.eval, Act.put]) A (n - j) (cap - j) news (by simp [Act.eval, Act.put]) s1.out hX.out s2.out (by omega) s3.out ?_; rw [← HW.out])
  go_wp2
  go_ret
  refine ⟨by rw [HNN.out]; rfl, HF.out.1, HF.out.2⟩
end Go.Proofs.YtlpeppigebbfkaaDoor
