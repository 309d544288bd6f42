/- Sorting (layer 2): the walks of SortStableFunc, Clone and Sort. -/
import Derived.Test.YtieapjdkbigejaaDoorQt
namespace Go.Proofs.YtieapjdkbigejaaDoor
open Go Go.RowKit

/-- The texts of a list, as strings. -/
def tbs (l : List (List Nat)) : List ByteArray := l.map bs
theorem tbs_len (l : List (List Nat)) : (tbs l).length = l.length := by simp [tbs]
theorem tbs_at {l : List (List Nat)} {j : Nat} {x : List Nat} (h : l[j]? = some x) : (tbs l)[j]? = some (bs x) := by simp [tbs, h]
/-- Texts of moderate size. -/
def Good (l : List (List Nat)) : Prop := ∀ x ∈ l, okt x = true ∧ (bs x).size ≤ 300
theorem Good.perm {a b : List (List Nat)} (h : Good a) (p : b.Perm a) : Good b := fun x hx => h x (p.subset hx)

/-- Clone at a slice that is nil. -/
theorem sCloneNil (c : Nat) (w : World) : Calls Tryd.prog 42 #[.slice none 0 c] w fun e w' => e = .returned (.slice none 0 0) ∧ w' = w := by
  have q := fun (w : World) (a : Option Addr) (n c n' c' : Nat) => Lib.run_eql_slice_nil (P := Tryd.prog) w 23 9 a n c n' c' Tryd.underlying23
  go_enter Tryd.func42, Tryd.ntmps42
  go_wp2
  go_ret
  exact ⟨rfl, rfl⟩
set_option maxRecDepth 100000 in
set_option maxHeartbeats 2000000 in
/-- Clone at a slice that is not: a row of the call's own. -/
theorem sClone (ad : Addr) (c : Nat) (xs : List ByteArray) (w : World) (hn : xs.length ≤ 1000) (hc : ∀ j x, xs[j]? = some x → w.cell? (ad.add j) = some (.string x)) :
    Calls Tryd.prog 42 #[.slice (some ad) xs.length c] w fun e w' => ∃ v', e = .returned v' ∧ w'.ownsRow w.heap.size 9 1 v' xs.length (xs.map Value.string) ∧ v' ≠ .slice none 0 0 ∧ Below w.heap.size w w' := by
  have q := fun (w : World) (a : Option Addr) (n c n' c' : Nat) => Lib.run_eql_slice_nil (P := Tryd.prog) w 23 9 a n c n' c' Tryd.underlying23
  obtain ⟨i0, hi, hz0, hz1, hz2⟩ := info_parts infoStr
  have HI := Lib.hid hi; have HZ0 := Lib.hid hz0; have HZ1 := Lib.hid hz1; have HZ2 := Lib.hid hz2
  have HC := Lib.hid hc
  have HN := Lib.hid hn
  obtain ⟨n, hnn⟩ : ∃ n, n = xs.length := ⟨_, rfl⟩
  have HNN := Lib.hid hnn
  rw [← hnn]
  clear hi hz0 hz1 hz2 hc hnn hn
  go_enter Tryd.func42, Tryd.ntmps42
  go_wp2_with (at_builtin; refine wpList_append_own _ rfl _ _ 23 rfl w.heap.size 9 i0 (.string ⟨#[]⟩) 1 16 Tryd.underlying23 HI.out HZ0.out HZ1.out HZ2.out rfl (by decide) _ _ _ rfl (World.ownsRow_made w #[] 0 (Nat.le_refl _) (Nat.zero_le _) (by simp)) ad n c (xs.map Value.string) rfl ?qc1 ?qc2 ?qc3 ?qc4 ?qc5 ?qc6 ?_)
  case qc1 => rw [HNN.out]; simp
  case qc2 =>
    intro j u hj
    obtain ⟨x, hx, rfl⟩ : ∃ x, xs[j]? = some x ∧ Value.string x = u := by
      rw [List.getElem?_map] at hj
      cases h : xs[j]? with
      | none => rw [h] at hj; cases hj
      | some x => rw [h] at hj; exact ⟨x, rfl, Option.some.inj hj⟩
    exact Lib.cell?_alloc_some _ (HC.out j x hx)
  case qc3 => simp [Value.oneCell']
  case qc4 => have := HN.out; have := HNN.out; unfold maxLen; omega
  case qc5 => have := HN.out; have := HNN.out; omega
  case qc6 => simp
  intro v' w1 hown hgrow hnil
  go_wp2
  go_ret
  refine ⟨v', rfl, by simpa using hown, ?_, ?_⟩
  · exact hnil
  · exact ((Below.refl _ w).alloc (Nat.le_refl _) _).grown hgrow (by simp) (by intro k hk; simp [Value.ownBlock] at hk; omega)

set_option maxRecDepth 100000 in
set_option maxHeartbeats 2000000 in
theorem sSortStable {w0 w : World} {blk cl : Nat} {lang : ByteArray} {l : List (List Nat)} (h : SInv w0 blk cl lang w l) (hE : Env w0) (n cap : Nat) (hn : n = l.length) (h40 : n ≤ 40) :
    Calls Tryd.prog 43 #[.slice (some ⟨blk, 0, none⟩) n cap, .func (.func 44) #[] #[.pointer (some ⟨cl, 0, none⟩)]] w fun e w' =>
      e = .returned (.tuple #[]) ∧ ∃ l', SInv w0 blk cl lang w' l' ∧ l'.Perm l ∧ SortedK (lcode lang) l' := by
  have HC := Lib.hid (sStable h hE n cap hn h40)
  clear h hE hn
  go_enter Tryd.func43, Tryd.ntmps43
  go_wp2_with fail
  refine HC.out.mono ?_
  rintro e w1 ⟨rfl, l', h1, h2, h3⟩
  go_wp2
  go_end0
  exact ⟨rfl, l', h1, h2, h3⟩
set_option maxRecDepth 100000 in
set_option maxHeartbeats 2000000 in
theorem sSortStable0 (a : Option Addr) (c : Nat) (fv : Value) (w : World) :
    Calls Tryd.prog 43 #[.slice a 0 c, fv] w fun e w' => e = .returned (.tuple #[]) ∧ w' = w := by
  have HC := Lib.hid (sStable0 (.slice a 0 c) fv w)
  go_enter Tryd.func43, Tryd.ntmps43
  go_wp2_with fail
  refine HC.out.mono ?_
  rintro e w1 ⟨rfl, rfl⟩
  go_wp2
  go_end0
  exact ⟨rfl, rfl⟩

/-- A fresh row holds what the sort wants. -/
theorem SInv.start {w w1 w2 : World} {lang : ByteArray} {l : List (List Nat)} {v : Value} (hb1 : w1 = w.alloc (.cells #[.string lang] 9)) (hown : w2.ownsRow w1.heap.size 9 1 v l.length ((tbs l).map Value.string)) (hnil : v ≠ .slice none 0 0) (hb2 : Below w1.heap.size w1 w2) (hg : Good l) :
    ∃ g cap, v = .slice (some ⟨g, 0, none⟩) l.length cap ∧ l.length ≤ cap ∧ SInv w g w.heap.size lang w2 l := by
  rcases hown.2 with ⟨h0, -⟩ | ⟨g, cap, cur, rfl, hbg, hh, hc, -, -, ht⟩
  · exact absurd h0 hnil
  · have hs1 : w1.heap.size = w.heap.size + 1 := by rw [hb1, World.size_alloc]
    refine ⟨g, cap, rfl, hc, ?_⟩
    refine ⟨?_, ?_, ?_, by omega, (Array.getElem?_eq_some_iff.1 hh).1, by omega, ?_, hg⟩
    · refine Below.trans (b := w1) ?_ (hb2.mono (by omega))
      rw [hb1]
      exact (Below.refl _ _).alloc (Nat.le_refl _) _
    · rw [hb2.cell (p := ⟨w.heap.size, 0, none⟩) (by show w.heap.size < w1.heap.size; omega), hb1, Lib.cell_of_heap (heap_alloc_new w _)]
      rfl
    · have := hb2.size
      omega
    · intro j x hx
      rw [Nat.mul_one] at ht
      refine ⟨?_, by simp [World.frozen?, hh]⟩
      have hj : j < l.length := (List.getElem?_eq_some_iff.1 hx).1
      have h1 : (cur.toList.take l.length)[j]? = ((tbs l).map Value.string)[j]? := by rw [ht]
      rw [List.getElem?_take_of_lt hj, List.getElem?_map, tbs_at hx] at h1
      rw [Lib.cell_of_heap hh, ← Array.getElem?_toList, h1]
      rfl
theorem SInv.strs {w0 w : World} {blk cl : Nat} {lang : ByteArray} {l : List (List Nat)} (h : SInv w0 blk cl lang w l) (cap : Nat) (hc : l.length ≤ cap) : Strs w (.slice (some ⟨blk, 0, none⟩) l.length cap) (tbs l) := by
  refine ⟨some ⟨blk, 0, none⟩, cap, by rw [tbs_len], by rw [tbs_len]; exact hc, .inr ⟨blk, 0, rfl, h.bl, fun j x hj => ?_⟩⟩
  unfold tbs at hj
  rw [List.getElem?_map] at hj
  cases hx : l[j]? with
  | none => rw [hx] at hj; cases hj
  | some y =>
    rw [hx] at hj
    cases hj
    rw [Nat.zero_add]
    exact (h.hold j y hx).1

set_option maxRecDepth 100000 in
set_option maxHeartbeats 2000000 in
theorem pSort (lang : ByteArray) (v : Value) (l : List (List Nat)) (w : World) (hE : Env w) (hv : Strs w v (tbs l)) (hg : Good l) (h40 : l.length ≤ 40) :
    Calls Tryd.prog 23 #[.string lang, v] w fun e w' => ∃ l', RetStrs w (tbs l') e w' ∧ l'.Perm l ∧ SortedK (lcode lang) l' := by
  obtain ⟨a, c, rfl, hc, hcells⟩ := hv
  obtain ⟨w1, hw1⟩ : ∃ w1, w1 = w.alloc (.cells #[.string lang] 9) := ⟨_, rfl⟩
  have hB1 : Below w.heap.size w w1 := by rw [hw1]; exact (Below.refl _ _).alloc (Nat.le_refl _) _
  by_cases h0 : a = none
  · subst h0
    have hl : l = [] := by
      rcases hcells with h | ⟨b, o, h, -⟩
      · simpa [tbs] using h
      · cases h
    subst hl
    have H1 := Lib.hid (sCloneNil c w1)
    have H2 := fun fv => sSortStable0 none 0 fv w1
    have HH2 := Lib.hid H2
    have HW := Lib.hid hw1
    have HB := Lib.hid hB1
    clear hcells hE hc hg h40 hB1 H2
    simp only [tbs, List.map_nil, List.length_nil]
    go_enter Tryd.func23, Tryd.ntmps23
    go_wp2_with fail
    rw [← HW.out]
    refine H1.out.mono ?_
    rintro e w2 ⟨rfl, rfl⟩
    go_wp2_with fail
    rw [← HW.out]
    refine (HH2.out _).mono ?_
    rintro e w3 ⟨rfl, rfl⟩
    go_wp2
    go_ret
    exact ⟨[], ⟨_, rfl, ⟨none, 0, rfl, by simp, .inl rfl⟩, by rw [← HW.out]; exact HB.out⟩, List.Perm.refl _, List.Pairwise.nil⟩
  · obtain ⟨ad, rfl⟩ : ∃ p, a = some p := by
      cases a with
      | none => exact absurd rfl h0
      | some p => exact ⟨p, rfl⟩
    have hcl : ∀ j x, (tbs l)[j]? = some x → w1.cell? (ad.add j) = some (.string x) := by
      intro j x hx
      rcases hcells with h | ⟨b, o, h, hb, hc⟩
      · rw [h] at hx; cases hx
      · cases h
        rw [Addr.add_lit]
        exact (hB1.cell (p := ⟨b, o + j, none⟩) hb).trans (hc j x hx)
    have hC := sClone ad c (tbs l) w1 (by rw [tbs_len]; omega) hcl
    rw [tbs_len] at hC ⊢
    have HC := Lib.hid hC
    have HW := Lib.hid hw1
    have HB := Lib.hid hB1
    have HE := Lib.hid hE
    have HG := Lib.hid hg
    obtain ⟨n, hn⟩ : ∃ n, n = l.length := ⟨_, rfl⟩
    rw [← hn] at h40 HC ⊢
    have HN := Lib.hid hn
    clear hC hcl hcells hB1 hE hg hn hc
    go_enter Tryd.func23, Tryd.ntmps23
    go_wp2_with fail
    rw [← HW.out]
    refine HC.out.mono ?_
    rintro e w2 ⟨v', rfl, hown, hnil, b2⟩
    rw [HN.out] at hown
    obtain ⟨g, cap, rfl, hcap, hS⟩ := SInv.start HW.out hown hnil b2 HG.out
    have hst := sSortStable hS HE.out l.length cap rfl (by rw [← HN.out]; exact h40)
    have HS := Lib.hid hst
    have HCAP := Lib.hid hcap
    clear hown hnil b2 hS hst hcap
    rw [← HN.out] at HS ⊢
    go_wp2_with fail
    refine HS.out.mono ?_
    rintro e w3 ⟨rfl, l', h1, h2, h3⟩
    have HF := Lib.hid (And.intro h1 (And.intro h2 h3))
    clear h1 h2 h3
    go_wp2
    go_ret
    refine ⟨l', ⟨_, rfl, ?_, HF.out.1.below⟩, HF.out.2.1, HF.out.2.2⟩
    have hle := HF.out.2.1.length_eq
    rw [HN.out, ← hle]
    exact HF.out.1.strs cap (by rw [hle]; exact HCAP.out)
end Go.Proofs.YtieapjdkbigejaaDoor
