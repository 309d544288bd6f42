/- The walk of record.Sorted (layer 08). -/
import Derived.Test.YtkfjeolpbopcnaaGreatDoorVt
import Derived.Test.YtkfjeolpbopcnaaGreatDoorEc
import Derived.Test.YtkfjeolpbopcnaaGreatDoorEa
namespace Go.Proofs.YtkfjeolpbopcnaaGreatDoor
open Go Go.RowKit

theorem both_set {B : Nat} {a w : World} (h : Below B a w) (p : Addr) (u : Value) : Below B (a.setCell p u) (w.setCell p u) := by
  refine ⟨h.os, h.tape, h.output, by rw [World.size_setCell, World.size_setCell]; exact h.size, fun k hk => ?_⟩
  simp only [World.setCell, Array.getElem?_modify, h.block k hk]
theorem SInv.both {w0 w1 : World} {g : Nat} {l : List Fld} (h : SInv w0 g w1 l) {n : Nat} (hn : n < w0.heap.size) (j : Nat) (u : Value) (hg : ∀ f ∈ l, FldAt (w0.setCell ⟨n, j, none⟩ u) f) : SInv (w0.setCell ⟨n, j, none⟩ u) g (w1.setCell ⟨n, j, none⟩ u) l := by
  have hne : n ≠ g := by have := h.b0; omega
  refine ⟨by rw [World.size_setCell]; exact both_set h.below _ _, by rw [World.size_setCell]; exact h.bl, by rw [World.size_setCell]; exact h.b0, fun i x hx => ?_, fun t => by rw [World.frozen?_setCell]; exact h.frz t, hg⟩
  obtain ⟨c0, c1, c2, c3⟩ := h.hold i x hx
  exact ⟨(cell_away (.inl hne)).trans c0, (cell_away (.inl hne)).trans c1, (cell_away (.inl hne)).trans c2, (cell_away (.inl hne)).trans c3⟩
theorem SInv.start {w0 w1 : World} {v : Value} {l : List Fld} (h : OwnF w1 w0.heap.size v l) (hb : Below w0.heap.size w0 w1) (hg : ∀ f ∈ l, FldAt w0 f) :
    (v = .slice none 0 0 ∧ l = []) ∨ ∃ g cap, v = .slice (some ⟨g, 0, none⟩) l.length cap ∧ l.length ≤ cap ∧ SInv w0 g w1 l := by
  have hr := h.rows fldE_len
  rcases h with ⟨rfl, rfl⟩ | ⟨g, cap, sp, rfl, h2, h3, h4, -⟩
  · exact .inl ⟨rfl, rfl⟩
  · refine .inr ⟨g, cap, rfl, by rw [← h4, List.length_append]; omega, hb, (Array.getElem?_eq_some_iff.1 h3).1, h2, fun j x hx => ?_, fun t => ?_, hg⟩
    · obtain ⟨a, c, he, hc, hcl⟩ := hr
      cases he
      rcases hcl with h0 | ⟨b, o, ha, hb, hcl⟩
      · rw [h0] at hx; cases hx
      · cases ha
        have := four_of (hcl j x hx)
        rwa [Nat.zero_add] at this
    · unfold World.frozen?
      simp [h3]
theorem SInv.flds {w0 w : World} {g : Nat} {l : List Fld} (h : SInv w0 g w l) {W : World} (hk : ∀ b, b = g → W.heap[b]? = w.heap[b]?) (cap : Nat) (hc : l.length ≤ cap) : Rows fldE 4 W (.slice (some ⟨g, 0, none⟩) l.length cap) l := by
  refine ⟨_, cap, rfl, hc, .inr ⟨g, 0, rfl, ?_, fun j p hj i u hi => ?_⟩⟩
  · have := hk g rfl
    rw [Array.getElem?_eq_getElem h.bl] at this
    exact (Array.getElem?_eq_some_iff.1 this).1
  · rw [cell_heap (hk g rfl), Nat.zero_add]
    obtain ⟨c0, c1, c2, c3⟩ := h.hold j p hj
    have hi4 : i < 4 := by have := (List.getElem?_eq_some_iff.1 hi).1; rwa [fldE_len] at this
    rcases (by omega : i = 0 ∨ i = 1 ∨ i = 2 ∨ i = 3) with rfl | rfl | rfl | rfl
    · cases hi; exact c0
    · cases hi; exact c1
    · cases hi; exact c2
    · cases hi; exact c3
/-- A call returns a record. -/
def RetR1 (w : World) (r : Rec) (e : Ending) (w' : World) : Prop := ∃ (a : Option Addr) (c : Nat), e = .returned (recV5 ⟨r, a, c⟩) ∧ RcdAt w' ⟨r, a, c⟩ ∧ Below w.heap.size w w'
theorem ret1_at {fn : Func} {t : Tmp} (h : fn.results = #[.cell t 24]) {w W : World} {tmps : Array Value} {g : Nat} {T : TypeId} {r : Rec} {sa : Option Addr} {n sc : Nat} (hn : n = r.fields.length) (ht : tmps.getD t undef = .pointer (some ⟨g, 0, none⟩))
    (hg : W.heap[g]? = some (.cells #[.int .i64 r.id, .int .i64 r.ver, .int .i64 r.kind, .string r.lang, .slice sa n sc] T (0, 0))) (hb : Below w.heap.size w W) (hr : RcdAt W ⟨r, sa, sc⟩) : bodyPost Tryz.prog fn (RetR1 w r) .ret ⟨tmps, []⟩ W := by
  subst hn
  refine bodyPost_ret (results_r1 h tmps _ g r.id r.ver r.kind r.lang (.slice sa r.fields.length sc) ht hg) rfl ?_
  exact ⟨sa, sc, rfl, hr, hb⟩

set_option maxRecDepth 100000 in
set_option maxHeartbeats 4000000 in
theorem pSorted (x : Rcd) (w : World) (hE : Env w) (hx : RcdAt w x) (hl : x.r.fields.length ≤ 900) :
    Calls Tryz.prog 25 #[recV5 x] w (RetR1 w (withL x.r (sortR x.r.fields))) := by
  have HFL : Hid (∀ W, Below w.heap.size w W → Flds W (.slice x.sa x.r.fields.length x.sc) x.r.fields) := Lib.hid (fun W h => Flds.below hx h (Nat.le_refl _))
  have HEE := Lib.hid hE
  unfold recV5 withL
  obtain ⟨⟨id, ver, kind, lang, rf⟩, ra, rc⟩ := x
  simp only at HFL hl ⊢
  obtain ⟨rn, hrn⟩ : ∃ n, n = rf.length := ⟨_, rfl⟩
  rw [← hrn] at HFL hl ⊢
  have HRN := Lib.hid hrn
  obtain ⟨W0, hW0⟩ : ∃ W, W = (w.alloc (recO id ver kind lang ra rn rc)).alloc (recO 0 0 0 ⟨#[]⟩ none 0 0) := ⟨_, rfl⟩
  have hB0 : Below w.heap.size w W0 := by rw [hW0]; exact (Below.refl _ _).alloc2 (Nat.le_refl _) _ _
  have h0 : W0.heap[w.heap.size]? = some (recO id ver kind lang ra rn rc) := by rw [hW0]; exact (alloc_old (by simp)).trans (alloc_at rfl)
  have h1 : W0.heap[w.heap.size + 1]? = some (recO 0 0 0 ⟨#[]⟩ none 0 0) := by rw [hW0]; exact alloc_at (by simp)
  have hs0 : W0.heap.size = w.heap.size + 2 := by rw [hW0]; simp
  have HCL := Lib.hid (pClone _ rf W0 (HFL.out W0 hB0) (by omega))
  have HW0 := Lib.hid hW0
  have HB0 := Lib.hid hB0
  have H0 := Lib.hid h0
  have H1 := Lib.hid h1
  have HS0 := Lib.hid hs0
  have d4 := Lib.cell_of_heap h0 4
  rw [hW0] at d4
  clear hx hE hrn hW0 hB0 h0 h1 hs0
  go_enter Tryz.func25, Tryz.ntmps25
  go_wp2_with fail
  rw [← HW0.out]
  refine HCL.out.mono ?_
  rintro e w1 ⟨v, rfl, ho, b1⟩
  obtain ⟨u4, hu4⟩ : ∃ u, u = (Value.slice ra rn rc) := ⟨_, rfl⟩
  clear hu4 u4
  have h0 : w1.heap[w.heap.size]? = some (recO id ver kind lang ra rn rc) := (b1.block _ (by rw [HS0.out]; omega)).trans H0.out
  have h1 : w1.heap[w.heap.size + 1]? = some (recO 0 0 0 ⟨#[]⟩ none 0 0) := (b1.block _ (by rw [HS0.out]; omega)).trans H1.out
  have hmem0 : ∀ f ∈ rf, FldAt W0 f := fun f hf => (HFL.out W0 HB0.out).2 f hf
  have hst := SInv.start ho b1 hmem0
  have hb1 : Below w.heap.size w w1 := HB0.out.bt b1
  have HB1 := Lib.hid hb1
  have K0 := Lib.hid h0
  have K1 := Lib.hid h1
  have c4 := Lib.cell_of_heap h0 4
  have z4 := Lib.frozen_of_heap h0 4
  rcases hst with ⟨rfl, hnil⟩ | ⟨g, cap, rfl, hcap, hS⟩
  · obtain ⟨W2, hW2⟩ : ∃ W, W = w1.setCell ⟨w.heap.size, 4, none⟩ (.slice none 0 0) := ⟨_, rfl⟩
    have h02 : W2.heap[w.heap.size]? = some (recO id ver kind lang none 0 0) := by rw [hW2]; exact heap_setCell_same w1 w.heap.size 4 _ _ _ K0.out
    have h12 : W2.heap[w.heap.size + 1]? = some (recO 0 0 0 ⟨#[]⟩ none 0 0) := by rw [hW2, set_block _ _ _ _ (by show w.heap.size ≠ _; omega)]; exact K1.out
    have HB2 : Hid (Below w.heap.size w W2) := Lib.hid (by rw [hW2]; exact HB1.out.setCell (p := ⟨w.heap.size, 4, none⟩) (Nat.le_refl _) _)
    have L1 := Lib.hid h12
    have HW2 := Lib.hid hW2
    have HSS := Lib.hid (fun fv => sSortStable0 none 0 fv W2)
    have HNIL := Lib.hid hnil
    have m0 := Lib.cell_of_heap h02 0
    have m1 := Lib.cell_of_heap h02 1
    have m2 := Lib.cell_of_heap h02 2
    have m3 := Lib.cell_of_heap h02 3
    have m4 := Lib.cell_of_heap h02 4
    have q0 := Lib.cell_of_heap h12 0
    have g0 := Lib.frozen_of_heap h12 0
    have q1 := Lib.cell_of_heap h12 1
    have g1 := Lib.frozen_of_heap h12 1
    have q2 := Lib.cell_of_heap h12 2
    have g2 := Lib.frozen_of_heap h12 2
    have q3 := Lib.cell_of_heap h12 3
    have g3 := Lib.frozen_of_heap h12 3
    have q4 := Lib.cell_of_heap h12 4
    have g4 := Lib.frozen_of_heap h12 4
    clear ho b1 h0 h1 hmem0 hb1 d4 h02 h12 hnil
    go_wp2_with fail
    rw [← hW2]
    refine (HSS.out _).mono ?_
    rintro e w3 ⟨rfl, rfl⟩
    clear c4 z4 hW2
    go_wp2
    (try simp only [Exit.inBlock, Exit.then])
    have hgg := putR_heap L1.out rfl id ver kind lang (.slice none 0 0)
    have hbf : Below w.heap.size w (putR w3 (w.heap.size + 1) id ver kind lang (.slice none 0 0)) := putR_below HB2.out (by omega) _ _ _ _ _
    have hz : 0 = (sortR rf).length := by rw [HNIL.out]; rfl
    refine ret1_at (W := putR w3 (w.heap.size + 1) id ver kind lang (.slice none 0 0)) (r := ⟨id, ver, kind, lang, sortR rf⟩) (sa := none) (n := 0) (sc := 0) rfl hz rfl hgg hbf ?_
    rw [HNIL.out]
    exact Flds.nil _
  · obtain ⟨W2, hW2⟩ : ∃ W, W = w1.setCell ⟨w.heap.size, 4, none⟩ (.slice (some ⟨g, 0, none⟩) rn cap) := ⟨_, rfl⟩
    obtain ⟨W3, hW3⟩ : ∃ W, W = W0.setCell ⟨w.heap.size, 4, none⟩ (.slice (some ⟨g, 0, none⟩) rn cap) := ⟨_, rfl⟩
    have hb3 : Below w.heap.size w W3 := by rw [hW3]; exact HB0.out.setCell (p := ⟨w.heap.size, 4, none⟩) (Nat.le_refl _) _
    have h03 : W3.heap[w.heap.size]? = some (recO id ver kind lang (some ⟨g, 0, none⟩) rn cap) := by rw [hW3]; exact heap_setCell_same W0 w.heap.size 4 _ _ _ H0.out
    have h13 : W3.heap[w.heap.size + 1]? = some (recO 0 0 0 ⟨#[]⟩ none 0 0) := by rw [hW3, set_block _ _ _ _ (by show w.heap.size ≠ _; omega)]; exact H1.out
    have hs3 : W3.heap.size = w.heap.size + 2 := by rw [hW3, World.size_setCell]; exact HS0.out
    have hS2 : SInv W3 g W2 rf := by
      rw [hW3, hW2]
      exact hS.both (by rw [HS0.out]; omega) 4 _ (fun f hf => (HFL.out _ (by rw [← hW3]; exact hb3)).2 f hf)
    have HSS := Lib.hid (sSortStable hS2 (HEE.out.below hb3) rn cap HRN.out (by omega))
    have HB3 := Lib.hid hb3
    have M0 := Lib.hid h03
    have M1 := Lib.hid h13
    have HS3 := Lib.hid hs3
    have HCAP : Hid (rn ≤ cap) := Lib.hid (by rw [HRN.out]; exact hcap)
    rw [← HRN.out]
    clear ho b1 h0 h1 hmem0 hb1 d4 hS hS2 hb3 h03 h13 hs3 hW3 hcap
    go_wp2_with fail
    rw [← hW2]
    refine HSS.out.mono ?_
    rintro e w3 ⟨rfl, l', hS3, hp, hso⟩
    obtain rfl := sort_eq hso hp
    have h02 : w3.heap[w.heap.size]? = some (recO id ver kind lang (some ⟨g, 0, none⟩) rn cap) := (hS3.below.block _ (by rw [HS3.out]; omega)).trans M0.out
    have h12 : w3.heap[w.heap.size + 1]? = some (recO 0 0 0 ⟨#[]⟩ none 0 0) := (hS3.below.block _ (by rw [HS3.out]; omega)).trans M1.out
    have HB4 : Hid (Below w.heap.size w w3) := Lib.hid (HB3.out.bt hS3.below)
    have hlen : rn = (sortR rf).length := by rw [hp.length_eq]; exact HRN.out
    have HSI := Lib.hid hS3
    have HP := Lib.hid hp
    have HLEN := Lib.hid hlen
    have L1 := Lib.hid h12
    have d0 := Lib.cell_of_heap h02 0
    have d1 := Lib.cell_of_heap h02 1
    have d2 := Lib.cell_of_heap h02 2
    have d3 := Lib.cell_of_heap h02 3
    have d4 := Lib.cell_of_heap h02 4
    have q0 := Lib.cell_of_heap h12 0
    have g0 := Lib.frozen_of_heap h12 0
    have q1 := Lib.cell_of_heap h12 1
    have g1 := Lib.frozen_of_heap h12 1
    have q2 := Lib.cell_of_heap h12 2
    have g2 := Lib.frozen_of_heap h12 2
    have q3 := Lib.cell_of_heap h12 3
    have g3 := Lib.frozen_of_heap h12 3
    have q4 := Lib.cell_of_heap h12 4
    have g4 := Lib.frozen_of_heap h12 4
    clear c4 z4 hW2 h02 h12 hS3 hp hso hlen
    go_wp2
    (try simp only [Exit.inBlock, Exit.then])
    have hgg := putR_heap L1.out rfl id ver kind lang (.slice (some ⟨g, 0, none⟩) rn cap)
    have hbf : Below w.heap.size w (putR w3 (w.heap.size + 1) id ver kind lang (.slice (some ⟨g, 0, none⟩) rn cap)) := putR_below HB4.out (by omega) _ _ _ _ _
    refine ret1_at (W := putR w3 (w.heap.size + 1) id ver kind lang (.slice (some ⟨g, 0, none⟩) rn cap)) (r := ⟨id, ver, kind, lang, sortR rf⟩) (sa := some ⟨g, 0, none⟩) (n := rn) (sc := cap) rfl HLEN.out rfl hgg hbf ?_
    refine ⟨?_, fun f hf => (HFL.out _ hbf).2 f (HP.out.subset hf)⟩
    exact HSI.out.flds (fun b hb => putR_other _ _ _ _ _ _ (by have := HSI.out.b0; have := HS3.out; omega)) cap (by rw [← HLEN.out]; exact HCAP.out)
end Go.Proofs.YtkfjeolpbopcnaaGreatDoor
