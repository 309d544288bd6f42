/- The walk of the program's Add (layer 28). -/
import Derived.Test.YtlpeppigebbfkaaDoorNiw
import Derived.Test.YtlpeppigebbfkaaDoorNra
import Derived.Deep.RegionWith
namespace Go.Proofs.YtlpeppigebbfkaaDoor
open Go Go.RowKit

theorem pCloneAny (v : Value) (l : List Pat) (w : World) (hn : l.length ≤ 1000) (hv : Pats w v l) :
    Calls Tryd.prog 38 #[v] w fun e w' => ∃ v', e = .returned v' ∧ w'.ownsRow w.heap.size 28 6 v' l.length (pcells l) ∧ (∀ g n c, v' = .slice (some g) n c → w.heap.size ≤ g.block ∧ g.block < w'.heap.size) ∧ Below w.heap.size w w' := by
  obtain ⟨a, c, rfl, hc, h⟩ := id hv
  cases a with
  | none =>
    have h0 : l = [] := by
      rcases h with h | ⟨b, o, h, -⟩
      · exact h
      · cases h
    subst h0
    refine (pCloneNil c w).mono ?_
    rintro e w' ⟨rfl, rfl⟩
    refine ⟨_, rfl, ⟨by simp [pcells_nil], .inl ⟨rfl, rfl⟩⟩, ?_, Below.refl _ _⟩
    intro g n c h
    cases h
  | some ad =>
    refine (pClone ad c l w hn hv).mono ?_
    rintro e w' ⟨v', rfl, ho, -, hb⟩
    refine ⟨v', rfl, ho, ?_, hb⟩
    intro g n c h
    rcases ho.2 with ⟨h0, -⟩ | ⟨g', cap', cur, he, hb, hh, -⟩
    · rw [h0] at h; cases h
    · rw [he] at h; cases h
      exact ⟨hb, (Array.getElem?_eq_some_iff.1 hh).1⟩
theorem pInsert {w : World} {base n : Nat} {v : Value} {l : List Pat} (h : w.ownsRow base 28 6 v n (pcells l)) (hn1 : n ≤ 1000) (hbw : base ≤ w.heap.size) (vb : Nat) (hvg : ∀ g n c, v = .slice (some g) n c → g.block ≠ vb) (p : Pat) (hv : Lone w vb p) (i : Nat) (hi : i ≤ n) :
    Calls Tryd.prog 37 #[v, .int .i64 i, .slice (some ⟨vb, 0, none⟩) 1 1] w (RetIns w base (l.take i ++ p :: l.drop i)) := by
  have hn : n = l.length := by have := h.1; rw [pcells_len] at this; omega
  by_cases hin : i = n
  · subst hin
    rw [List.take_of_length_le (by omega), List.drop_eq_nil_of_le (by omega)]
    exact pInsertEnd h hn1 hbw vb p hv.cells
  · rcases id h.2 with ⟨-, h0⟩ | ⟨g, cap, cur, rfl, -⟩
    · omega
    · by_cases hr : n + 1 ≤ cap
      · exact pInsertShift h hn1 vb (fun e => hvg _ _ _ rfl e.symm) p hv i (by omega) 1 rfl hr
      · exact pInsertGrow h hn1 hbw vb p hv i (by omega) 1 rfl (by omega)
theorem Lone.below {w w' : World} {vb B : Nat} {p : Pat} (h : Lone w vb p) (hb : Below B w w') (hv : vb < B) : Lone w' vb p := (hb.block vb hv).trans h
theorem Lone.new (w : World) (p : Pat) : Lone (w.alloc (.cells #[.int .i64 p.id, .int .i64 p.kind, .int .i64 p.branch, .int .i64 p.till, .bool p.stop, .string p.name] 28)) w.heap.size p := heap_alloc_new w _
/-- The first place of a patron with a greater ID, or the end. -/
def overAt (l : List Pat) (x : Int) : Nat := match l.findIdx? (isOver x) with | some i => i | none => l.length
theorem overAt_cons (q : Pat) (l : List Pat) (x : Int) : overAt (q :: l) x = if x < q.id then 0 else overAt l x + 1 := by
  unfold overAt
  rw [List.findIdx?_cons]
  unfold isOver
  by_cases h : x < q.id
  · simp [h]
  · simp only [h, decide_false, if_false]
    cases l.findIdx? (fun p => decide (x < p.id)) <;> simp
theorem insP_eq (p : Pat) : ∀ l : List Pat, l.take (overAt l p.id) ++ p :: l.drop (overAt l p.id) = insP p l
  | [] => rfl
  | q :: r => by
    rw [overAt_cons]
    unfold insP
    by_cases h : p.id < q.id
    · simp [h]
    · simp [h, insP_eq p r]
theorem overAt_le (l : List Pat) (x : Int) : overAt l x ≤ l.length := by
  unfold overAt
  cases h : l.findIdx? (isOver x) with
  | none => exact Nat.le_refl _
  | some i => exact Nat.le_of_lt (List.findIdx?_eq_some_iff_getElem.1 h).1
theorem idx_over (l : List Pat) (x : Int) : (idx64 (isOver x) l = -1 ∧ overAt l x = l.length) ∨ idx64 (isOver x) l = (overAt l x : Int) := by
  unfold idx64 overAt
  cases l.findIdx? (isOver x) with
  | none => exact .inl ⟨rfl, rfl⟩
  | some i => exact .inr rfl

set_option maxRecDepth 100000 in
set_option maxHeartbeats 2000000 in
theorem pAdd {F : ByteArray → Bool} (hF : ∀ n, F n = true ↔ formOk n) (v : Value) (l : List Pat) (p : Pat) (w : World) (hE : Env w) (hv : Pats w v l) (hl : l.length ≤ 900) (hn : ∀ q ∈ l, q.name.size ≤ 1000000) (hpn : p.name.size ≤ 1000000) :
    Calls Tryd.prog 15 #[v, .agg #[.int .i64 p.id, .int .i64 p.kind, .int .i64 p.branch, .int .i64 p.till, .bool p.stop, .string p.name]] w (RetPats w (addL F l p).1 (addL F l p).2) := by
  obtain ⟨W0, hW0⟩ : ∃ W0, W0 = w.alloc (.cells #[.int .i64 p.id, .int .i64 p.kind, .int .i64 p.branch, .int .i64 p.till, .bool p.stop, .string p.name] 28) := ⟨_, rfl⟩
  have hb0 : Below w.heap.size w W0 := by rw [hW0]; exact (Below.refl _ _).alloc (Nat.le_refl _) _
  have hs0 : w.heap.size < W0.heap.size := by rw [hW0, World.size_alloc]; exact Nat.lt_succ_self _
  have h60 : Six W0 w.heap.size 0 p := by
    rw [hW0]
    refine ⟨?_, ?_, ?_, ?_, ?_, ?_⟩ <;> (rw [Lib.cell_of_heap (heap_alloc_new w _)]; rfl)
  have hv0 := hv.below hb0 (Nat.le_refl _)
  have hpl := pPlace v l p.id W0 hv0 (by omega)
  have HW0 := Lib.hid hW0
  have HB0 := Lib.hid hb0
  have HE := Lib.hid hE
  have H60 := Lib.hid h60
  rcases at64_range l p.id with ⟨h1, -⟩ | ⟨i, q, h1, hq, -, -⟩
  · rw [h1] at hpl
    have hr : addL F l p = if right F (insP p l) = 0 then (insP p l, 0) else ([], right F (insP p l)) := by unfold addL; rw [at64_none h1]; rfl
    have hix := fun W (hW : Below W0.heap.size W0 W) => pIndexOver v l p.id w.heap.size W (hv0.below hW (Nat.le_refl _)) (by omega) ((hW.cell (p := ⟨w.heap.size, 0, none⟩) hs0).trans h60.c0)
    have hclone := fun W (hW : Below W0.heap.size W0 W) => pCloneAny v l W (by omega) (hv0.below hW (Nat.le_refl _))
    have hins := fun (W : World) (v' : Value) (base vb : Nat) (h : W.ownsRow base 28 6 v' l.length (pcells l)) (hbw : base ≤ W.heap.size) (hvg : ∀ g n c, v' = .slice (some g) n c → g.block ≠ vb) (hv : Lone W vb p) => pInsert h (by omega) hbw vb hvg p hv (overAt l p.id) (overAt_le l p.id)
    rw [insP_eq] at hins
    have hchk := fun W (hW : Env W) v' (hv' : Pats W v' (insP p l)) => pChecked hF v' (insP p l) W hW hv' (by rw [insP_len]; omega) (fun q hq => by
      rcases insP_mem p q l hq with rfl | h
      · exact hpn
      · exact hn q h)
    obtain ⟨R, hR⟩ : ∃ R, R = right F (insP p l) := ⟨_, rfl⟩
    rw [← hR] at hr hchk
    obtain ⟨a, c, rfl, hac, -⟩ := hv
    have hio := idx_over l p.id
    have hil := overAt_le l p.id
    obtain ⟨i, hi⟩ : ∃ i, i = overAt l p.id := ⟨_, rfl⟩
    rw [← hi] at hins hio hil
    obtain ⟨n, hnn⟩ : ∃ n, n = l.length := ⟨_, rfl⟩
    rw [← hnn] at hins hil hac hpl hix hclone hio hl ⊢
    obtain ⟨X, hX⟩ : ∃ X, X = idx64 (isOver p.id) l := ⟨_, rfl⟩
    rw [← hX] at hix hio
    have HPL := Lib.hid hpl
    have HIX := Lib.hid hix
    have HCL := Lib.hid hclone
    have HIN := Lib.hid hins
    have HCK := Lib.hid hchk
    have HR := Lib.hid hr
    have hs0' : w.heap.size < W0.heap.size := hs0
    clear hpl hix hclone hins hchk hr hR h1 hW0 hb0 h60 hv0 hE hn hnn hX hi
    rcases hio with ⟨hX, hin⟩ | hX
    · subst hX
      subst hin
      go_enter Tryd.func15, Tryd.ntmps15
      go_wp2_with fail
      rw [← HW0.out]
      refine HPL.out.mono ?_
      rintro e w1 ⟨rfl, b1⟩
      have HB1 := Lib.hid b1
      obtain ⟨q0, q1, q2, q3, q4, q5⟩ := H60.out.below b1 hs0
      simp only [Nat.zero_add] at q0 q1 q2 q3 q4 q5
      clear b1
      go_wp2_with fail
      refine (HIX.out w1 HB1.out).mono ?_
      rintro e w2 ⟨rfl, b2⟩
      have hb2 : Below W0.heap.size W0 w2 := HB1.out.bt b2
      have HB2 := Lib.hid hb2.drew
      clear q0 q1 q2 q3 q4 q5
      obtain ⟨q0, q1, q2, q3, q4, q5⟩ := H60.out.below hb2 hs0
      simp only [Nat.zero_add] at q0 q1 q2 q3 q4 q5
      clear hb2 b2
      go_wp2_with fail
      go_region_with (first
        | (go_at_call 38
           refine (HCL.out _ ?_).mono ?_
           first
             | exact HB2.out
             | exact HB2.out.alloc HB2.out.size _
           rintro e w3 ⟨v3, rfl, hown, hlt, b3⟩
           have hb3 := Below.bt (a := W0) (by first | exact HB2.out | exact HB2.out.alloc HB2.out.size _) b3
           have HB3 := Lib.hid hb3
           have HLO := Lib.hid (fun vb (h : Lone _ vb p) hv => h.below b3 hv)
           have HS3 := Lib.hid b3.size
           have HO := Lib.hid hown
           have HL := Lib.hid hlt
           obtain ⟨r0, r1, r2, r3, r4, r5⟩ := H60.out.below hb3 hs0
           simp only [Nat.zero_add] at r0 r1 r2 r3 r4 r5
           clear hb3 hown hlt b3)
        | (go_at_call 37
           first
             | (with_reducible refine (HIN.out _ _ _ _ (HO.out.alloc _) ?h1 ?h2 (Lone.new _ p)).mono ?_
                case h1 => rw [World.size_alloc]; exact Nat.le_succ_of_le HS3.out
                case h2 => (intro g n' c' hv he; have := (HL.out g n' c' hv).2; omega)
                rintro e w4 ⟨v4, rfl, hp4, hb4⟩
                have HB4 : Hid (Below w.heap.size w w4) := Lib.hid (hb4 w.heap.size w ((HB0.out.bt HB3.out).alloc (by have := HB3.out.size; omega) _) (by have := HB2.out.size; omega) (by rw [World.size_alloc]; have := HB3.out.size; omega))
                have HP4 := Lib.hid hp4
                clear hp4 hb4)
             | (with_reducible refine (HIN.out _ _ _ _ HO.out HS3.out ?h2 (HLO.out w2.heap.size ?h4 ?h3)).mono ?_
                case h4 => exact Lone.new w2.drew p
                case h2 => (intro g n' c' hv he; have h9 : w2.heap.size + 1 ≤ g.block := Nat.le_trans (Nat.le_of_eq (World.size_alloc w2.drew _).symm) (HL.out g n' c' hv).1; omega)
                case h3 => exact Nat.lt_of_lt_of_eq (Nat.lt_succ_self _) (World.size_alloc w2.drew _).symm
                rintro e w4 ⟨v4, rfl, hp4, hb4⟩
                have HB4 : Hid (Below w.heap.size w w4) := Lib.hid (hb4 w.heap.size w (HB0.out.bt HB3.out) (Nat.le_trans (show w.heap.size ≤ w2.heap.size + 1 from by have h9 : W0.heap.size ≤ w2.heap.size := HB2.out.size; omega) (Nat.le_of_eq (World.size_alloc w2.drew _).symm)) (by have := HB3.out.size; omega))
                have HP4 := Lib.hid hp4
                clear hp4 hb4))
        | (go_at_call 36
           with_reducible refine (HCK.out _ (HE.out.below HB4.out) _ HP4.out).mono ?_
           rintro e w5 ⟨rfl, b5⟩
           obtain ⟨ov, hov⟩ : ∃ ov, ov = outV R v4 := ⟨_, rfl⟩
           rw [← hov]
           have HP5 : Hid (Pats w5 ov (addL F l p).1 ∧ (addL F l p).2 = R ∧ Below w.heap.size w w5) := Lib.hid (by
             refine ⟨?_, ?_, HB4.out.bt b5⟩
             · rw [HR.out, hov]
               unfold outV
               by_cases h0 : R = 0
               · rw [if_pos h0, if_pos h0]
                 exact HP4.out.below b5 (Nat.le_refl _)
               · rw [if_neg h0, if_neg h0]
                 exact pats_nil _
             · rw [HR.out]
               by_cases h0 : R = 0
               · rw [if_pos h0, h0]
               · rw [if_neg h0])
           clear hov b5))
      all_goals (try go_wp2)
      all_goals go_ret2
      all_goals exact ⟨ov, by rw [HP5.out.2.1]; rfl, HP5.out.1, HP5.out.2.2⟩
    · subst hX
      go_enter Tryd.func15, Tryd.ntmps15
      go_wp2_with fail
      rw [← HW0.out]
      refine HPL.out.mono ?_
      rintro e w1 ⟨rfl, b1⟩
      have HB1 := Lib.hid b1
      obtain ⟨q0, q1, q2, q3, q4, q5⟩ := H60.out.below b1 hs0
      simp only [Nat.zero_add] at q0 q1 q2 q3 q4 q5
      clear b1
      go_wp2_with fail
      refine (HIX.out w1 HB1.out).mono ?_
      rintro e w2 ⟨rfl, b2⟩
      have hb2 : Below W0.heap.size W0 w2 := HB1.out.bt b2
      have HB2 := Lib.hid hb2.drew
      clear q0 q1 q2 q3 q4 q5
      obtain ⟨q0, q1, q2, q3, q4, q5⟩ := H60.out.below hb2 hs0
      simp only [Nat.zero_add] at q0 q1 q2 q3 q4 q5
      clear hb2 b2
      go_wp2_with fail
      go_region_with (first
        | (go_at_call 38
           refine (HCL.out _ ?_).mono ?_
           first
             | exact HB2.out
             | exact HB2.out.alloc HB2.out.size _
           rintro e w3 ⟨v3, rfl, hown, hlt, b3⟩
           have hb3 := Below.bt (a := W0) (by first | exact HB2.out | exact HB2.out.alloc HB2.out.size _) b3
           have HB3 := Lib.hid hb3
           have HLO := Lib.hid (fun vb (h : Lone _ vb p) hv => h.below b3 hv)
           have HS3 := Lib.hid b3.size
           have HO := Lib.hid hown
           have HL := Lib.hid hlt
           obtain ⟨r0, r1, r2, r3, r4, r5⟩ := H60.out.below hb3 hs0
           simp only [Nat.zero_add] at r0 r1 r2 r3 r4 r5
           clear hb3 hown hlt b3)
        | (go_at_call 37
           first
             | (with_reducible refine (HIN.out _ _ _ _ (HO.out.alloc _) ?h1 ?h2 (Lone.new _ p)).mono ?_
                case h1 => rw [World.size_alloc]; exact Nat.le_succ_of_le HS3.out
                case h2 => (intro g n' c' hv he; have := (HL.out g n' c' hv).2; omega)
                rintro e w4 ⟨v4, rfl, hp4, hb4⟩
                have HB4 : Hid (Below w.heap.size w w4) := Lib.hid (hb4 w.heap.size w ((HB0.out.bt HB3.out).alloc (by have := HB3.out.size; omega) _) (by have := HB2.out.size; omega) (by rw [World.size_alloc]; have := HB3.out.size; omega))
                have HP4 := Lib.hid hp4
                clear hp4 hb4)
             | (with_reducible refine (HIN.out _ _ _ _ HO.out HS3.out ?h2 (HLO.out w2.heap.size ?h4 ?h3)).mono ?_
                case h4 => exact Lone.new w2.drew p
                case h2 => (intro g n' c' hv he; have h9 : w2.heap.size + 1 ≤ g.block := Nat.le_trans (Nat.le_of_eq (World.size_alloc w2.drew _).symm) (HL.out g n' c' hv).1; omega)
                case h3 => exact Nat.lt_of_lt_of_eq (Nat.lt_succ_self _) (World.size_alloc w2.drew _).symm
                rintro e w4 ⟨v4, rfl, hp4, hb4⟩
                have HB4 : Hid (Below w.heap.size w w4) := Lib.hid (hb4 w.heap.size w (HB0.out.bt HB3.out) (Nat.le_trans (show w.heap.size ≤ w2.heap.size + 1 from by have h9 : W0.heap.size ≤ w2.heap.size := HB2.out.size; omega) (Nat.le_of_eq (World.size_alloc w2.drew _).symm)) (by have := HB3.out.size; omega))
                have HP4 := Lib.hid hp4
                clear hp4 hb4))
        | (go_at_call 36
           with_reducible refine (HCK.out _ (HE.out.below HB4.out) _ HP4.out).mono ?_
           rintro e w5 ⟨rfl, b5⟩
           obtain ⟨ov, hov⟩ : ∃ ov, ov = outV R v4 := ⟨_, rfl⟩
           rw [← hov]
           have HP5 : Hid (Pats w5 ov (addL F l p).1 ∧ (addL F l p).2 = R ∧ Below w.heap.size w w5) := Lib.hid (by
             refine ⟨?_, ?_, HB4.out.bt b5⟩
             · rw [HR.out, hov]
               unfold outV
               by_cases h0 : R = 0
               · rw [if_pos h0, if_pos h0]
                 exact HP4.out.below b5 (Nat.le_refl _)
               · rw [if_neg h0, if_neg h0]
                 exact pats_nil _
             · rw [HR.out]
               by_cases h0 : R = 0
               · rw [if_pos h0, h0]
               · rw [if_neg h0])
           clear hov b5))
      all_goals (try go_wp2)
      all_goals go_ret2
      all_goals exact ⟨ov, by rw [HP5.out.2.1]; rfl, HP5.out.1, HP5.out.2.2⟩
  · rw [h1] at hpl
    have hr : addL F l p = ([], 7) := by unfold addL; rw [(at64_some h1).1]; rfl
    rw [hr]
    have HPL := Lib.hid hpl
    clear hpl h1 hr hq hW0 hb0 h60 hv0 hE hn hv
    go_enter Tryd.func15, Tryd.ntmps15
    go_wp2_with fail
    rw [← HW0.out]
    refine HPL.out.mono ?_
    rintro e w1 ⟨rfl, b1⟩
    have HB1 : Hid (Below w.heap.size w w1) := Lib.hid (HB0.out.bt b1)
    clear b1
    go_wp2
    go_ret2
    exact ⟨_, rfl, pats_nil _, HB1.out⟩
end Go.Proofs.YtlpeppigebbfkaaDoor
