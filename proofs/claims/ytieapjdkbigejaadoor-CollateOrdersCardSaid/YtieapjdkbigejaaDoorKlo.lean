/- The walk of the statement CollateOrders (layer 2): it returns true, and what was there before stays; an array of three strings as parameter. -/
import Derived.Test.YtieapjdkbigejaaDoorKla
import Derived.Lib.FrozenHead2
import Derived.OpenShut
namespace Go.Proofs.YtieapjdkbigejaaDoor
open Go Go.RowKit

section
variable {H : Type} {enc : TypeId × Value → H} {P : Program} {w : World} {base : Nat} {spare : Nat → Bool} {held : Bool}
/-- An array of three strings, opened and shut. -/
theorem open_str3 {r : Reach} {b0 : Nat} {t e : TypeId} {v : Value} {d : DataW H} {ps : List MemPlace} (ht : P.underlying t = some (.array 3 e)) (he : P.underlying e = some .string) (hc : P.cellsOf e = 1) (hct : P.cellsOf t = 3)
    (hval : Value.okWide P w r b0 t v) (hd : DataW.Trod enc P w base spare held t v d ps) :
    ∃ a b c : ByteArray, v = .agg #[.string a, .string b, .string c] ∧ d = .agg [.lit (.string a.data.toList), .lit (.string b.data.toList), .lit (.string c.data.toList)] ∧ ps = [] ∧ a.size ≤ maxLen ∧ b.size ≤ maxLen ∧ c.size ≤ maxLen := by
  obtain ⟨cs, rfl, hsz, -⟩ : ∃ cs, v = .agg cs ∧ cs.size = P.cellsOf t ∧ Row.okWide P w r b0 t cs := by
    unfold Value.okWide at hval
    rw [ht] at hval
    exact hval
  obtain ⟨fuel, hf⟩ := hd
  obtain ⟨xs, m, rfl, hx, -, hlen, hel⟩ := DataW.trod_array ht hf
  rw [hct] at hsz
  obtain ⟨l, rfl⟩ : ∃ l : List Value, cs = ⟨l⟩ := ⟨cs.toList, rfl⟩
  have hl3 : l.length = 3 := hsz
  simp only [Value.cells] at hel
  match l, hl3 with
  | [c0, c1, c2], _ =>
    match xs, hlen with
    | [x0, x1, x2], _ =>
      have e0 := hel 0 (by omega)
      have e1 := hel 1 (by omega)
      have e2 := hel 2 (by omega)
      rw [hc] at e0 e1 e2
      obtain ⟨s0, h0, y0, z0⟩ := DataW.trod_string he (show DataW.trod enc P w base spare held m e [c0] = some x0 from e0)
      obtain ⟨s1, h1, y1, z1⟩ := DataW.trod_string he (show DataW.trod enc P w base spare held m e [c1] = some x1 from e1)
      obtain ⟨s2, h2, y2, z2⟩ := DataW.trod_string he (show DataW.trod enc P w base spare held m e [c2] = some x2 from e2)
      simp only [List.cons.injEq, and_true] at h0 h1 h2
      subst h0 h1 h2 y0 y1 y2
      simp only [List.map_cons, List.map_nil, List.flatMap_cons, List.flatMap_nil, List.append_nil, Prod.mk.injEq] at hx
      exact ⟨s0, s1, s2, rfl, hx.1, hx.2, z0, z1, z2⟩
theorem shut_str3 {t e : TypeId} {a b c : ByteArray} (ht : P.underlying t = some (.array 3 e)) (he : P.underlying e = some .string) (hc : P.cellsOf e = 1) (hct : P.cellsOf t = 3) (ha : a.size ≤ maxLen) (hb : b.size ≤ maxLen) (hcc : c.size ≤ maxLen) :
    DataW.Trod enc P w base spare held t (.agg #[.string a, .string b, .string c]) (.agg [.lit (.string a.data.toList), .lit (.string b.data.toList), .lit (.string c.data.toList)]) [] :=
  ⟨2, by simp [DataW.trod, Value.cells, ht, he, hc, hct, ha, hb, hcc, List.range, List.range.loop]⟩
end

/-- Small at a slice of three strings. -/
theorem small3 (s t u : ByteArray) (w : World) (T : TypeId) (hs : s.size ≤ 9223372036854775807) (ht : t.size ≤ 9223372036854775807) (hu : u.size ≤ 9223372036854775807) :
    Calls Tryd.prog 11 #[.slice (some ⟨w.heap.size, 0, none⟩) 3 3] (w.alloc (.cells #[.string s, .string t, .string u] T)) fun e w' => e = .returned (.bool ((decide (s.size ≤ 300) && isText s.data.toList) && ((decide (t.size ≤ 300) && isText t.data.toList) && (decide (u.size ≤ 300) && isText u.data.toList)))) ∧ Below (w.alloc (.cells #[.string s, .string t, .string u] T)).heap.size (w.alloc (.cells #[.string s, .string t, .string u] T)) w' := by
  refine (rSmall _ [s, t, u] _ (strs_new w [s, t, u] T) (by simp) (by intro x hx; simp at hx; rcases hx with rfl | rfl | rfl; exact hs; exact ht; exact hu)).mono ?_
  rintro e w' ⟨rfl, d⟩
  exact ⟨by simp [smalls], d.below _⟩

set_option maxRecDepth 100000 in
set_option maxHeartbeats 4000000 in
theorem orders_walk (lang a b c : ByteArray) (w : World) (hE : Env w) (kab kbc kac kba : Int)
    (h1 : Calls Tryd.prog 11 #[.slice (some ⟨w.heap.size, 0, none⟩) 3 3] (w.alloc (.cells #[.string a, .string b, .string c] 30)) fun e w' => e = .returned (.bool true) ∧ Below (w.alloc (.cells #[.string a, .string b, .string c] 30)).heap.size (w.alloc (.cells #[.string a, .string b, .string c] 30)) w')
    (cab : ∀ W, Env W → Calls Tryd.prog 19 #[.string lang, .string a, .string b] W fun e w' => e = .returned (.int .i64 kab) ∧ Below W.heap.size W w')
    (cbc : ∀ W, Env W → Calls Tryd.prog 19 #[.string lang, .string b, .string c] W fun e w' => e = .returned (.int .i64 kbc) ∧ Below W.heap.size W w')
    (cac : ∀ W, Env W → Calls Tryd.prog 19 #[.string lang, .string a, .string c] W fun e w' => e = .returned (.int .i64 kac) ∧ Below W.heap.size W w')
    (cba : ∀ W, Env W → Calls Tryd.prog 19 #[.string lang, .string b, .string a] W fun e w' => e = .returned (.int .i64 kba) ∧ Below W.heap.size W w')
    (r1 : -1 ≤ kab ∧ kab ≤ 1) (r2 : -1 ≤ kbc ∧ kbc ≤ 1) (r3 : -1 ≤ kac ∧ kac ≤ 1) (hneg : kba = - kab) (htr : kab ≤ 0 → kbc ≤ 0 → kac ≤ 0 ∧ ((kab < 0 ∨ kbc < 0) → kac < 0)) (heq : kab = 0 ↔ a = b) :
    Calls Tryd.prog 6 #[.string lang, .agg #[.string a, .string b, .string c]] w fun e w' => e = .returned (.bool true) ∧ Below w.heap.size w w' := by
  have H1 := Lib.hid h1
  clear h1
  go_enter Tryd.func6, Tryd.ntmps6
  go_wp2_with fail
  refine H1.out.mono ?_
  rintro e w1 ⟨rfl, b1⟩
  have hB1 : Below w.heap.size w w1 := (((Below.refl _ _).alloc (Nat.le_refl _) _).trans (b1.mono (by rw [World.size_alloc]; exact Nat.le_succ _)))
  have hE1 : Env w1 := hE.below hB1
  go_wp2_with fail
  obtain ⟨C, hC⟩ : ∃ C : World → Prop, C = fun w' => Below w1.heap.size w1 w' := ⟨_, rfl⟩
  have hE0 : ∀ w', C w' → Env w' := fun w' h => hE1.below (by rw [hC] at h; exact h)
  have hcells : ∀ w', C w' → w'.cell? ⟨w.heap.size, 0, none⟩ = some (.string a) ∧ w'.cell? ⟨w.heap.size, 1, none⟩ = some (.string b) ∧ w'.cell? ⟨w.heap.size, 2, none⟩ = some (.string c) := by
    intro w' h
    rw [hC] at h
    have hlt : w.heap.size < w1.heap.size := by have := b1.size; rw [World.size_alloc] at this; omega
    have hlt2 : w.heap.size < (w.alloc (.cells #[.string a, .string b, .string c] 30)).heap.size := by rw [World.size_alloc]; omega
    refine ⟨?_, ?_, ?_⟩
    all_goals
      rw [h.cell hlt, b1.cell hlt2, Lib.cell_of_heap (heap_alloc_new w _)]
      rfl
  have hstep : ∀ w' w'', C w' → Below w'.heap.size w' w'' → C w'' := by
    intro w' w'' h k
    rw [hC] at h ⊢
    exact h.trans (k.mono h.size)
  have hend : ∀ w', C w' → Below w.heap.size w w' := by
    intro w' h
    rw [hC] at h
    exact hB1.trans (h.mono hB1.size)
  have hC0 : C { w1 with drawn := w1.drawn + 1 } := by
    rw [hC]
    exact (Below.refl _ _).drew
  refine wp_region_quiet (C := C) (by kernel_rfl) (by kernel_rfl) hC0 ?_
  clear hC hC0
  show wpQuiet _ _ _ _ [_, _, _, _, _, _, _, _, _, _, _, _, _, _, _, _, _, _, _, _, _, _, _, _, _, _, _, _] _
  repeat
    refine wpQuiet_step (fun K hK => ?_)
    go_simp
    first
      | (refine hK _ ?_; clear hK K)
      | (apply Exists.intro
         refine ⟨fun w' hw' => ?_, hK _ ?_⟩
         · first
           | with_reducible rfl
           | ((go_at_call 19; first
               | with_reducible refine (cab w' (hE0 w' hw')).mono ?_
               | with_reducible refine (cbc w' (hE0 w' hw')).mono ?_
               | with_reducible refine (cac w' (hE0 w' hw')).mono ?_
               | with_reducible refine (cba w' (hE0 w' hw')).mono ?_)
              exact fun e w'' ⟨he, hb⟩ => ⟨he, hstep w' w'' hw' hb⟩)
           | (obtain ⟨q0, q1, q2⟩ := hcells w' hw'; go_simp; with_reducible rfl)
         clear hK K)
  refine wpQuiet_nil ?_
  intro w2 hw2
  have hb2 := hend w2 hw2
  have E2 := hE0 w2 hw2
  obtain ⟨q0, q1, q2⟩ := hcells w2 hw2
  clear hcells hE0 hstep hend cab cbc cac cba
  subst hneg
  have hs : (kab = 0 ∧ (a.toList == b.toList) = true) ∨ (kab ≠ 0 ∧ (a.toList == b.toList) = false) := by
    by_cases h : kab = 0
    · exact .inl ⟨h, by rw [heq.1 h]; simp⟩
    · refine .inr ⟨h, ?_⟩
      rw [beq_eq_false_iff_ne]
      intro hh
      exact h (heq.2 ((of_toList hh).trans (of_toList rfl).symm))
  clear heq
  have hc1 : kab = -1 ∨ kab = 0 ∨ kab = 1 := by omega
  have hc2 : kbc = -1 ∨ kbc = 0 ∨ kbc = 1 := by omega
  have hc3 : kac = -1 ∨ kac = 0 ∨ kac = 1 := by omega
  rcases hs with ⟨hz, hs⟩ | ⟨hz, hs⟩ <;> rcases hc1 with h | h | h <;> rcases hc2 with h' | h' | h' <;> rcases hc3 with h'' | h'' | h'' <;> first | (exfalso; omega) | skip
  all_goals
    subst h h' h''
    clear hz htr r1 r2 r3
    go_wp2_with fail
    refine (alive_any _ E2).mono ?_
    rintro e w3 ⟨rfl, b3⟩
    go_wp2
    go_ret
    exact ⟨rfl, hb2.trans (b3.mono hb2.size)⟩

set_option maxRecDepth 100000 in
set_option maxHeartbeats 4000000 in
theorem law_CollateOrders (lang a b c : ByteArray) (w : World) (hE : Env w) (_hl : lang.size ≤ 9223372036854775807) (ha : a.size ≤ 9223372036854775807) (hb : b.size ≤ 9223372036854775807) (hc : c.size ≤ 9223372036854775807) :
    Calls Tryd.prog 6 #[.string lang, .agg #[.string a, .string b, .string c]] w fun e w' => e = .returned (.bool true) ∧ Below w.heap.size w w' := by
  have h1 := small3 a b c w 30 ha hb hc
  have hB0 : Below w.heap.size w (w.alloc (.cells #[.string a, .string b, .string c] 30)) := (Below.refl _ _).alloc (Nat.le_refl _) _
  cases hv : ((decide (a.size ≤ 300) && isText a.data.toList) && ((decide (b.size ≤ 300) && isText b.data.toList) && (decide (c.size ≤ 300) && isText c.data.toList))) with
  | false =>
    rw [hv] at h1
    have H1 := Lib.hid h1
    clear h1 hv
    go_enter Tryd.func6, Tryd.ntmps6
    go_wp2_with fail
    refine H1.out.mono ?_
    rintro e w1 ⟨rfl, b1⟩
    have hB1 : Below w.heap.size w w1 := hB0.trans (b1.mono hB0.size)
    go_wp2_with fail
    refine (alive_any _ (hE.below hB1)).mono ?_
    rintro e w2 ⟨rfl, b2⟩
    go_wp2
    go_ret
    exact ⟨rfl, hB1.bt b2⟩
  | true =>
    rw [hv] at h1
    rw [Bool.and_eq_true] at hv
    obtain ⟨hv0, hv1⟩ := hv
    rw [Bool.and_eq_true] at hv1
    obtain ⟨ac, oa, rfl, sa⟩ := small_text hv0
    obtain ⟨bs', ob, rfl, sb⟩ := small_text hv1.1
    obtain ⟨cs, oc, rfl, sc⟩ := small_text hv1.2
    have cab := fun W hW => pCompare lang ac bs' W hW oa ob (by omega) (by omega)
    have cbc := fun W hW => pCompare lang bs' cs W hW ob oc (by omega) (by omega)
    have cac := fun W hW => pCompare lang ac cs W hW oa oc (by omega) (by omega)
    have cba := fun W hW => pCompare lang bs' ac W hW ob oa (by omega) (by omega)
    have r1 := kcmp_range (lcode lang) ac bs'
    have r2 := kcmp_range (lcode lang) bs' cs
    have r3 := kcmp_range (lcode lang) ac cs
    have hneg := kcmp_neg (lcode lang) bs' ac
    have htr := kcmp_trans (lcode lang) ac bs' cs
    have heq : kcmp (lcode lang) ac bs' = 0 ↔ bs ac = bs bs' := by
      rw [kcmp_eq _ _ _ oa ob]
      exact ⟨fun h => by rw [h], fun h => bs_inj _ _ oa ob h⟩
    generalize kcmp (lcode lang) ac bs' = kab at *
    generalize kcmp (lcode lang) bs' cs = kbc at *
    generalize kcmp (lcode lang) ac cs = kac at *
    generalize kcmp (lcode lang) bs' ac = kba at *
    generalize bs ac = a at *
    generalize bs bs' = b at *
    generalize bs cs = c at *
    clear hv0 hv1 ha hb hc sa sb sc oa ob oc
    have H1 := Lib.hid h1
    clear h1
    exact orders_walk lang a b c w hE kab kbc kac kba H1.out cab cbc cac cba r1 r2 r3 hneg htr heq
end Go.Proofs.YtieapjdkbigejaaDoor
