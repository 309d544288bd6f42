/- Sorting (layer 2): the walk of the reference's Sort. -/
import Derived.Test.YtieapjdkbigejaaDoorQu
namespace Go.Proofs.YtieapjdkbigejaaDoor
open Go Go.RowKit

theorem own_cells {w : World} {base : Nat} {T : TypeId} {g n cap : Nat} {O : List (List Nat)} (h : w.ownsRow base T 1 (.slice (some ⟨g, 0, none⟩) n cap) n ((tbs O).map Value.string)) :
    base ≤ g ∧ g < w.heap.size ∧ n ≤ cap ∧ O.length = n ∧ cap ≤ maxLen ∧ ∀ j x, O[j]? = some x → w.cell? ⟨g, j, none⟩ = some (.string (bs x)) := by
  have hl : O.length = n := by have := h.1; simp [tbs] at this; exact this
  rcases h.2 with ⟨h0, -⟩ | ⟨g', cap', cur, hv, hb, hh, hc, hm, -, ht⟩
  · cases h0
  · cases hv
    refine ⟨hb, (Array.getElem?_eq_some_iff.1 hh).1, hc, hl, hm, fun j x hx => ?_⟩
    rw [Nat.mul_one] at ht
    have hj : j < n := by have := (List.getElem?_eq_some_iff.1 hx).1; omega
    have h1 : (cur.toList.take n)[j]? = ((tbs O).map Value.string)[j]? := by rw [ht]
    rw [List.getElem?_take_of_lt hj, List.getElem?_map, tbs_at hx] at h1
    rw [Lib.cell_of_heap hh, ← Array.getElem?_toList, h1]
    rfl
theorem own_some {w : World} {base : Nat} {T : TypeId} {n : Nat} {v : Value} {xs : List Value} (h : w.ownsRow base T 1 v n xs) (hn : v ≠ .slice none 0 0) : ∃ g cap, v = .slice (some ⟨g, 0, none⟩) n cap := by
  rcases h.2 with ⟨h0, -⟩ | ⟨g, cap, cur, hv, -⟩
  · exact absurd h0 hn
  · exact ⟨g, cap, hv⟩
theorem own_base {w : World} {base base' : Nat} {T : TypeId} {n : Nat} {v : Value} {xs : List Value} (h : w.ownsRow base T 1 v n xs) (hb : base' ≤ base) : w.ownsRow base' T 1 v n xs := by
  refine ⟨h.1, ?_⟩
  rcases h.2 with h0 | ⟨g, cap, cur, hv, hg, rest⟩
  · exact .inl h0
  · exact .inr ⟨g, cap, cur, hv, Nat.le_trans hb hg, rest⟩
theorem own_n {w : World} {base n k : Nat} {T : TypeId} {v : Value} {xs : List Value} (h : w.ownsRow base T 1 v n xs) (hk : xs.length = k) : n = k := by have := h.1; omega
theorem own_eq {w : World} {base : Nat} {T : TypeId} {n : Nat} {v : Value} {xs ys : List Value} (h : w.ownsRow base T 1 v n xs) (e : xs = ys) : w.ownsRow base T 1 v n ys := e ▸ h
/-- What the outer loop of the reference's Sort keeps. -/
structure RSt (w wr : World) (vo : Value) (m i : Nat) (l O : List (List Nat)) : Prop where
  own : wr.ownsRow w.heap.size 9 1 vo i ((tbs O).map Value.string)
  below : Below w.heap.size w wr
  sorted : SortedK m O
  perm : O.Perm (l.take i)
  len : O.length = i
theorem cell_at_str {l : List (List Nat)} {u : Value} {j : Nat} (hj : ((tbs l).map Value.string)[j]? = some u) : ∃ x, l[j]? = some x ∧ u = .string (bs x) := by
  unfold tbs at hj
  rw [List.getElem?_map, List.getElem?_map] at hj
  cases h : l[j]? with
  | none => rw [h] at hj; cases hj
  | some x => rw [h] at hj; exact ⟨x, rfl, (Option.some.inj hj).symm⟩

set_option maxRecDepth 100000 in
set_option maxHeartbeats 4000000 in
theorem rSort (lang : ByteArray) (v : Value) (l : List (List Nat)) (w : World) (hv : Strs w v (tbs l)) (hg : Good l) (h40 : l.length ≤ 40) :
    Calls Tryd.prog 24 #[.string lang, v] w fun e w' => ∃ l', RetStrs w (tbs l') e w' ∧ l'.Perm l ∧ SortedK (lcode lang) l' := by
  obtain ⟨pa, pc, rfl, hpc, hcells⟩ := hv
  rw [tbs_len] at hpc ⊢
  obtain ⟨n, hn⟩ : ∃ n, n = l.length := ⟨_, rfl⟩
  rw [← hn] at h40 hpc ⊢
  obtain ⟨i0, hi, hz0, hz1, hz2⟩ := info_parts infoStr
  have HI := Lib.hid hi; have HZ0 := Lib.hid hz0; have HZ1 := Lib.hid hz1; have HZ2 := Lib.hid hz2
  have HN := Lib.hid hn
  have HG := Lib.hid hg
  have HCL := Lib.hid hcells
  obtain ⟨m, hm⟩ : ∃ m, m = lcode lang := ⟨_, rfl⟩
  rw [← hm]
  have HM := Lib.hid hm
  clear hi hz0 hz1 hz2 hn hg hcells hm
  go_enter Tryd.func24, Tryd.ntmps24
  go_wp2
  go_loopw [5, 6] (fun vo vi wr => ∃ (i g cap : Nat) (O : List (List Nat)), vi = .int .i64 i ∧ vo = .slice (some ⟨g, 0, none⟩) i cap ∧ i ≤ n ∧ i ≤ cap ∧ Hid (RSt w wr vo m i l O)) (fun _ vi _ => n - (intOf vi).toNat)
  case atStart =>
    refine ⟨0, w.heap.size, 0, [], rfl, rfl, by omega, Nat.le_refl _, Lib.hid ⟨?_, (Below.refl _ _).alloc (Nat.le_refl _) _, List.Pairwise.nil, by simp, rfl⟩⟩
    exact World.ownsRow_made w #[] 0 (Nat.le_refl _) (Nat.zero_le _) (by simp)
  case round =>
    obtain ⟨i, g, cap, O, rfl, rfl, hin, hicap, HR⟩ := hrel
    obtain ⟨wo, rfl⟩ : ∃ wo, wo = wr := ⟨_, rfl⟩
    by_cases hlt : i < n
    · have hltz : (i : Int) < (n : Int) := by omega
      obtain ⟨e, he⟩ : ∃ e, l[i]? = some e := ⟨_, List.getElem?_eq_getElem (by have := HN.out; omega)⟩
      obtain ⟨b, o, rfl, hbl, hcl⟩ : ∃ b o, pa = some ⟨b, o, none⟩ ∧ b < w.heap.size ∧ ∀ j x, (tbs l)[j]? = some x → w.cell? ⟨b, o + j, none⟩ = some (.string x) := by
        rcases HCL.out with h | h
        · rw [show l = [] by simpa [tbs] using h] at he; cases he
        · exact h
      have hce := hcl i (bs e) (tbs_at he)
      have hO := own_cells HR.out.own
      have hB := HR.out.below
      have ge := HG.out e (List.mem_of_getElem? he)
      have gO : ∀ z ∈ O, okt z = true ∧ (bs z).size ≤ 300 := fun z hz => HG.out z (List.mem_of_mem_take (HR.out.perm.subset hz))
      have HO := Lib.hid hO
      have HGO := Lib.hid gO
      have HB := Lib.hid hB
      have HEE := Lib.hid (And.intro he (And.intro ge hce))
      have hbw := HB.out.size
      have hgo := HO.out.2.1
      have hgb := HO.out.1
      clear hcl hO hB ge gO he hce
      go_wp2
      go_loopw [7] (fun vk w3 => ∃ k : Nat, vk = .int .i64 k ∧ k ≤ i ∧ Hid (Below wo.heap.size wo w3) ∧ Hid (∀ t z, O[t]? = some z → k ≤ t → 0 < kcmp m z e)) (fun vk _ => (intOf vk).toNat)
      case atStart => exact ⟨i, rfl, Nat.le_refl _, Lib.hid (Below.refl _ _), Lib.hid fun t z hz ht => by have := (List.getElem?_eq_some_iff.1 hz).1; have := HO.out.2.2.2.1; omega⟩
      case round =>
        obtain ⟨k, rfl, hki, HBK, HKK⟩ := hrel
        have HFIN : Hid ((k = 0 ∨ ∃ z, O[k - 1]? = some z ∧ kle m z e) → SortedK m (O.take k ++ e :: O.drop k) ∧ (O.take k ++ e :: O.drop k).Perm (l.take (i + 1))) := Lib.hid fun hs => by
          refine ⟨sorted_ins m (by rw [List.take_append_drop]; exact HR.out.sorted) ?_ ?_, ?_⟩
          · intro z hz
            obtain ⟨t, ht, hz⟩ := mem_take_at hz
            rcases hs with h0 | ⟨y, hy, hye⟩
            · omega
            · exact kle_trans m (sorted_at m HR.out.sorted hz hy (by omega)) hye
          · intro z hz
            obtain ⟨t, ht, hz⟩ := mem_drop_at hz
            exact kle_of_not m (by have := HKK.out t z hz ht; omega)
          · refine (take_drop_perm O e k).trans ?_
            rw [List.take_add_one, HEE.out.1]
            exact (List.Perm.cons e HR.out.perm).trans (List.perm_append_comm (l₁ := [e]) (l₂ := l.take i))
        have HREST : Hid ((k = 0 ∨ ∃ z, O[k - 1]? = some z ∧ kle m z e) → True) := Lib.hid fun _ => trivial
        by_cases hk0 : 0 < k
        · have hk0z : (0 : Int) < (k : Int) := by omega
          obtain ⟨kp, rfl⟩ : ∃ kp, k = kp + 1 := ⟨k - 1, by omega⟩
          obtain ⟨z, hz⟩ : ∃ z, O[kp]? = some z := ⟨_, List.getElem?_eq_getElem (by have := HO.out.2.2.2.1; omega)⟩
          have gz := HGO.out z (List.mem_of_getElem? hz)
          have hwp : IntKind.i64.wrap (kp : Int) = (kp : Int) := by rw [IntKind.wrap_i64]; omega
          have hk1 : (kp : Int) < (i : Int) := by omega
          have hk2 : (0 : Int) < (kp : Int) + 1 := by omega
          obtain ⟨C, hC⟩ : ∃ C : World → Prop, C = fun w' => Below wo.heap.size wo w' := ⟨_, rfl⟩
          have hcells : ∀ w', C w' → w'.cell? ⟨g, kp, none⟩ = some (.string (bs z)) ∧ w'.cell? ⟨b, o + i, none⟩ = some (.string (bs e)) := by
            intro w' hw'
            rw [hC] at hw'
            refine ⟨(hw'.cell (p := ⟨g, kp, none⟩) HO.out.2.1).trans (HO.out.2.2.2.2.2 kp z hz), ?_⟩
            exact (hw'.cell (p := ⟨b, o + i, none⟩) (by show b < wo.heap.size; omega)).trans ((HB.out.cell (p := ⟨b, o + i, none⟩) hbl).trans HEE.out.2.2)
          have hcall : ∀ w', C w' → Calls Tryd.prog 20 #[.string lang, .string (bs z), .string (bs e)] w' fun e' w'' => e' = .returned (.int .i64 (kcmp m z e)) ∧ Below w'.heap.size w' w'' := by
            intro w' _
            rw [HM.out]
            exact rCompare lang z e w' gz.1 HEE.out.2.1.1 (by have := gz.2; omega) (by have := HEE.out.2.1.2; omega)
          have hstep : ∀ w' w'', C w' → Below w'.heap.size w' w'' → C w'' := by
            intro w' w'' hw' hb
            rw [hC] at hw' ⊢
            exact hw'.trans (hb.mono hw'.size)
          have hC0 : C { wr with drawn := wr.drawn + 1 } := by rw [hC]; exact HBK.out.drew
          have HC := Lib.hid hC
          obtain ⟨kc, hkc⟩ : ∃ kc, kc = kcmp m z e := ⟨_, rfl⟩
          rw [← hkc] at hcall
          have HKC := Lib.hid (And.intro hkc hz)
          clear hkc hz hC gz
          obtain ⟨EE, hEE⟩ : ∃ EE, EE = bs e := ⟨_, rfl⟩
          obtain ⟨ZZ, hZZ⟩ : ∃ ZZ, ZZ = bs z := ⟨_, rfl⟩
          rw [← hEE, ← hZZ] at hcall
          rw [← hEE, ← hZZ] at hcells
          clear hEE hZZ
          by_cases hlv : 0 < kc
          · go_wp2_with fail
            refine wp_region_quiet (C := C) (by kernel_rfl) (by kernel_rfl) hC0 ?_
            show wpQuiet _ _ _ _ [_, _, _, _, _, _, _, _, _, _, _, _, _, _, _, _] _
            repeat
              refine wpQuiet_step (fun K hK => ?_)
              go_simp
              first
                | (refine hK _ ?_; clear hK K)
                | (apply Exists.intro
                   refine ⟨fun w' hw' => ?_, hK _ ?_⟩
                   · first
                     | with_reducible rfl
                     | (obtain ⟨q0, q1⟩ := hcells w' hw'; go_simp; with_reducible rfl)
                     | ((first
                         | with_reducible refine (hcall w' hw').mono ?_)
                        exact fun e w'' ⟨he, hb⟩ => ⟨he, hstep w' w'' hw' hb⟩)
                   clear hK K)
            refine wpQuiet_nil ?_
            intro w2 hw2
            have HW2 : Hid (Below wo.heap.size wo w2) := Lib.hid (by have := hw2; rw [HC.out] at this; exact this)
            have HK2 : Hid (∀ t y, O[t]? = some y → kp ≤ t → 0 < kcmp m y e) := Lib.hid fun t y hy ht => by
              by_cases h : t = kp
              · subst h
                rw [HKC.out.2] at hy
                cases hy
                rw [← HKC.out.1]
                exact hlv
              · exact HKK.out t y hy (by omega)
            clear hcells hcall hstep hC0 hw2
            go_wp2
            go_roundw
            case rel => exact ⟨kp, by go_num, by omega, HW2, HK2⟩
            case measure => simp [intOf]
          · go_wp2_with fail
            refine wp_region_quiet (C := C) (by kernel_rfl) (by kernel_rfl) hC0 ?_
            show wpQuiet _ _ _ _ [_, _, _, _, _, _, _, _, _, _, _, _, _, _, _, _] _
            repeat
              refine wpQuiet_step (fun K hK => ?_)
              go_simp
              first
                | (refine hK _ ?_; clear hK K)
                | (apply Exists.intro
                   refine ⟨fun w' hw' => ?_, hK _ ?_⟩
                   · first
                     | with_reducible rfl
                     | (obtain ⟨q0, q1⟩ := hcells w' hw'; go_simp; with_reducible rfl)
                     | ((first
                         | with_reducible refine (hcall w' hw').mono ?_)
                        exact fun e w'' ⟨he, hb⟩ => ⟨he, hstep w' w'' hw' hb⟩)
                   clear hK K)
            refine wpQuiet_nil ?_
            intro w2 hw2
            have HW2 : Hid (Below wo.heap.size wo w2) := Lib.hid (by have := hw2; rw [HC.out] at this; exact this)
            have HF := Lib.hid (HFIN.out (.inr ⟨z, HKC.out.2, by unfold kle; rw [← HKC.out.1]; omega⟩))
            clear hcells hcall hstep hC0 hw2
            have hkpi : kp + 1 ≤ i := by omega
            obtain ⟨K, hK⟩ : ∃ K : Nat, (kp : Int) + 1 = (K : Int) := ⟨kp + 1, by omega⟩
            obtain ⟨hK1, hK2⟩ : K ≤ kp + 1 ∧ kp + 1 ≤ K := by omega
            have HF' : Hid (SortedK m (O.take K ++ e :: O.drop K) ∧ (O.take K ++ e :: O.drop K).Perm (l.take (i + 1))) := Lib.hid (by rw [show K = kp + 1 by omega]; exact HF.out)
            go_step
            rw [hK]
            clear hK HF
            have hsz2 : wo.heap.size ≤ w2.heap.size := HW2.out.size
            have hwz2 : w.heap.size ≤ w2.heap.size := by omega
            go_wp2_with (at_builtin; refine wpList_append_own _ rfl _ _ 23 rfl wo.heap.size 9 i0 (.string ⟨#[]⟩) 1 16 Tryd.underlying23 HI.out HZ0.out HZ1.out HZ2.out rfl (by decide) _ _ _ rfl (World.ownsRow_made _ #[] 0 ?b0 (Nat.zero_le _) (by simp)) ⟨g, 0, none⟩ _ cap ((tbs (O.take K)).map Value.string) rfl ?b1 ?b2 ?b3 ?b4 ?b5 ?b6 ?_)
            case b0 => omega
            case b1 => have := HO.out.2.2.2.1; simp [tbs]; try omega
            case b2 =>
              intro j u hj
              obtain ⟨x, hx, rfl⟩ := cell_at_str hj
              rw [Addr.add_lit, Nat.zero_add]
              have hjk : j < K := by have := (List.getElem?_eq_some_iff.1 hx).1; simp at this; omega
              rw [List.getElem?_take_of_lt hjk] at hx
              exact Lib.cell?_alloc_some _ ((HW2.out.cell (p := ⟨g, j, none⟩) HO.out.2.1).trans (HO.out.2.2.2.2.2 j x hx))
            case b3 =>
              intro u hu
              obtain ⟨x, _, rfl⟩ := List.mem_map.1 hu
              rfl
            case b4 => unfold maxLen; omega
            case b5 => omega
            case b6 => simp; omega
            intro v1 wA hown1 hgrow1 hnil1
            have bA : Hid (Below wo.heap.size wo wA) := Lib.hid ((HW2.out.alloc hsz2 _).grown hgrow1 (by simp; omega) (by intro q hq; simp [Value.ownBlock] at hq; omega))
            have cA : wA.cell? ⟨b, o + i, none⟩ = some (.string (bs e)) := (bA.out.cell (p := ⟨b, o + i, none⟩) (by show b < wo.heap.size; omega)).trans ((HB.out.cell (p := ⟨b, o + i, none⟩) hbl).trans HEE.out.2.2)
            have hszA : wo.heap.size ≤ wA.heap.size := bA.out.size
            have HV1 := Lib.hid hnil1
            clear hnil1 hgrow1
            go_wp2_with (at_builtin; refine wpList_append_own _ rfl _ _ 23 rfl wo.heap.size 9 i0 (.string ⟨#[]⟩) 1 16 Tryd.underlying23 HI.out HZ0.out HZ1.out HZ2.out rfl (by decide) _ _ _ rfl (hown1.alloc _) ⟨wA.heap.size, 0, none⟩ 1 1 [.string (bs e)] rfl rfl ?c1 ?c2 ?c3 ?c4 ?c5 ?_)
            case c1 => exact cell_one_new _ _ _
            case c2 => simp [Value.oneCell']
            case c3 => unfold maxLen; omega
            case c4 => omega
            case c5 => simp; omega
            intro v2 wB hown2 hgrow2 hnil2
            have bB : Hid (Below wo.heap.size wo wB) := Lib.hid ((bA.out.alloc hszA _).grown hgrow2 (by simp; omega) (fun q hq => (hown1.lt q hq).1))
            have hszB : wo.heap.size ≤ wB.heap.size := bB.out.size
            have HV2 : Hid (v2 ≠ .slice none 0 0) := Lib.hid hnil2
            clear hgrow2 hnil2 cA
            by_cases hcK : cap ≤ K
            · skip
              go_wp2_with (at_builtin; refine wpList_append_own _ rfl _ _ 23 rfl wo.heap.size 9 i0 (.string ⟨#[]⟩) 1 16 Tryd.underlying23 HI.out HZ0.out HZ1.out HZ2.out rfl (by decide) _ _ _ rfl hown2 _ _ _ ((tbs (O.drop K)).map Value.string) rfl ?d1 ?d2 ?d3 ?d4 ?d5 ?d6 ?_)
              case d1 => have := HO.out.2.2.2.1; simp [tbs]; omega
              case d2 =>
                intro j u hj
                obtain ⟨x, hx, rfl⟩ := cell_at_str hj
                rw [List.getElem?_drop] at hx
                have h1 := (List.getElem?_eq_some_iff.1 hx).1
                have h2 := HO.out.2.2.2.1
                omega
              case d3 =>
                intro u hu
                obtain ⟨x, _, rfl⟩ := List.mem_map.1 hu
                rfl
              case d4 => unfold maxLen; omega
              case d5 => omega
              case d6 => omega
              intro v3 wC hown3 hgrow3 hnil3
              have bC : Hid (Below wo.heap.size wo wC) := Lib.hid (bB.out.grown hgrow3 hszB (fun q hq => (hown2.lt q hq).1))
              have hv3 : v3 ≠ .slice none 0 0 := by intro h; exact HV2.out (hnil3.1 h).1
              obtain ⟨g3, cap3, rfl⟩ := own_some hown3 hv3
              have hl := HO.out.2.2.2.1
              have en := own_n hown3 (show _ = i + 1 by simp [tbs]; omega)
              rw [en] at hown3
              have hown3' := own_eq (own_base hown3 hbw) (show _ = (tbs (O.take K ++ e :: O.drop K)).map Value.string by simp [tbs])
              have hcap3 := (own_cells hown3').2.2.1
              have HFIN3 : Hid (RSt w wC (.slice (some ⟨g3, 0, none⟩) (i + 1) cap3) m (i + 1) l (O.take K ++ e :: O.drop K)) := Lib.hid ⟨hown3', HB.out.trans (bC.out.mono hbw), HF'.out.1, HF'.out.2, by simp; omega⟩
              clear hown3 hown3' hgrow3 hnil3 hv3 hl
              try rw [en]
              clear en
              go_wp2
              go_roundw
              case rel => exact ⟨i + 1, g3, cap3, _, by go_num, rfl, by omega, hcap3, HFIN3⟩
              case measure => simp [intOf]; omega
            · skip
              go_wp2_with (at_builtin; refine wpList_append_own _ rfl _ _ 23 rfl wo.heap.size 9 i0 (.string ⟨#[]⟩) 1 16 Tryd.underlying23 HI.out HZ0.out HZ1.out HZ2.out rfl (by decide) _ _ _ rfl hown2 _ (i - K) (cap - K) ((tbs (O.drop K)).map Value.string) rfl ?d1 ?d2 ?d3 ?d4 ?d5 ?d6 ?_)
              case d1 => have := HO.out.2.2.2.1; simp [tbs]; omega
              case d2 =>
                intro j u hj
                obtain ⟨x, hx, rfl⟩ := cell_at_str hj
                rw [List.getElem?_drop] at hx
                rw [Addr.add_lit]
                exact (bB.out.cell (p := ⟨g, _, none⟩) HO.out.2.1).trans (HO.out.2.2.2.2.2 _ x hx)
              case d3 =>
                intro u hu
                obtain ⟨x, _, rfl⟩ := List.mem_map.1 hu
                rfl
              case d4 => unfold maxLen; omega
              case d5 => omega
              case d6 => omega
              intro v3 wC hown3 hgrow3 hnil3
              have bC : Hid (Below wo.heap.size wo wC) := Lib.hid (bB.out.grown hgrow3 hszB (fun q hq => (hown2.lt q hq).1))
              have hv3 : v3 ≠ .slice none 0 0 := by intro h; exact HV2.out (hnil3.1 h).1
              obtain ⟨g3, cap3, rfl⟩ := own_some hown3 hv3
              have hl := HO.out.2.2.2.1
              have en := own_n hown3 (show _ = i + 1 by simp [tbs]; omega)
              rw [en] at hown3
              have hown3' := own_eq (own_base hown3 hbw) (show _ = (tbs (O.take K ++ e :: O.drop K)).map Value.string by simp [tbs])
              have hcap3 := (own_cells hown3').2.2.1
              have HFIN3 : Hid (RSt w wC (.slice (some ⟨g3, 0, none⟩) (i + 1) cap3) m (i + 1) l (O.take K ++ e :: O.drop K)) := Lib.hid ⟨hown3', HB.out.trans (bC.out.mono hbw), HF'.out.1, HF'.out.2, by simp; omega⟩
              clear hown3 hown3' hgrow3 hnil3 hv3 hl
              try rw [en]
              clear en
              go_wp2
              go_roundw
              case rel => exact ⟨i + 1, g3, cap3, _, by go_num, rfl, by omega, hcap3, HFIN3⟩
              case measure => simp [intOf]; omega
        · have hk0z : ¬ (0 : Int) < (k : Int) := by omega
          have HF' := Lib.hid (HFIN.out (.inl (by omega)))
          have hkz : k ≤ 0 := by omega
          have hkdr : Hid (Below wo.heap.size wo wr.drew) := Lib.hid HBK.out.drew
          go_wp2_with fail
          go_region
          generalize wr.drew = w2 at hkdr ⊢
          have HW2 := hkdr
          have hsz2 : wo.heap.size ≤ w2.heap.size := HW2.out.size
          have hwz2 : w.heap.size ≤ w2.heap.size := by omega
          go_wp2_with (at_builtin; refine wpList_append_own _ rfl _ _ 23 rfl wo.heap.size 9 i0 (.string ⟨#[]⟩) 1 16 Tryd.underlying23 HI.out HZ0.out HZ1.out HZ2.out rfl (by decide) _ _ _ rfl (World.ownsRow_made _ #[] 0 ?b0 (Nat.zero_le _) (by simp)) ⟨g, 0, none⟩ _ cap ((tbs (O.take k)).map Value.string) rfl ?b1 ?b2 ?b3 ?b4 ?b5 ?b6 ?_)
          case b0 => omega
          case b1 => have := HO.out.2.2.2.1; simp [tbs]; try omega
          case b2 =>
            intro j u hj
            obtain ⟨x, hx, rfl⟩ := cell_at_str hj
            rw [Addr.add_lit, Nat.zero_add]
            have hjk : j < k := by have := (List.getElem?_eq_some_iff.1 hx).1; simp at this; omega
            rw [List.getElem?_take_of_lt hjk] at hx
            exact Lib.cell?_alloc_some _ ((HW2.out.cell (p := ⟨g, j, none⟩) HO.out.2.1).trans (HO.out.2.2.2.2.2 j x hx))
          case b3 =>
            intro u hu
            obtain ⟨x, _, rfl⟩ := List.mem_map.1 hu
            rfl
          case b4 => unfold maxLen; omega
          case b5 => omega
          case b6 => simp; omega
          intro v1 wA hown1 hgrow1 hnil1
          have bA : Hid (Below wo.heap.size wo wA) := Lib.hid ((HW2.out.alloc hsz2 _).grown hgrow1 (by simp; omega) (by intro q hq; simp [Value.ownBlock] at hq; omega))
          have cA : wA.cell? ⟨b, o + i, none⟩ = some (.string (bs e)) := (bA.out.cell (p := ⟨b, o + i, none⟩) (by show b < wo.heap.size; omega)).trans ((HB.out.cell (p := ⟨b, o + i, none⟩) hbl).trans HEE.out.2.2)
          have hszA : wo.heap.size ≤ wA.heap.size := bA.out.size
          have HV1 := Lib.hid hnil1
          clear hnil1 hgrow1
          go_wp2_with (at_builtin; refine wpList_append_own _ rfl _ _ 23 rfl wo.heap.size 9 i0 (.string ⟨#[]⟩) 1 16 Tryd.underlying23 HI.out HZ0.out HZ1.out HZ2.out rfl (by decide) _ _ _ rfl (hown1.alloc _) ⟨wA.heap.size, 0, none⟩ 1 1 [.string (bs e)] rfl rfl ?c1 ?c2 ?c3 ?c4 ?c5 ?_)
          case c1 => exact cell_one_new _ _ _
          case c2 => simp [Value.oneCell']
          case c3 => unfold maxLen; omega
          case c4 => omega
          case c5 => simp; omega
          intro v2 wB hown2 hgrow2 hnil2
          have bB : Hid (Below wo.heap.size wo wB) := Lib.hid ((bA.out.alloc hszA _).grown hgrow2 (by simp; omega) (fun q hq => (hown1.lt q hq).1))
          have hszB : wo.heap.size ≤ wB.heap.size := bB.out.size
          have HV2 : Hid (v2 ≠ .slice none 0 0) := Lib.hid hnil2
          clear hgrow2 hnil2 cA
          by_cases hcK : cap ≤ k
          · skip
            go_wp2_with (at_builtin; refine wpList_append_own _ rfl _ _ 23 rfl wo.heap.size 9 i0 (.string ⟨#[]⟩) 1 16 Tryd.underlying23 HI.out HZ0.out HZ1.out HZ2.out rfl (by decide) _ _ _ rfl hown2 _ _ _ ((tbs (O.drop k)).map Value.string) rfl ?d1 ?d2 ?d3 ?d4 ?d5 ?d6 ?_)
            case d1 => have := HO.out.2.2.2.1; simp [tbs]; omega
            case d2 =>
              intro j u hj
              obtain ⟨x, hx, rfl⟩ := cell_at_str hj
              rw [List.getElem?_drop] at hx
              have h1 := (List.getElem?_eq_some_iff.1 hx).1
              have h2 := HO.out.2.2.2.1
              omega
            case d3 =>
              intro u hu
              obtain ⟨x, _, rfl⟩ := List.mem_map.1 hu
              rfl
            case d4 => unfold maxLen; omega
            case d5 => omega
            case d6 => omega
            intro v3 wC hown3 hgrow3 hnil3
            have bC : Hid (Below wo.heap.size wo wC) := Lib.hid (bB.out.grown hgrow3 hszB (fun q hq => (hown2.lt q hq).1))
            have hv3 : v3 ≠ .slice none 0 0 := by intro h; exact HV2.out (hnil3.1 h).1
            obtain ⟨g3, cap3, rfl⟩ := own_some hown3 hv3
            have hl := HO.out.2.2.2.1
            have en := own_n hown3 (show _ = i + 1 by simp [tbs]; omega)
            rw [en] at hown3
            have hown3' := own_eq (own_base hown3 hbw) (show _ = (tbs (O.take k ++ e :: O.drop k)).map Value.string by simp [tbs])
            have hcap3 := (own_cells hown3').2.2.1
            have HFIN3 : Hid (RSt w wC (.slice (some ⟨g3, 0, none⟩) (i + 1) cap3) m (i + 1) l (O.take k ++ e :: O.drop k)) := Lib.hid ⟨hown3', HB.out.trans (bC.out.mono hbw), HF'.out.1, HF'.out.2, by simp; omega⟩
            clear hown3 hown3' hgrow3 hnil3 hv3 hl
            try rw [en]
            clear en
            go_wp2
            go_roundw
            case rel => exact ⟨i + 1, g3, cap3, _, by go_num, rfl, by omega, hcap3, HFIN3⟩
            case measure => simp [intOf]; omega
          · skip
            go_wp2_with (at_builtin; refine wpList_append_own _ rfl _ _ 23 rfl wo.heap.size 9 i0 (.string ⟨#[]⟩) 1 16 Tryd.underlying23 HI.out HZ0.out HZ1.out HZ2.out rfl (by decide) _ _ _ rfl hown2 _ (i - k) (cap - k) ((tbs (O.drop k)).map Value.string) rfl ?d1 ?d2 ?d3 ?d4 ?d5 ?d6 ?_)
            case d1 => have := HO.out.2.2.2.1; simp [tbs]; omega
            case d2 =>
              intro j u hj
              obtain ⟨x, hx, rfl⟩ := cell_at_str hj
              rw [List.getElem?_drop] at hx
              rw [Addr.add_lit]
              exact (bB.out.cell (p := ⟨g, _, none⟩) HO.out.2.1).trans (HO.out.2.2.2.2.2 _ x hx)
            case d3 =>
              intro u hu
              obtain ⟨x, _, rfl⟩ := List.mem_map.1 hu
              rfl
            case d4 => unfold maxLen; omega
            case d5 => omega
            case d6 => omega
            intro v3 wC hown3 hgrow3 hnil3
            have bC : Hid (Below wo.heap.size wo wC) := Lib.hid (bB.out.grown hgrow3 hszB (fun q hq => (hown2.lt q hq).1))
            have hv3 : v3 ≠ .slice none 0 0 := by intro h; exact HV2.out (hnil3.1 h).1
            obtain ⟨g3, cap3, rfl⟩ := own_some hown3 hv3
            have hl := HO.out.2.2.2.1
            have en := own_n hown3 (show _ = i + 1 by simp [tbs]; omega)
            rw [en] at hown3
            have hown3' := own_eq (own_base hown3 hbw) (show _ = (tbs (O.take k ++ e :: O.drop k)).map Value.string by simp [tbs])
            have hcap3 := (own_cells hown3').2.2.1
            have HFIN3 : Hid (RSt w wC (.slice (some ⟨g3, 0, none⟩) (i + 1) cap3) m (i + 1) l (O.take k ++ e :: O.drop k)) := Lib.hid ⟨hown3', HB.out.trans (bC.out.mono hbw), HF'.out.1, HF'.out.2, by simp; omega⟩
            clear hown3 hown3' hgrow3 hnil3 hv3 hl
            try rw [en]
            clear en
            go_wp2
            go_roundw
            case rel => exact ⟨i + 1, g3, cap3, _, by go_num, rfl, by omega, hcap3, HFIN3⟩
            case measure => simp [intOf]; omega
    · have hltz : ¬ (i : Int) < (n : Int) := by omega
      go_wp2
      go_ret
      have hin : i = l.length := by have := HN.out; omega
      refine ⟨O, ⟨_, rfl, Strs.of_own HR.out.own (by rw [tbs_len, HR.out.len]), HR.out.below⟩, ?_, HR.out.sorted⟩
      have := HR.out.perm
      rwa [List.take_of_length_le (by omega)] at this
end Go.Proofs.YtieapjdkbigejaaDoor
