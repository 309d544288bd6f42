/- The walk of the reference's Sorted (layer 08). -/
import Derived.Test.YtkfjeolpbopcnaaGreatDoorDso
import Derived.Test.YtkfjeolpbopcnaaGreatDoorEd
import Derived.Deep.Quiet
namespace Go.Proofs.YtkfjeolpbopcnaaGreatDoor
open Go Go.RowKit

theorem gt_cases (a b : List UInt8) : (Op.bytesLess a b = true ∧ (a == b) = false ∧ ¬ Lib.compareBytes b a < 0) ∨ (Op.bytesLess a b = false ∧ (a == b) = true ∧ ¬ Lib.compareBytes b a < 0) ∨ (Op.bytesLess a b = false ∧ (a == b) = false ∧ Lib.compareBytes b a < 0) := by
  have h1 := less_cmp a b
  have h2 := cmp_neg a b
  have h3 := cmp_eq a b
  by_cases h : a = b
  · have := h3.2 h
    exact .inr (.inl ⟨by rw [h1]; exact decide_eq_false (by omega), by rw [h]; simp, by omega⟩)
  · have hb : (a == b) = false := by rw [beq_eq_false_iff_ne]; exact h
    have : Lib.compareBytes a b ≠ 0 := fun e => h (h3.1 e)
    by_cases hl : Lib.compareBytes a b < 0
    · exact .inl ⟨by rw [h1]; exact decide_eq_true hl, hb, by omega⟩
    · exact .inr (.inr ⟨by rw [h1]; exact decide_eq_false hl, hb, by omega⟩)
theorem insT_at {l : List Fld} {f : Fld} {k : Nat} (h1 : ∀ z ∈ l.drop k, kcmp K0 f z < 0) (h2 : k = 0 ∨ ∃ z, l[k - 1]? = some z ∧ ¬ kcmp K0 f z < 0) : insT l f = l.take k ++ f :: l.drop k := by
  have hr : l.reverse = (l.drop k).reverse ++ (l.take k).reverse := by rw [← List.reverse_append, List.take_append_drop]
  have ht : ∀ x ∈ (l.drop k).reverse, (fun x => decide (kcmp K0 f x < 0)) x = true := fun x hx => decide_eq_true (h1 x (List.mem_reverse.1 hx))
  have hh : (l.take k).reverse.takeWhile (fun x => decide (kcmp K0 f x < 0)) = [] ∧ (l.take k).reverse.dropWhile (fun x => decide (kcmp K0 f x < 0)) = (l.take k).reverse := by
    rcases h2 with rfl | ⟨z, hz, hn⟩
    · simp
    · by_cases hk : k = 0
      · subst hk; simp
      · obtain ⟨kp, rfl⟩ : ∃ kp, k = kp + 1 := ⟨k - 1, by omega⟩
        rw [Nat.add_sub_cancel] at hz
        rw [List.take_add_one, hz, Option.toList_some, List.reverse_append, List.reverse_singleton, List.singleton_append, List.takeWhile_cons, List.dropWhile_cons, decide_eq_false hn]
        simp
  unfold insT
  rw [hr, List.takeWhile_append_of_pos ht, List.dropWhile_append_of_pos ht, hh.1, hh.2]
  simp
theorem foldI_step {l : List Fld} {k : Nat} {f : Fld} (h : l[k]? = some f) : (l.take (k + 1)).foldl insT [] = insT ((l.take k).foldl insT []) f := by
  rw [List.take_add_one, h, Option.toList_some, List.foldl_append]
  rfl
theorem foldI_len (l : List Fld) : ∀ s : List Fld, (l.foldl insT s).length = s.length + l.length := by
  induction l with
  | nil => intro s; rfl
  | cons x r ih => intro s; rw [List.foldl_cons, ih, insT_len, List.length_cons]; omega
theorem foldI_mem {l : List Fld} {f : Fld} (h : f ∈ l.foldl insT []) : f ∈ l := by
  have := (sortR_good l [] List.Pairwise.nil).2
  simpa using this.subset h
theorem own_some {w : World} {B : Nat} {v : Value} {l : List Fld} (h : OwnR w B v l) (hl : 0 < l.length) : ∃ g c, v = .slice (some ⟨g, 0, none⟩) l.length c ∧ l.length ≤ c ∧ B ≤ g ∧ g < w.heap.size := by
  rcases h.2 with ⟨rfl, h0⟩ | ⟨g, cap, cur, e, hb, hh, hc, _⟩
  · omega
  · exact ⟨g, cap, e, hc, hb, (Array.getElem?_eq_some_iff.1 hh).1⟩
theorem own_mono {w : World} {B B' k n : Nat} {T : TypeId} {v : Value} {l : List Value} (h : w.ownsRow B T k v n l) (hB : B' ≤ B) : w.ownsRow B' T k v n l := by
  refine ⟨h.1, ?_⟩
  rcases h.2 with h0 | ⟨g, cap, cur, e, hb, r⟩
  · exact .inl h0
  · exact .inr ⟨g, cap, cur, e, Nat.le_trans hB hb, r⟩
set_option maxRecDepth 100000 in
set_option maxHeartbeats 4000000 in
theorem rSorted (x : Rcd) (w : World) (hx : RcdAt w x) (hl : x.r.fields.length ≤ 900) :
    Calls Tryz.prog 26 #[recV5 x] w (RetR1 w (withL x.r (sortR x.r.fields))) := by
  have HFL : Hid (∀ W, Below w.heap.size w W → Flds W (.slice x.sa x.r.fields.length x.sc) x.r.fields) := Lib.hid (fun W h => Flds.below hx h (Nat.le_refl _))
  unfold recV5 withL
  obtain ⟨⟨id, ver, kind, lang, rf⟩, ra, rc⟩ := x
  simp only at HFL hl ⊢
  obtain ⟨rn, hrn⟩ : ∃ n, n = rf.length := ⟨_, rfl⟩
  rw [← hrn] at HFL hl ⊢
  have HRN := Lib.hid hrn
  obtain ⟨W0, hW0⟩ : ∃ W, W = (w.alloc (recO id ver kind lang ra rn rc)).alloc (recO 0 0 0 ⟨#[]⟩ none 0 0) := ⟨_, rfl⟩
  have hB0 : Below w.heap.size w W0 := by rw [hW0]; exact (Below.refl _ _).alloc2 (Nat.le_refl _) _ _
  have h0 : W0.heap[w.heap.size]? = some (recO id ver kind lang ra rn rc) := by rw [hW0]; exact (alloc_old (by simp)).trans (alloc_at rfl)
  have h1 : W0.heap[w.heap.size + 1]? = some (recO 0 0 0 ⟨#[]⟩ none 0 0) := by rw [hW0]; exact alloc_at (by simp)
  have hs0 : W0.heap.size = w.heap.size + 2 := by rw [hW0]; simp
  have HBK : Hid (∀ W, Below W0.heap.size W0 W → W.heap[w.heap.size]? = some (recO id ver kind lang ra rn rc) ∧ W.heap[w.heap.size + 1]? = some (recO 0 0 0 ⟨#[]⟩ none 0 0) ∧ Below w.heap.size w W ∧ w.heap.size + 2 ≤ W.heap.size) := Lib.hid (fun W h => ⟨(h.block _ (by omega)).trans h0, (h.block _ (by omega)).trans h1, hB0.bt h, by have := h.size; omega⟩)
  have HW0 := Lib.hid hW0
  have HS0 := Lib.hid hs0
  clear hx hrn hB0 h0 h1 hs0
  go_enter Tryz.func26, Tryz.ntmps26
  go_wp2
  go_loopw [3, 4] (fun v i wr => ∃ k : Nat, i = .int .i64 k ∧ k ≤ rn ∧ (∃ g c, v = .slice (some ⟨g, 0, none⟩) k c ∧ k ≤ c) ∧ Hid (OwnR wr W0.heap.size v ((rf.take k).foldl insT [])) ∧ Hid (Below W0.heap.size W0 wr)) (fun _ i _ => rn - (intOf i).toNat)
  case atStart =>
    rw [← hW0]
    exact ⟨0, rfl, by omega, ⟨_, 0, rfl, Nat.le_refl _⟩, Lib.hid (OwnR.made _ _ _ HS0.out.symm (by rw [HS0.out]; omega)), Lib.hid ((Below.refl _ _).alloc (Nat.le_refl _) _)⟩
  case round =>
    clear hW0
    obtain ⟨i, rfl, hi, ⟨g, vc, rfl, hvc⟩, HO, HB⟩ := hrel
    obtain ⟨wo, rfl⟩ : ∃ W, W = wr := ⟨_, rfl⟩
    have d4 := Lib.cell_of_heap (HBK.out wo HB.out).1 4
    by_cases hlt : i < rn
    · have hltz : (i : Int) < (rn : Int) := by omega
      obtain ⟨f, hf⟩ : ∃ x, rf[i]? = some x := ⟨_, List.getElem?_eq_getElem (by have := HRN.out; omega)⟩
      have hst := foldI_step hf
      obtain ⟨S, hS⟩ : ∃ S, S = (rf.take i).foldl insT [] := ⟨_, rfl⟩
      rw [← hS] at HO hst
      have hSl : S.length = i := by rw [hS, foldI_len, List.length_take]; have := HRN.out; simp; omega
      obtain ⟨b, o, hra, hb1, hcl⟩ : ∃ b o, ra = some ⟨b, o, none⟩ ∧ b < w.heap.size ∧ Four w b (o + i * 4) f := by
        obtain ⟨⟨a', c', he, hc, h0 | ⟨b, o, ha, hb, hcl⟩⟩, -⟩ := HFL.out w (Below.refl _ _)
        · rw [h0] at hf; cases hf
        · cases he
          exact ⟨b, o, ha, hb, four_of (hcl i f hf)⟩
      subst hra
      have HFO : Hid (∀ W, Below w.heap.size w W → Four W b (o + i * 4) f) := Lib.hid (fun W h => hcl.below h hb1)
      have HST := Lib.hid hst
      have HSL := Lib.hid hSl
      have HRS : Hid (∀ W, Below wo.heap.size wo W → Rows fldE 4 W (.slice (some ⟨g, 0, none⟩) i vc) S) := Lib.hid (fun W h => Rows.of_own fldE_len (own_below HO.out h) rfl)
      clear hf hst hS hSl hcl HW0
      go_wp2
      go_loopw [5] (fun j wj => ∃ k : Nat, j = .int .i64 k ∧ k ≤ i ∧ Hid (∀ z ∈ S.drop k, kcmp K0 f z < 0) ∧ Hid (Below wo.heap.size wo wj)) (fun j _ => (intOf j).toNat)
      case atStart => exact ⟨i, rfl, Nat.le_refl _, Lib.hid (by intro z hz; rw [List.drop_eq_nil_of_le (by have := HSL.out; omega)] at hz; cases hz), Lib.hid (Below.refl _ _)⟩
      case round =>
        obtain ⟨k, rfl, hki, HK, HJ⟩ := hrel
        obtain ⟨wq, rfl⟩ : ∃ W, W = wr := ⟨_, rfl⟩
        have d5 := Lib.cell_of_heap (HBK.out wq (HB.out.bt HJ.out)).1 4
        by_cases hk0 : 0 < k
        · obtain ⟨kp, rfl⟩ : ∃ kp, k = kp + 1 := ⟨k - 1, by omega⟩
          obtain ⟨z, hz⟩ : ∃ x, S[kp]? = some x := ⟨_, List.getElem?_eq_getElem (by have := HSL.out; omega)⟩
          have jz1 : (kp : Int) < (i : Int) := by omega
          have p0 : (0 : Int) < (kp : Int) + 1 := by omega
          have p1 : (0 : Int) ≤ (kp : Int) + 1 := by omega
          have hwp : IntKind.i64.wrap (kp : Int) = (kp : Int) := by rw [IntKind.wrap_i64]; omega
          obtain ⟨T, hT⟩ : ∃ T, T = lb f.tag := ⟨_, rfl⟩
          obtain ⟨Z, hZ⟩ : ∃ T, T = lb z.tag := ⟨_, rfl⟩
          have hg : (Op.bytesLess Z.toList T.toList = true ∧ (Z.toList == T.toList) = false ∧ ¬ kcmp K0 f z < 0) ∨ (Op.bytesLess Z.toList T.toList = false ∧ (Z.toList == T.toList) = true ∧ ¬ kcmp K0 f z < 0) ∨ (Op.bytesLess Z.toList T.toList = false ∧ (Z.toList == T.toList) = false ∧ kcmp K0 f z < 0) := by
            rw [hT, hZ, lb_list, lb_list]
            exact gt_cases z.tag f.tag
          have hz4 : ∀ W, Below wo.heap.size wo W → W.cell? ⟨g, kp * 4, none⟩ = some (.string Z) := fun W h => by
            have h2 := (HRS.out W h).cells fldE_len (by decide) (kp * 4) (.string (lb z.tag)) (by
              have := flatE_at fldE_len S kp z hz 0 (by decide)
              rw [Nat.add_zero] at this
              rw [this]
              rfl)
            rw [Addr.add_lit, Nat.zero_add] at h2
            rw [hZ]
            exact h2
          obtain ⟨C, hC⟩ : ∃ C : World → Prop, C = fun w' => Below wq.heap.size wq w' := ⟨_, rfl⟩
          have hCB : ∀ w', C w' → Below wo.heap.size wo w' := fun w' h => by rw [hC] at h; exact HJ.out.bt h
          have hC0 : C { wq with drawn := wq.drawn + 1 } := by rw [hC]; exact (Below.refl _ _).drew
          have hcells : ∀ w', C w' → w'.cell? ⟨g, kp * 4, none⟩ = some (.string Z) ∧ w'.cell? ⟨w.heap.size, 4, none⟩ = some (.slice (some ⟨b, o, none⟩) rn rc) ∧ w'.cell? ⟨b, o + i * 4, none⟩ = some (.string T) := fun w' h => by
            have h1 := hCB w' h
            obtain ⟨e0, -, e2, -⟩ := HBK.out w' (HB.out.bt h1)
            refine ⟨hz4 w' h1, (Lib.cell_of_heap e0 4).trans rfl, ?_⟩
            rw [hT]
            exact (HFO.out w' e2).c0
          have HGG := Lib.hid hz
          clear hC hz hT hZ hz4 hk0 d4
          rcases hg with ⟨hA, hE, hlc⟩ | ⟨hA, hE, hlc⟩ | ⟨hA, hE, hlc⟩
          all_goals
            have HLC := Lib.hid hlc
            clear hlc
            go_wp2_with fail
            refine wp_region_quiet (C := C) (by kernel_rfl) (by kernel_rfl) hC0 ?_
            show wpQuiet _ _ _ _ [_, _, _, _, _, _, _, _, _, _, _, _, _, _, _, _, _] _
            repeat
              with_reducible refine wpQuiet_step (fun K hK => ?_)
              go_simp
              first
                | (with_reducible refine hK _ ?_; clear hK K)
                | (apply Exists.intro
                   with_reducible refine ⟨fun w' hw' => ?_, hK _ ?_⟩
                   · first
                     | with_reducible rfl
                     | (obtain ⟨q0, q1, q2⟩ := hcells w' hw'; go_simp; with_reducible rfl)
                   clear hK K)
            refine wpQuiet_nil ?_
            intro w2 hw2
            have HJ2 : Hid (Below wo.heap.size wo w2) := Lib.hid (hCB w2 hw2)
            clear hcells hCB hw2
          · have HINS : Hid (insT S f = S.take (kp + 1) ++ f :: S.drop (kp + 1)) := Lib.hid (insT_at HK.out (.inr ⟨z, by simpa using HGG.out, by have := HLC.out; omega⟩))
            clear HGG
            have HTK : Hid (∀ W, Below w2.heap.size w2 W → ∀ ad, some (⟨g, 0, none⟩ : Addr) = some ad → ∀ j u, (flatE fldE (S.take (kp + 1)))[j]? = some u → W.cell? (ad.add j) = some u) := Lib.hid (fun W h ad e => by cases e; exact cells_take (HRS.out W (HJ2.out.bt h)) (kp + 1))
            have HDR : Hid (∀ W, Below w2.heap.size w2 W → ∀ ad, some (⟨g, (kp + 1) * 4, none⟩ : Addr) = some ad → ∀ j u, (flatE fldE (S.drop (kp + 1)))[j]? = some u → W.cell? (ad.add j) = some u) := Lib.hid (fun W h ad e j u hj => by
              cases e
              have := cells_drop (HRS.out W (HJ2.out.bt h)) (kp + 1) (by have := HSL.out; omega) j u hj
              rw [Addr.add_lit] at this ⊢
              rw [Nat.zero_add] at this
              exact this)
            have hki1 : (kp + 1) ≤ vc := by omega
            have hki2 : (((kp + 1) : Nat) : Int) ≤ (i : Int) := by omega
            have hcap : vc = (kp + 1) ∨ ¬ vc = (kp + 1) := Decidable.em _
            rcases hcap with hcap | hcap
            · have HVC : Hid (i = (kp + 1)) := Lib.hid (by omega)
              clear hki1 hvc
              subst hcap
              clear d5
              have d5 := Lib.cell_of_heap (HBK.out w2 (HB.out.bt HJ2.out)).1 4
              go_wp2_with (at_builtin; refine append_rows rfl _ _ rfl w2.heap.size (.slice (some ⟨w2.heap.size, 0, none⟩) 0 0) [] rfl (OwnR.made _ _ _ rfl (Nat.le_refl _)) (some ⟨g, 0, none⟩) _ _ (S.take (kp + 1)) rfl (by rw [List.length_take]; have := HSL.out; omega) (by intro e; cases e) (HTK.out _ ((Below.refl _ _).alloc (Nat.le_refl _) _)) (by simp only [List.length_nil]; omega) (by simp) ?_)
              intro v1 wa ho1 ba
              have HO1 : Hid (OwnR wa w2.heap.size v1 (S.take (kp + 1))) := Lib.hid ho1
              have HX1 : Hid (Below w2.heap.size w2 wa) := Lib.hid (((Below.refl _ _).alloc (Nat.le_refl _) _).trans ba)
              clear ho1 ba d5
              have d5 := Lib.cell_of_heap (HBK.out wa ((HB.out.bt HJ2.out).bt HX1.out)).1 4
              obtain ⟨r0, r1, r2, r3⟩ := HFO.out wa (HBK.out wa ((HB.out.bt HJ2.out).bt HX1.out)).2.2.1
              obtain ⟨T, hT⟩ : ∃ T, T = lb f.tag := ⟨_, rfl⟩
              obtain ⟨I, hI⟩ : ∃ I, I = lb f.ind := ⟨_, rfl⟩
              obtain ⟨sn, hsn⟩ : ∃ sn, sn = f.subs.length := ⟨_, rfl⟩
              rw [← hT] at r0
              rw [← hI] at r1
              rw [← hsn] at r2
              have HTT := Lib.hid hT
              have HII := Lib.hid hI
              have HSN := Lib.hid hsn
              clear hT hI hsn
              go_wp2_with (at_builtin; refine append_rows rfl _ _ rfl w2.heap.size v1 (S.take (kp + 1)) rfl (own_below HO1.out ((Below.refl _ _).alloc (Nat.le_refl _) _)) (some ⟨wa.heap.size, 0, none⟩) 1 1 [f] rfl rfl (by intro e; cases e) (one_cells f _ _ T I sn HTT.out HII.out HSN.out (alloc_at rfl)) (by rw [List.length_take]; omega) (by simp only [World.size_alloc]; have := HX1.out.size; omega) ?_)
              intro v2 wb ho2 bb
              have HO2 : Hid (OwnR wb w2.heap.size v2 (S.take (kp + 1) ++ [f])) := Lib.hid ho2
              have HX2 : Hid (Below w2.heap.size w2 wb) := Lib.hid ((HX1.out.alloc HX1.out.size _).trans bb)
              clear ho2 bb d5 r0 r1 r2 r3
              go_wp2_with (at_builtin; refine append_rows rfl _ _ rfl w2.heap.size v2 (S.take (kp + 1) ++ [f]) rfl HO2.out (some ⟨g, 0, none⟩) _ _ (S.drop (kp + 1)) rfl (by rw [List.length_drop]; have := HSL.out; have := HVC.out; omega) (by intro e; cases e) (fun ad _ j u hj => by (have h9 : S.drop (kp + 1) = [] := List.drop_eq_nil_of_le (by have := HSL.out; have := HVC.out; omega)); rw [h9] at hj; cases hj) (by rw [List.length_append, List.length_take, List.length_singleton]; omega) HX2.out.size ?_)
              intro v3 wc ho3 bc
              have ho3 : OwnR wc w2.heap.size v3 (S.take (kp + 1) ++ f :: S.drop (kp + 1)) := by simpa using ho3
              rw [← HINS.out] at ho3
              have hlen : (insT S f).length = i + 1 := by rw [insT_len, HSL.out]
              obtain ⟨g3, c3, rfl, hc3, -⟩ := own_some ho3 (by omega)
              rw [hlen] at hc3 ⊢
              have HO3 : Hid (OwnR wc W0.heap.size (.slice (some ⟨g3, 0, none⟩) (i + 1) c3) ((rf.take (i + 1)).foldl insT [])) := Lib.hid (by rw [HST.out]; have := own_mono ho3 (HBK.out w2 (HB.out.bt HJ2.out)).2.2.2; rw [HS0.out, ← hlen]; exact this)
              have HX3 : Hid (Below W0.heap.size W0 wc) := Lib.hid (((HB.out.bt HJ2.out).bt (HX2.out.trans bc)))
              clear ho3 bc hlen
              go_wp2
              go_roundw
              case rel => exact ⟨i + 1, by go_num, by omega, ⟨g3, c3, rfl, hc3⟩, HO3, HX3⟩
              case measure => simp [intOf]; omega
            · clear d5
              have d5 := Lib.cell_of_heap (HBK.out w2 (HB.out.bt HJ2.out)).1 4
              go_wp2_with (at_builtin; refine append_rows rfl _ _ rfl w2.heap.size (.slice (some ⟨w2.heap.size, 0, none⟩) 0 0) [] rfl (OwnR.made _ _ _ rfl (Nat.le_refl _)) (some ⟨g, 0, none⟩) _ _ (S.take (kp + 1)) rfl (by rw [List.length_take]; have := HSL.out; omega) (by intro e; cases e) (HTK.out _ ((Below.refl _ _).alloc (Nat.le_refl _) _)) (by simp only [List.length_nil]; omega) (by simp) ?_)
              intro v1 wa ho1 ba
              have HO1 : Hid (OwnR wa w2.heap.size v1 (S.take (kp + 1))) := Lib.hid ho1
              have HX1 : Hid (Below w2.heap.size w2 wa) := Lib.hid (((Below.refl _ _).alloc (Nat.le_refl _) _).trans ba)
              clear ho1 ba d5
              have d5 := Lib.cell_of_heap (HBK.out wa ((HB.out.bt HJ2.out).bt HX1.out)).1 4
              obtain ⟨r0, r1, r2, r3⟩ := HFO.out wa (HBK.out wa ((HB.out.bt HJ2.out).bt HX1.out)).2.2.1
              obtain ⟨T, hT⟩ : ∃ T, T = lb f.tag := ⟨_, rfl⟩
              obtain ⟨I, hI⟩ : ∃ I, I = lb f.ind := ⟨_, rfl⟩
              obtain ⟨sn, hsn⟩ : ∃ sn, sn = f.subs.length := ⟨_, rfl⟩
              rw [← hT] at r0
              rw [← hI] at r1
              rw [← hsn] at r2
              have HTT := Lib.hid hT
              have HII := Lib.hid hI
              have HSN := Lib.hid hsn
              clear hT hI hsn
              go_wp2_with (at_builtin; refine append_rows rfl _ _ rfl w2.heap.size v1 (S.take (kp + 1)) rfl (own_below HO1.out ((Below.refl _ _).alloc (Nat.le_refl _) _)) (some ⟨wa.heap.size, 0, none⟩) 1 1 [f] rfl rfl (by intro e; cases e) (one_cells f _ _ T I sn HTT.out HII.out HSN.out (alloc_at rfl)) (by rw [List.length_take]; omega) (by simp only [World.size_alloc]; have := HX1.out.size; omega) ?_)
              intro v2 wb ho2 bb
              have HO2 : Hid (OwnR wb w2.heap.size v2 (S.take (kp + 1) ++ [f])) := Lib.hid ho2
              have HX2 : Hid (Below w2.heap.size w2 wb) := Lib.hid ((HX1.out.alloc HX1.out.size _).trans bb)
              clear ho2 bb d5 r0 r1 r2 r3
              go_wp2_with (at_builtin; refine append_rows rfl _ _ rfl w2.heap.size v2 (S.take (kp + 1) ++ [f]) rfl HO2.out (some ⟨g, (kp + 1) * 4, none⟩) _ _ (S.drop (kp + 1)) rfl (by rw [List.length_drop]; have := HSL.out; omega) (by intro e; cases e) (HDR.out _ HX2.out) (by rw [List.length_append, List.length_take, List.length_singleton]; omega) HX2.out.size ?_)
              intro v3 wc ho3 bc
              have ho3 : OwnR wc w2.heap.size v3 (S.take (kp + 1) ++ f :: S.drop (kp + 1)) := by simpa using ho3
              rw [← HINS.out] at ho3
              have hlen : (insT S f).length = i + 1 := by rw [insT_len, HSL.out]
              obtain ⟨g3, c3, rfl, hc3, -⟩ := own_some ho3 (by omega)
              rw [hlen] at hc3 ⊢
              have HO3 : Hid (OwnR wc W0.heap.size (.slice (some ⟨g3, 0, none⟩) (i + 1) c3) ((rf.take (i + 1)).foldl insT [])) := Lib.hid (by rw [HST.out]; have := own_mono ho3 (HBK.out w2 (HB.out.bt HJ2.out)).2.2.2; rw [HS0.out, ← hlen]; exact this)
              have HX3 : Hid (Below W0.heap.size W0 wc) := Lib.hid (((HB.out.bt HJ2.out).bt (HX2.out.trans bc)))
              clear ho3 bc hlen
              go_wp2
              go_roundw
              case rel => exact ⟨i + 1, by go_num, by omega, ⟨g3, c3, rfl, hc3⟩, HO3, HX3⟩
              case measure => simp [intOf]; omega
          · have HINS : Hid (insT S f = S.take (kp + 1) ++ f :: S.drop (kp + 1)) := Lib.hid (insT_at HK.out (.inr ⟨z, by simpa using HGG.out, by have := HLC.out; omega⟩))
            clear HGG
            have HTK : Hid (∀ W, Below w2.heap.size w2 W → ∀ ad, some (⟨g, 0, none⟩ : Addr) = some ad → ∀ j u, (flatE fldE (S.take (kp + 1)))[j]? = some u → W.cell? (ad.add j) = some u) := Lib.hid (fun W h ad e => by cases e; exact cells_take (HRS.out W (HJ2.out.bt h)) (kp + 1))
            have HDR : Hid (∀ W, Below w2.heap.size w2 W → ∀ ad, some (⟨g, (kp + 1) * 4, none⟩ : Addr) = some ad → ∀ j u, (flatE fldE (S.drop (kp + 1)))[j]? = some u → W.cell? (ad.add j) = some u) := Lib.hid (fun W h ad e j u hj => by
              cases e
              have := cells_drop (HRS.out W (HJ2.out.bt h)) (kp + 1) (by have := HSL.out; omega) j u hj
              rw [Addr.add_lit] at this ⊢
              rw [Nat.zero_add] at this
              exact this)
            have hki1 : (kp + 1) ≤ vc := by omega
            have hki2 : (((kp + 1) : Nat) : Int) ≤ (i : Int) := by omega
            have hcap : vc = (kp + 1) ∨ ¬ vc = (kp + 1) := Decidable.em _
            rcases hcap with hcap | hcap
            · have HVC : Hid (i = (kp + 1)) := Lib.hid (by omega)
              clear hki1 hvc
              subst hcap
              clear d5
              have d5 := Lib.cell_of_heap (HBK.out w2 (HB.out.bt HJ2.out)).1 4
              go_wp2_with (at_builtin; refine append_rows rfl _ _ rfl w2.heap.size (.slice (some ⟨w2.heap.size, 0, none⟩) 0 0) [] rfl (OwnR.made _ _ _ rfl (Nat.le_refl _)) (some ⟨g, 0, none⟩) _ _ (S.take (kp + 1)) rfl (by rw [List.length_take]; have := HSL.out; omega) (by intro e; cases e) (HTK.out _ ((Below.refl _ _).alloc (Nat.le_refl _) _)) (by simp only [List.length_nil]; omega) (by simp) ?_)
              intro v1 wa ho1 ba
              have HO1 : Hid (OwnR wa w2.heap.size v1 (S.take (kp + 1))) := Lib.hid ho1
              have HX1 : Hid (Below w2.heap.size w2 wa) := Lib.hid (((Below.refl _ _).alloc (Nat.le_refl _) _).trans ba)
              clear ho1 ba d5
              have d5 := Lib.cell_of_heap (HBK.out wa ((HB.out.bt HJ2.out).bt HX1.out)).1 4
              obtain ⟨r0, r1, r2, r3⟩ := HFO.out wa (HBK.out wa ((HB.out.bt HJ2.out).bt HX1.out)).2.2.1
              obtain ⟨T, hT⟩ : ∃ T, T = lb f.tag := ⟨_, rfl⟩
              obtain ⟨I, hI⟩ : ∃ I, I = lb f.ind := ⟨_, rfl⟩
              obtain ⟨sn, hsn⟩ : ∃ sn, sn = f.subs.length := ⟨_, rfl⟩
              rw [← hT] at r0
              rw [← hI] at r1
              rw [← hsn] at r2
              have HTT := Lib.hid hT
              have HII := Lib.hid hI
              have HSN := Lib.hid hsn
              clear hT hI hsn
              go_wp2_with (at_builtin; refine append_rows rfl _ _ rfl w2.heap.size v1 (S.take (kp + 1)) rfl (own_below HO1.out ((Below.refl _ _).alloc (Nat.le_refl _) _)) (some ⟨wa.heap.size, 0, none⟩) 1 1 [f] rfl rfl (by intro e; cases e) (one_cells f _ _ T I sn HTT.out HII.out HSN.out (alloc_at rfl)) (by rw [List.length_take]; omega) (by simp only [World.size_alloc]; have := HX1.out.size; omega) ?_)
              intro v2 wb ho2 bb
              have HO2 : Hid (OwnR wb w2.heap.size v2 (S.take (kp + 1) ++ [f])) := Lib.hid ho2
              have HX2 : Hid (Below w2.heap.size w2 wb) := Lib.hid ((HX1.out.alloc HX1.out.size _).trans bb)
              clear ho2 bb d5 r0 r1 r2 r3
              go_wp2_with (at_builtin; refine append_rows rfl _ _ rfl w2.heap.size v2 (S.take (kp + 1) ++ [f]) rfl HO2.out (some ⟨g, 0, none⟩) _ _ (S.drop (kp + 1)) rfl (by rw [List.length_drop]; have := HSL.out; have := HVC.out; omega) (by intro e; cases e) (fun ad _ j u hj => by (have h9 : S.drop (kp + 1) = [] := List.drop_eq_nil_of_le (by have := HSL.out; have := HVC.out; omega)); rw [h9] at hj; cases hj) (by rw [List.length_append, List.length_take, List.length_singleton]; omega) HX2.out.size ?_)
              intro v3 wc ho3 bc
              have ho3 : OwnR wc w2.heap.size v3 (S.take (kp + 1) ++ f :: S.drop (kp + 1)) := by simpa using ho3
              rw [← HINS.out] at ho3
              have hlen : (insT S f).length = i + 1 := by rw [insT_len, HSL.out]
              obtain ⟨g3, c3, rfl, hc3, -⟩ := own_some ho3 (by omega)
              rw [hlen] at hc3 ⊢
              have HO3 : Hid (OwnR wc W0.heap.size (.slice (some ⟨g3, 0, none⟩) (i + 1) c3) ((rf.take (i + 1)).foldl insT [])) := Lib.hid (by rw [HST.out]; have := own_mono ho3 (HBK.out w2 (HB.out.bt HJ2.out)).2.2.2; rw [HS0.out, ← hlen]; exact this)
              have HX3 : Hid (Below W0.heap.size W0 wc) := Lib.hid (((HB.out.bt HJ2.out).bt (HX2.out.trans bc)))
              clear ho3 bc hlen
              go_wp2
              go_roundw
              case rel => exact ⟨i + 1, by go_num, by omega, ⟨g3, c3, rfl, hc3⟩, HO3, HX3⟩
              case measure => simp [intOf]; omega
            · clear d5
              have d5 := Lib.cell_of_heap (HBK.out w2 (HB.out.bt HJ2.out)).1 4
              go_wp2_with (at_builtin; refine append_rows rfl _ _ rfl w2.heap.size (.slice (some ⟨w2.heap.size, 0, none⟩) 0 0) [] rfl (OwnR.made _ _ _ rfl (Nat.le_refl _)) (some ⟨g, 0, none⟩) _ _ (S.take (kp + 1)) rfl (by rw [List.length_take]; have := HSL.out; omega) (by intro e; cases e) (HTK.out _ ((Below.refl _ _).alloc (Nat.le_refl _) _)) (by simp only [List.length_nil]; omega) (by simp) ?_)
              intro v1 wa ho1 ba
              have HO1 : Hid (OwnR wa w2.heap.size v1 (S.take (kp + 1))) := Lib.hid ho1
              have HX1 : Hid (Below w2.heap.size w2 wa) := Lib.hid (((Below.refl _ _).alloc (Nat.le_refl _) _).trans ba)
              clear ho1 ba d5
              have d5 := Lib.cell_of_heap (HBK.out wa ((HB.out.bt HJ2.out).bt HX1.out)).1 4
              obtain ⟨r0, r1, r2, r3⟩ := HFO.out wa (HBK.out wa ((HB.out.bt HJ2.out).bt HX1.out)).2.2.1
              obtain ⟨T, hT⟩ : ∃ T, T = lb f.tag := ⟨_, rfl⟩
              obtain ⟨I, hI⟩ : ∃ I, I = lb f.ind := ⟨_, rfl⟩
              obtain ⟨sn, hsn⟩ : ∃ sn, sn = f.subs.length := ⟨_, rfl⟩
              rw [← hT] at r0
              rw [← hI] at r1
              rw [← hsn] at r2
              have HTT := Lib.hid hT
              have HII := Lib.hid hI
              have HSN := Lib.hid hsn
              clear hT hI hsn
              go_wp2_with (at_builtin; refine append_rows rfl _ _ rfl w2.heap.size v1 (S.take (kp + 1)) rfl (own_below HO1.out ((Below.refl _ _).alloc (Nat.le_refl _) _)) (some ⟨wa.heap.size, 0, none⟩) 1 1 [f] rfl rfl (by intro e; cases e) (one_cells f _ _ T I sn HTT.out HII.out HSN.out (alloc_at rfl)) (by rw [List.length_take]; omega) (by simp only [World.size_alloc]; have := HX1.out.size; omega) ?_)
              intro v2 wb ho2 bb
              have HO2 : Hid (OwnR wb w2.heap.size v2 (S.take (kp + 1) ++ [f])) := Lib.hid ho2
              have HX2 : Hid (Below w2.heap.size w2 wb) := Lib.hid ((HX1.out.alloc HX1.out.size _).trans bb)
              clear ho2 bb d5 r0 r1 r2 r3
              go_wp2_with (at_builtin; refine append_rows rfl _ _ rfl w2.heap.size v2 (S.take (kp + 1) ++ [f]) rfl HO2.out (some ⟨g, (kp + 1) * 4, none⟩) _ _ (S.drop (kp + 1)) rfl (by rw [List.length_drop]; have := HSL.out; omega) (by intro e; cases e) (HDR.out _ HX2.out) (by rw [List.length_append, List.length_take, List.length_singleton]; omega) HX2.out.size ?_)
              intro v3 wc ho3 bc
              have ho3 : OwnR wc w2.heap.size v3 (S.take (kp + 1) ++ f :: S.drop (kp + 1)) := by simpa using ho3
              rw [← HINS.out] at ho3
              have hlen : (insT S f).length = i + 1 := by rw [insT_len, HSL.out]
              obtain ⟨g3, c3, rfl, hc3, -⟩ := own_some ho3 (by omega)
              rw [hlen] at hc3 ⊢
              have HO3 : Hid (OwnR wc W0.heap.size (.slice (some ⟨g3, 0, none⟩) (i + 1) c3) ((rf.take (i + 1)).foldl insT [])) := Lib.hid (by rw [HST.out]; have := own_mono ho3 (HBK.out w2 (HB.out.bt HJ2.out)).2.2.2; rw [HS0.out, ← hlen]; exact this)
              have HX3 : Hid (Below W0.heap.size W0 wc) := Lib.hid (((HB.out.bt HJ2.out).bt (HX2.out.trans bc)))
              clear ho3 bc hlen
              go_wp2
              go_roundw
              case rel => exact ⟨i + 1, by go_num, by omega, ⟨g3, c3, rfl, hc3⟩, HO3, HX3⟩
              case measure => simp [intOf]; omega
          · have HK2 : Hid (∀ y ∈ S.drop kp, kcmp K0 f y < 0) := Lib.hid (by
              intro y hy
              rw [drop_step HGG.out] at hy
              rcases List.mem_cons.1 hy with rfl | hy
              · exact HLC.out
              · exact HK.out y hy)
            clear HGG
            go_wp2
            go_roundw
            case rel => exact ⟨kp, by go_num, by omega, HK2, HJ2⟩
            case measure => simp [intOf]
        · obtain rfl : k = 0 := by omega
          have HINS : Hid (insT S f = S.take 0 ++ f :: S.drop 0) := Lib.hid (insT_at HK.out (.inl rfl))
          have hgt : decide (((0 : Nat) : Int) > 0) = false := by simp
          obtain ⟨C, hC⟩ : ∃ C : World → Prop, C = fun w' => Below wq.heap.size wq w' := ⟨_, rfl⟩
          have hCB : ∀ w', C w' → Below wo.heap.size wo w' := fun w' h => by rw [hC] at h; exact HJ.out.bt h
          have hC0 : C { wq with drawn := wq.drawn + 1 } := by rw [hC]; exact (Below.refl _ _).drew
          clear hC d4 hk0
          go_wp2_with fail
          refine wp_region_quiet (C := C) (by kernel_rfl) (by kernel_rfl) hC0 ?_
          show wpQuiet _ _ _ _ [_, _, _, _, _, _, _, _, _, _, _, _, _, _, _, _, _] _
          repeat
            with_reducible refine wpQuiet_step (fun K hK => ?_)
            go_simp
            first
              | (with_reducible refine hK _ ?_; clear hK K)
              | (apply Exists.intro
                 with_reducible refine ⟨fun w' hw' => ?_, hK _ ?_⟩
                 · with_reducible rfl
                 clear hK K)
          refine wpQuiet_nil ?_
          intro w2 hw2
          have HJ2 : Hid (Below wo.heap.size wo w2) := Lib.hid (hCB w2 hw2)
          clear hCB hw2
          have HTK : Hid (∀ W, Below w2.heap.size w2 W → ∀ ad, some (⟨g, 0, none⟩ : Addr) = some ad → ∀ j u, (flatE fldE (S.take 0))[j]? = some u → W.cell? (ad.add j) = some u) := Lib.hid (fun W h ad e => by cases e; exact cells_take (HRS.out W (HJ2.out.bt h)) 0)
          have HDR : Hid (∀ W, Below w2.heap.size w2 W → ∀ ad, some (⟨g, 0 * 4, none⟩ : Addr) = some ad → ∀ j u, (flatE fldE (S.drop 0))[j]? = some u → W.cell? (ad.add j) = some u) := Lib.hid (fun W h ad e j u hj => by
            cases e
            have := cells_drop (HRS.out W (HJ2.out.bt h)) 0 (by have := HSL.out; omega) j u hj
            rw [Addr.add_lit] at this ⊢
            rw [Nat.zero_add] at this
            exact this)
          have hki1 : 0 ≤ vc := by omega
          have hki2 : ((0 : Nat) : Int) ≤ (i : Int) := by omega
          have hcap : vc = 0 ∨ ¬ vc = 0 := Decidable.em _
          rcases hcap with hcap | hcap
          · have HVC : Hid (i = 0) := Lib.hid (by omega)
            clear hki1 hvc
            subst hcap
            clear d5
            have d5 := Lib.cell_of_heap (HBK.out w2 (HB.out.bt HJ2.out)).1 4
            go_wp2_with (at_builtin; refine append_rows rfl _ _ rfl w2.heap.size (.slice (some ⟨w2.heap.size, 0, none⟩) 0 0) [] rfl (OwnR.made _ _ _ rfl (Nat.le_refl _)) (some ⟨g, 0, none⟩) _ _ (S.take 0) rfl (by rw [List.length_take]; have := HSL.out; omega) (by intro e; cases e) (HTK.out _ ((Below.refl _ _).alloc (Nat.le_refl _) _)) (by simp only [List.length_nil]; omega) (by simp) ?_)
            intro v1 wa ho1 ba
            have HO1 : Hid (OwnR wa w2.heap.size v1 (S.take 0)) := Lib.hid ho1
            have HX1 : Hid (Below w2.heap.size w2 wa) := Lib.hid (((Below.refl _ _).alloc (Nat.le_refl _) _).trans ba)
            clear ho1 ba d5
            have d5 := Lib.cell_of_heap (HBK.out wa ((HB.out.bt HJ2.out).bt HX1.out)).1 4
            obtain ⟨r0, r1, r2, r3⟩ := HFO.out wa (HBK.out wa ((HB.out.bt HJ2.out).bt HX1.out)).2.2.1
            obtain ⟨T, hT⟩ : ∃ T, T = lb f.tag := ⟨_, rfl⟩
            obtain ⟨I, hI⟩ : ∃ I, I = lb f.ind := ⟨_, rfl⟩
            obtain ⟨sn, hsn⟩ : ∃ sn, sn = f.subs.length := ⟨_, rfl⟩
            rw [← hT] at r0
            rw [← hI] at r1
            rw [← hsn] at r2
            have HTT := Lib.hid hT
            have HII := Lib.hid hI
            have HSN := Lib.hid hsn
            clear hT hI hsn
            go_wp2_with (at_builtin; refine append_rows rfl _ _ rfl w2.heap.size v1 (S.take 0) rfl (own_below HO1.out ((Below.refl _ _).alloc (Nat.le_refl _) _)) (some ⟨wa.heap.size, 0, none⟩) 1 1 [f] rfl rfl (by intro e; cases e) (one_cells f _ _ T I sn HTT.out HII.out HSN.out (alloc_at rfl)) (by rw [List.length_take]; omega) (by simp only [World.size_alloc]; have := HX1.out.size; omega) ?_)
            intro v2 wb ho2 bb
            have HO2 : Hid (OwnR wb w2.heap.size v2 (S.take 0 ++ [f])) := Lib.hid ho2
            have HX2 : Hid (Below w2.heap.size w2 wb) := Lib.hid ((HX1.out.alloc HX1.out.size _).trans bb)
            clear ho2 bb d5 r0 r1 r2 r3
            go_wp2_with (at_builtin; refine append_rows rfl _ _ rfl w2.heap.size v2 (S.take 0 ++ [f]) rfl HO2.out (some ⟨g, 0, none⟩) _ _ (S.drop 0) rfl (by rw [List.length_drop]; have := HSL.out; have := HVC.out; omega) (by intro e; cases e) (fun ad _ j u hj => by (have h9 : S.drop 0 = [] := List.drop_eq_nil_of_le (by have := HSL.out; have := HVC.out; omega)); rw [h9] at hj; cases hj) (by rw [List.length_append, List.length_take, List.length_singleton]; omega) HX2.out.size ?_)
            intro v3 wc ho3 bc
            have ho3 : OwnR wc w2.heap.size v3 (S.take 0 ++ f :: S.drop 0) := by simpa using ho3
            rw [← HINS.out] at ho3
            have hlen : (insT S f).length = i + 1 := by rw [insT_len, HSL.out]
            obtain ⟨g3, c3, rfl, hc3, -⟩ := own_some ho3 (by omega)
            rw [hlen] at hc3 ⊢
            have HO3 : Hid (OwnR wc W0.heap.size (.slice (some ⟨g3, 0, none⟩) (i + 1) c3) ((rf.take (i + 1)).foldl insT [])) := Lib.hid (by rw [HST.out]; have := own_mono ho3 (HBK.out w2 (HB.out.bt HJ2.out)).2.2.2; rw [HS0.out, ← hlen]; exact this)
            have HX3 : Hid (Below W0.heap.size W0 wc) := Lib.hid (((HB.out.bt HJ2.out).bt (HX2.out.trans bc)))
            clear ho3 bc hlen
            go_wp2
            go_roundw
            case rel => exact ⟨i + 1, by go_num, by omega, ⟨g3, c3, rfl, hc3⟩, HO3, HX3⟩
            case measure => simp [intOf]; omega
          · clear d5
            have d5 := Lib.cell_of_heap (HBK.out w2 (HB.out.bt HJ2.out)).1 4
            go_wp2_with (at_builtin; refine append_rows rfl _ _ rfl w2.heap.size (.slice (some ⟨w2.heap.size, 0, none⟩) 0 0) [] rfl (OwnR.made _ _ _ rfl (Nat.le_refl _)) (some ⟨g, 0, none⟩) _ _ (S.take 0) rfl (by rw [List.length_take]; have := HSL.out; omega) (by intro e; cases e) (HTK.out _ ((Below.refl _ _).alloc (Nat.le_refl _) _)) (by simp only [List.length_nil]; omega) (by simp) ?_)
            intro v1 wa ho1 ba
            have HO1 : Hid (OwnR wa w2.heap.size v1 (S.take 0)) := Lib.hid ho1
            have HX1 : Hid (Below w2.heap.size w2 wa) := Lib.hid (((Below.refl _ _).alloc (Nat.le_refl _) _).trans ba)
            clear ho1 ba d5
            have d5 := Lib.cell_of_heap (HBK.out wa ((HB.out.bt HJ2.out).bt HX1.out)).1 4
            obtain ⟨r0, r1, r2, r3⟩ := HFO.out wa (HBK.out wa ((HB.out.bt HJ2.out).bt HX1.out)).2.2.1
            obtain ⟨T, hT⟩ : ∃ T, T = lb f.tag := ⟨_, rfl⟩
            obtain ⟨I, hI⟩ : ∃ I, I = lb f.ind := ⟨_, rfl⟩
            obtain ⟨sn, hsn⟩ : ∃ sn, sn = f.subs.length := ⟨_, rfl⟩
            rw [← hT] at r0
            rw [← hI] at r1
            rw [← hsn] at r2
            have HTT := Lib.hid hT
            have HII := Lib.hid hI
            have HSN := Lib.hid hsn
            clear hT hI hsn
            go_wp2_with (at_builtin; refine append_rows rfl _ _ rfl w2.heap.size v1 (S.take 0) rfl (own_below HO1.out ((Below.refl _ _).alloc (Nat.le_refl _) _)) (some ⟨wa.heap.size, 0, none⟩) 1 1 [f] rfl rfl (by intro e; cases e) (one_cells f _ _ T I sn HTT.out HII.out HSN.out (alloc_at rfl)) (by rw [List.length_take]; omega) (by simp only [World.size_alloc]; have := HX1.out.size; omega) ?_)
            intro v2 wb ho2 bb
            have HO2 : Hid (OwnR wb w2.heap.size v2 (S.take 0 ++ [f])) := Lib.hid ho2
            have HX2 : Hid (Below w2.heap.size w2 wb) := Lib.hid ((HX1.out.alloc HX1.out.size _).trans bb)
            clear ho2 bb d5 r0 r1 r2 r3
            go_wp2_with (at_builtin; refine append_rows rfl _ _ rfl w2.heap.size v2 (S.take 0 ++ [f]) rfl HO2.out (some ⟨g, 0 * 4, none⟩) _ _ (S.drop 0) rfl (by rw [List.length_drop]; have := HSL.out; omega) (by intro e; cases e) (HDR.out _ HX2.out) (by rw [List.length_append, List.length_take, List.length_singleton]; omega) HX2.out.size ?_)
            intro v3 wc ho3 bc
            have ho3 : OwnR wc w2.heap.size v3 (S.take 0 ++ f :: S.drop 0) := by simpa using ho3
            rw [← HINS.out] at ho3
            have hlen : (insT S f).length = i + 1 := by rw [insT_len, HSL.out]
            obtain ⟨g3, c3, rfl, hc3, -⟩ := own_some ho3 (by omega)
            rw [hlen] at hc3 ⊢
            have HO3 : Hid (OwnR wc W0.heap.size (.slice (some ⟨g3, 0, none⟩) (i + 1) c3) ((rf.take (i + 1)).foldl insT [])) := Lib.hid (by rw [HST.out]; have := own_mono ho3 (HBK.out w2 (HB.out.bt HJ2.out)).2.2.2; rw [HS0.out, ← hlen]; exact this)
            have HX3 : Hid (Below W0.heap.size W0 wc) := Lib.hid (((HB.out.bt HJ2.out).bt (HX2.out.trans bc)))
            clear ho3 bc hlen
            go_wp2
            go_roundw
            case rel => exact ⟨i + 1, by go_num, by omega, ⟨g3, c3, rfl, hc3⟩, HO3, HX3⟩
            case measure => simp [intOf]; omega
    · have hltz : ¬ (i : Int) < (rn : Int) := by omega
      obtain rfl : i = rn := by omega
      have HSO : Hid (OwnR wo W0.heap.size (.slice (some ⟨g, 0, none⟩) i vc) (sortR rf)) := Lib.hid (by have := HO.out; rw [List.take_of_length_le (by have := HRN.out; omega)] at this; exact this)
      have HLEN : Hid (i = (sortR rf).length) := Lib.hid (by unfold sortR; rw [foldI_len]; have := HRN.out; simp; omega)
      obtain ⟨h0, h1, hbw, hz⟩ := HBK.out wo HB.out
      have d0 := Lib.cell_of_heap h0 0
      have d1 := Lib.cell_of_heap h0 1
      have d2 := Lib.cell_of_heap h0 2
      have d3 := Lib.cell_of_heap h0 3
      have HW := Lib.hid (rWith id ver kind lang ra i rc (some ⟨g, 0, none⟩) i vc wo)
      have HBW := Lib.hid hbw
      have HZ := Lib.hid hz
      have K1 := Lib.hid h1
      clear h0 h1 hbw hz HO
      go_wp2_with fail
      refine HW.out.mono ?_
      rintro e w3 ⟨rfl, b3⟩
      have h1 : w3.heap[w.heap.size + 1]? = some (recO 0 0 0 ⟨#[]⟩ none 0 0) := (b3.block _ (by have := HZ.out; omega)).trans K1.out
      have HB3 : Hid (Below w.heap.size w w3) := Lib.hid (HBW.out.bt b3)
      have HO4 := Lib.hid (own_below HSO.out b3)
      have q0 := Lib.cell_of_heap h1 0
      have g0 := Lib.frozen_of_heap h1 0
      have q1 := Lib.cell_of_heap h1 1
      have g1 := Lib.frozen_of_heap h1 1
      have q2 := Lib.cell_of_heap h1 2
      have g2 := Lib.frozen_of_heap h1 2
      have q3 := Lib.cell_of_heap h1 3
      have g3 := Lib.frozen_of_heap h1 3
      have q4 := Lib.cell_of_heap h1 4
      have g4 := Lib.frozen_of_heap h1 4
      have L1 := Lib.hid h1
      clear h1 b3 d0 d1 d2 d3 d4
      go_wp2
      (try simp only [Exit.inBlock, Exit.then])
      have hgg := putR_heap L1.out rfl id ver kind lang (.slice (some ⟨g, 0, none⟩) i vc)
      have hbf : Below w.heap.size w (putR w3 (w.heap.size + 1) id ver kind lang (.slice (some ⟨g, 0, none⟩) i vc)) := putR_below HB3.out (by omega) _ _ _ _ _
      refine ret1_at (W := putR w3 (w.heap.size + 1) id ver kind lang (.slice (some ⟨g, 0, none⟩) i vc)) (r := ⟨id, ver, kind, lang, sortR rf⟩) (sa := some ⟨g, 0, none⟩) (n := i) (sc := vc) rfl HLEN.out rfl hgg hbf ?_
      refine ⟨?_, fun f hf => (HFL.out _ hbf).2 f (foldI_mem hf)⟩
      have := Rows.of_own fldE_len (own_keep HO4.out (W := putR w3 (w.heap.size + 1) id ver kind lang (.slice (some ⟨g, 0, none⟩) i vc)) (fun b hb => putR_other _ _ _ _ _ _ (by have := HS0.out; omega))) rfl
      show Rows fldE 4 _ (.slice (some ⟨g, 0, none⟩) (sortR rf).length vc) (sortR rf)
      rw [← HLEN.out]
      exact this
end Go.Proofs.YtkfjeolpbopcnaaGreatDoor
