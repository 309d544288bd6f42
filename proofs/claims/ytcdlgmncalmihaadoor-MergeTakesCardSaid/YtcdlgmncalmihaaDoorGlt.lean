/- The law MergeTakes walked (layer 16). -/
import Derived.Test.YtcdlgmncalmihaaDoorGpq
namespace Go.Proofs.YtcdlgmncalmihaaDoor
open Go Go.RowKit

theorem prs_no {a b c a' b' c' : Int} {d d' : ByteArray} {s s' : Option Addr} {n m n' m' : Nat} {a2 : Option Addr} {n2 m2 : Nat} {x : ByteArray} {y : Int} (o : Nat) : ¬ ((#[.int .i64 a, .int .i64 b, .int .i64 c, .string d, .slice s n m, .int .i64 a', .int .i64 b', .int .i64 c', .string d', .slice s' n' m', .slice a2 n2 m2] : Array Value)[o]? = some (.string x) ∧ (#[.int .i64 a, .int .i64 b, .int .i64 c, .string d, .slice s n m, .int .i64 a', .int .i64 b', .int .i64 c', .string d', .slice s' n' m', .slice a2 n2 m2] : Array Value)[o + 1]? = some (.int .i64 y)) := by
  rintro ⟨h1, h2⟩
  have ho : o < 11 := (Array.getElem?_eq_some_iff.1 h1).1
  rcases (by omega : o = 0 ∨ o = 1 ∨ o = 2 ∨ o = 3 ∨ o = 4 ∨ o = 5 ∨ o = 6 ∨ o = 7 ∨ o = 8 ∨ o = 9 ∨ o = 10) with rfl | rfl | rfl | rfl | rfl | rfl | rfl | rfl | rfl | rfl | rfl <;> first | (cases h1; done) | (cases h2; done)
/-- What the law asks of the plain merging. -/
theorem takes_plain {x y : Rcd} {keeps : List (ByteArray × Int)} {R : Rec} {P : Part} (hM : (R, P, (0 : Int)) = mergeP x y keeps) : ∃ t, R = ⟨x.r.id, x.r.ver, x.r.kind, x.r.lang, x.r.fields ++ t⟩ ∧ P.into = x.r.id ∧ P.frm = y ∧ P.taken.length = t.length ∧ ∀ f ∈ y.r.fields, howL keeps (lb f.tag) = 1 → (x.r.fields ++ t).any (fun g => sameF g f) = true := by
  have h0 : (mergeP x y keeps).2.2 = 0 := by rw [← hM]
  obtain ⟨-, -, h3⟩ := mergeP_ok h0
  obtain ⟨t, h4, h5⟩ := mergeGo_pre keeps x.r.fields y.r.fields 0 x.r.fields []
  rw [h3] at hM
  cases hM
  refine ⟨t, by rw [h4], rfl, rfl, by simpa using h5, fun f hf hh => ?_⟩
  obtain ⟨g, hg, hs⟩ := mergeGo_has keeps x.r.fields y.r.fields 0 x.r.fields [] f hf hh
  rw [← h4]
  exact List.any_eq_true.2 ⟨g, hg, hs⟩

set_option maxRecDepth 100000 in
set_option maxHeartbeats 8000000 in
theorem law_MergeTakes (x y : Rcd) (vk : Value) (keeps : List (ByteArray × Int)) (w : World) (hE : Env w) (hx : RcdAt w x) (hy : RcdAt w y) (hk : Keeps w vk keeps) (hqx : ∀ f ∈ x.r.fields, ∀ s ∈ f.subs, s.1 < 256) (hqy : ∀ f ∈ y.r.fields, ∀ s ∈ f.subs, s.1 < 256) :
    Calls Tryd.prog 5 #[pairV x y vk] w fun e w' => e = .returned (.bool true) ∧ Below w.heap.size w w' := by
  have HAL : Hid (∀ W, Below w.heap.size w W → Calls Tryd.prog 7 #[] W fun e w' => e = .returned (.bool true) ∧ Below W.heap.size W w') := Lib.hid (fun W h => alive_any W (hE.below h))
  have HFA : Hid (∀ W v, Below w.heap.size w W → Keeps W v stdK → Calls Tryd.prog 12 #[pairV x y v] W fun e w' => e = .returned (.bool (fairB x y stdK)) ∧ Below W.heap.size W w') := Lib.hid (fun W v h hv => lFair x y v stdK W (hx.below h (Nat.le_refl _)) (hy.below h (Nat.le_refl _)) hv)
  have HPM : Hid (fairB x y stdK = true → ∀ W v, Below w.heap.size w W → Keeps W v stdK → Calls Tryd.prog 13 #[recV5 x, recV5 y, v] W (RetMerge W (mergeP x y stdK))) := Lib.hid (fun hf W v h hv => by
    obtain ⟨h1, h2, h3⟩ := fair_split hf
    obtain ⟨s1, l1, -⟩ := little_small h1 hqx
    obtain ⟨s2, l2, -⟩ := little_small h2 hqy
    exact pMerge x y v stdK W (hE.below h) (hx.below h (Nat.le_refl _)) (hy.below h (Nat.le_refl _)) hv s1 s2 (by omega) (by omega) (by omega))
  have HPA : Hid (fairB x y stdK = true → ∀ R P, (R, P, (0 : Int)) = mergeP x y stdK → ∀ W v a c, Below w.heap.size w W → Keeps W v stdK → RcdAt W ⟨R, a, c⟩ → Calls Tryd.prog 13 #[recV5 ⟨R, a, c⟩, recV5 y, v] W (RetMerge W (R, ⟨x.r.id, y, []⟩, 0))) := Lib.hid (fun hf R P hM W v a c h hv hr => by
    obtain ⟨h1, h2, h3⟩ := fair_split hf
    obtain ⟨s1, l1, -⟩ := little_small h1 hqx
    obtain ⟨s2, l2, -⟩ := little_small h2 hqy
    obtain ⟨sr, -, -, lr⟩ := mergeP_small (keeps := stdK) s1 s2 l1 l2
    have ha := mergeP_again (x := x) (y := y) (keeps := stdK) (by rw [← hM]) a c
    rw [← hM] at ha sr lr
    simp only at ha sr lr
    have := pMerge ⟨R, a, c⟩ y v stdK W (hE.below h) hr (hy.below h (Nat.le_refl _)) hv sr s2 (by omega) (by show R.fields.length ≤ _; omega) (by omega)
    rw [ha] at this
    exact this)
  have HLF : Hid (fairB x y stdK = true → (∀ f ∈ x.r.fields, f.subs.length ≤ 1000000) ∧ (∀ f ∈ y.r.fields, f.subs.length ≤ 1000000) ∧ x.r.fields.length ≤ 20 ∧ y.r.fields.length ≤ 20 ∧ ∀ R P, (R, P, (0 : Int)) = mergeP x y stdK → R.small ∧ R.fields.length ≤ 40) := Lib.hid (fun hf => by
    obtain ⟨h1, h2, h3⟩ := fair_split hf
    obtain ⟨s1, l1, k1⟩ := little_small h1 hqx
    obtain ⟨s2, l2, k2⟩ := little_small h2 hqy
    refine ⟨fun f hf => by have := k1 f hf; omega, fun f hf => by have := k2 f hf; omega, l1, l2, fun R P hM => ?_⟩
    obtain ⟨sr, -, -, lr⟩ := mergeP_small (keeps := stdK) s1 s2 l1 l2
    rw [← hM] at sr lr
    exact ⟨sr, lr⟩)
  obtain ⟨B, hB⟩ : ∃ B, B = fairB x y stdK := ⟨_, rfl⟩
  rw [← hB] at HFA HPM HPA HLF
  obtain ⟨⟨R, P, err⟩, hM⟩ : ∃ M, M = mergeP x y stdK := ⟨_, rfl⟩
  rw [← hM] at HPM
  have HM : Hid ((R, P, err) = mergeP x y stdK) := Lib.hid hM
  have HX : Hid (∀ W, Below w.heap.size w W → RcdAt W x) := Lib.hid (fun W h => hx.below h (Nat.le_refl _))
  have HY : Hid (∀ W, Below w.heap.size w W → RcdAt W y) := Lib.hid (fun W h => hy.below h (Nat.le_refl _))
  obtain ⟨oa, oc, rfl, -⟩ := hk.shape
  obtain ⟨on, hon⟩ : ∃ n, n = keeps.length := ⟨_, rfl⟩
  rw [← hon]
  clear hx hy hk hqx hqy hB hM hE hon
  unfold pairV at HFA ⊢
  unfold recV5 at HPM HPA
  have XC := Lib.hid (rcd_cells (HX.out w (Below.refl _ _)))
  have YC := Lib.hid (rcd_cells (HY.out w (Below.refl _ _)))
  have HTP := Lib.hid (fun (h : err = 0) => takes_plain (x := x) (y := y) (keeps := stdK) (R := R) (P := P) (by rw [← HM.out, h]))
  have HPA2 := Lib.hid (fun (h : err = 0) (hb : B = true) => HPA.out hb R P (by rw [← HM.out, h]))
  have HLF2 := Lib.hid (fun (h : err = 0) (hb : B = true) => (HLF.out hb).2.2.2.2 R P (by rw [← HM.out, h]))
  clear HPA HM
  obtain ⟨⟨id, ver, kind, lang, xf⟩, xa, xc⟩ := x
  obtain ⟨⟨id2, ver2, kind2, lang2, yf⟩, ya, yc⟩ := y
  simp only at HFA HPM HPA2 HLF HLF2 XC YC HTP ⊢
  obtain ⟨xn, hxn⟩ : ∃ n, n = xf.length := ⟨_, rfl⟩
  obtain ⟨yn, hyn⟩ : ∃ n, n = yf.length := ⟨_, rfl⟩
  rw [← hxn, ← hyn] at HFA HPM HLF ⊢
  rw [← hyn] at HPA2
  have HXN := Lib.hid hxn
  have HYN := Lib.hid hyn
  clear hxn hyn
  have HB0 : Hid (Below w.heap.size w (w.alloc (pairO id ver kind lang xa xn xc id2 ver2 kind2 lang2 ya yn yc (.slice oa on oc)))) := Lib.hid ((Below.refl _ _).alloc (Nat.le_refl _) _)
  have H00 : Hid ((w.alloc (pairO id ver kind lang xa xn xc id2 ver2 kind2 lang2 ya yn yc (.slice oa on oc))).heap[w.heap.size]? = some (pairO id ver kind lang xa xn xc id2 ver2 kind2 lang2 ya yn yc (.slice oa on oc))) := Lib.hid (alloc_at rfl)
  go_enter Tryd.func5, Tryd.ntmps5
  go_wp2_with fail
  refine (rStandard _).mono ?_
  rintro e w1 ⟨v, rfl, hkv, b1⟩
  obtain ⟨ka, kc, hv, -⟩ := hkv.shape
  rw [std_len] at hv
  subst hv
  have hbw1 := HB0.out.bt b1
  have h01 := (b1.block _ (Array.getElem?_eq_some_iff.1 H00.out).1).trans H00.out
  have HP0 : Hid ((w1.setCell ⟨w.heap.size, 10, none⟩ (.slice ka 10 kc)).heap[w.heap.size]? = some (pairO id ver kind lang xa xn xc id2 ver2 kind2 lang2 ya yn yc (.slice ka 10 kc))) := Lib.hid (heap_setCell_same w1 w.heap.size 10 _ _ _ h01)
  have HK1 : Hid (Keeps (w1.setCell ⟨w.heap.size, 10, none⟩ (.slice ka 10 kc)) (.slice ka 10 kc) stdK) := Lib.hid (Rows.putL hkv h01 (fun _ o _ hx => prs_no o ⟨hx 0 _ rfl, hx 1 _ rfl⟩) 10 [.slice ka 10 kc])
  have HB1 : Hid (Below w.heap.size w (w1.setCell ⟨w.heap.size, 10, none⟩ (.slice ka 10 kc))) := Lib.hid (hbw1.setCell (p := ⟨w.heap.size, 10, none⟩) (Nat.le_refl _) _)
  have q := Lib.cell_of_heap h01 10
  have qf := Lib.frozen_of_heap h01 10
  clear hkv b1 hbw1 h01 H00 HB0
  go_upto_region 2 with fail
  clear q qf
  generalize (w1.setCell ⟨w.heap.size, 10, none⟩ (.slice ka 10 kc)) = w2 at HP0 HK1 HB1 ⊢
  have c0 := Lib.cell_of_heap HP0.out 0
  have c1 := Lib.cell_of_heap HP0.out 1
  have c2 := Lib.cell_of_heap HP0.out 2
  have c3 := Lib.cell_of_heap HP0.out 3
  have c4 := Lib.cell_of_heap HP0.out 4
  have c5 := Lib.cell_of_heap HP0.out 5
  have c6 := Lib.cell_of_heap HP0.out 6
  have c7 := Lib.cell_of_heap HP0.out 7
  have c8 := Lib.cell_of_heap HP0.out 8
  have c9 := Lib.cell_of_heap HP0.out 9
  have c10 := Lib.cell_of_heap HP0.out 10
  go_wp2_with fail
  refine (HFA.out w2 _ HB1.out HK1.out).mono ?_
  rintro e w3 ⟨rfl, b3⟩
  have HP3 : Hid (w3.heap[w.heap.size]? = _) := Lib.hid ((b3.block _ (Array.getElem?_eq_some_iff.1 HP0.out).1).trans HP0.out)
  have HK3 : Hid (Keeps w3 (.slice ka 10 kc) stdK) := Lib.hid (Rows.below HK1.out b3 (Nat.le_refl _))
  have HB3 := Lib.hid (HB1.out.bt b3)
  clear b3 c0 c1 c2 c3 c4 c5 c6 c7 c8 c9 c10 HP0 HK1 HB1 HFA
  cases B with
  | false =>
    go_wp2_with fail
    refine (HAL.out _ HB3.out).mono ?_
    rintro e w4 ⟨rfl, b4⟩
    have HB4 := Lib.hid (HB3.out.bt b4)
    clear b4
    go_wp2
    go_ret
    exact ⟨rfl, HB4.out⟩
  | true =>
    obtain ⟨sx, sy, lx, ly, -⟩ := HLF.out rfl
    have HSX := Lib.hid sx
    have HSY := Lib.hid sy
    clear sx sy HLF
    have c0 := Lib.cell_of_heap HP3.out 0
    have c1 := Lib.cell_of_heap HP3.out 1
    have c2 := Lib.cell_of_heap HP3.out 2
    have c3 := Lib.cell_of_heap HP3.out 3
    have c4 := Lib.cell_of_heap HP3.out 4
    have c5 := Lib.cell_of_heap HP3.out 5
    have c6 := Lib.cell_of_heap HP3.out 6
    have c7 := Lib.cell_of_heap HP3.out 7
    have c8 := Lib.cell_of_heap HP3.out 8
    have c9 := Lib.cell_of_heap HP3.out 9
    have c10 := Lib.cell_of_heap HP3.out 10
    go_wp2_with fail
    refine (HPM.out (by trivial) w3 _ HB3.out HK3.out).mono ?_
    rintro e w4 ⟨a, c, tv, rfl, r1, -, r3, b4⟩
    obtain ⟨ta, tc, rfl, -⟩ := Rows.shape r3
    by_cases he : err = 0
    · subst he
      obtain ⟨t, hR, hp1, hp2, hp3, hp4⟩ := HTP.out rfl
      obtain ⟨pin, pfr, tk⟩ := P
      simp only at hp1 hp2 hp3 r3
      subst hR
      obtain ⟨hp1⟩ : PLift (id = pin) := ⟨hp1.symm⟩
      subst hp1
      subst hp2
      obtain ⟨sr, lr⟩ := HLF2.out rfl (by trivial)
      have HPA := Lib.hid (HPA2.out rfl (by trivial))
      clear HTP HPA2 HLF2 HPM
      unfold recV5 partV
      simp only at lr r1 HPA ⊢
      obtain ⟨rf, hrf⟩ : ∃ l, l = xf ++ t := ⟨_, rfl⟩
      rw [← hrf] at sr lr r1 hp4 HPA ⊢
      obtain ⟨rn, hrn⟩ : ∃ n, n = rf.length := ⟨_, rfl⟩
      obtain ⟨tn, htn⟩ : ∃ n, n = tk.length := ⟨_, rfl⟩
      rw [← hrn] at lr HPA ⊢
      rw [← HYN.out, ← htn]
      have HRF := Lib.hid hrf
      have HRN := Lib.hid hrn
      have HH4 := Lib.hid hp4
      have hrx : xn + tn = rn := by have := HXN.out; rw [hrn, hrf, List.length_append, htn, hp3]; omega
      have HSR : Hid (∀ f ∈ rf, f.subs.length ≤ 1000000) := Lib.hid (fun f hf => (sr.2 f hf).subs)
      have hbb : Below w4.heap.size w4 ((w4.alloc (.cells #[.int .i64 id, .int .i64 ver, .int .i64 kind, .string lang, .slice a rn c] 31)).alloc (.cells #[.int .i64 id, .int .i64 id2, .int .i64 ver2, .int .i64 kind2, .string lang2, .slice ya yn yc, .slice ta tn tc] 36)) := (Below.refl _ _).alloc2 (Nat.le_refl _) _ _
      have HN3 : Hid (((w4.alloc (.cells #[.int .i64 id, .int .i64 ver, .int .i64 kind, .string lang, .slice a rn c] 31)).alloc (.cells #[.int .i64 id, .int .i64 id2, .int .i64 ver2, .int .i64 kind2, .string lang2, .slice ya yn yc, .slice ta tn tc] 36)).heap[w4.heap.size]? = some (.cells #[.int .i64 id, .int .i64 ver, .int .i64 kind, .string lang, .slice a rn c] 31 (0, 0))) := Lib.hid ((alloc_old (by simp)).trans (alloc_at rfl))
      have HN4 : Hid (((w4.alloc (.cells #[.int .i64 id, .int .i64 ver, .int .i64 kind, .string lang, .slice a rn c] 31)).alloc (.cells #[.int .i64 id, .int .i64 id2, .int .i64 ver2, .int .i64 kind2, .string lang2, .slice ya yn yc, .slice ta tn tc] 36)).heap[w4.heap.size + 1]? = some (.cells #[.int .i64 id, .int .i64 id2, .int .i64 ver2, .int .i64 kind2, .string lang2, .slice ya yn yc, .slice ta tn tc] 36 (0, 0))) := Lib.hid (alloc_at (by simp))
      have HR1 := Lib.hid (r1.below hbb (Nat.le_refl _))
      have hb := b4.bt hbb
      have HPB := Lib.hid ((hb.block _ (Array.getElem?_eq_some_iff.1 HP3.out).1).trans HP3.out)
      have HKB : Hid (Keeps _ (.slice ka 10 kc) stdK) := Lib.hid (Rows.below HK3.out hb (Nat.le_refl _))
      have HB5 := Lib.hid (HB3.out.bt hb)
      clear b4 hb hbb r1 r3 sr hp3 hp4 hrf hrn htn HP3 HK3 HB3 c0 c1 c2 c3 c4 c5 c6 c7 c8 c9 c10
      go_upto_region 7 with fail
      generalize w4.heap.size + 1 = n4 at HN4 ⊢
      generalize w4.heap.size = n3 at HN3 ⊢
      generalize ((w4.alloc (.cells #[.int .i64 id, .int .i64 ver, .int .i64 kind, .string lang, .slice a rn c] 31)).alloc (.cells #[.int .i64 id, .int .i64 id2, .int .i64 ver2, .int .i64 kind2, .string lang2, .slice ya yn yc, .slice ta tn tc] 36)) = w5 at HN3 HN4 HR1 HPB HKB HB5 ⊢
      have HCE : Hid (∀ W, Below w5.heap.size w5 W → W.heap[w.heap.size]? = some (pairO id ver kind lang xa xn xc id2 ver2 kind2 lang2 ya yn yc (.slice ka 10 kc)) ∧ W.heap[n3]? = some (.cells #[.int .i64 id, .int .i64 ver, .int .i64 kind, .string lang, .slice a rn c] 31 (0, 0)) ∧ W.heap[n4]? = some (.cells #[.int .i64 id, .int .i64 id2, .int .i64 ver2, .int .i64 kind2, .string lang2, .slice ya yn yc, .slice ta tn tc] 36 (0, 0))) := Lib.hid (fun W h => ⟨(h.block _ (Array.getElem?_eq_some_iff.1 HPB.out).1).trans HPB.out, (h.block _ (Array.getElem?_eq_some_iff.1 HN3.out).1).trans HN3.out, (h.block _ (Array.getElem?_eq_some_iff.1 HN4.out).1).trans HN4.out⟩)
      have RC := Lib.hid (rcd_cells HR1.out)
      clear HN3 HN4 HPB
      have hrxz : (xn : Int) ≤ (rn : Int) := by omega
      go_wp2
      go_loopw [6] (fun vk wr => ∃ k : Nat, vk = .int .i64 k ∧ k ≤ xn ∧ Hid (Below w5.heap.size w5 wr)) (fun vk _ => xn - (intOf vk).toNat)
      case atStart => exact ⟨0, rfl, by omega, Lib.hid (Below.refl _ _)⟩
      case round =>
        obtain ⟨k, rfl, hk, HBR⟩ := hrel
        obtain ⟨wo, rfl⟩ : ∃ W, W = wr := ⟨_, rfl⟩
        obtain ⟨k0, k3, -⟩ := HCE.out wo HBR.out
        have g4 := Lib.cell_of_heap k0 4
        clear k0 k3
        by_cases hlt : k < xn
        · have hltz : (k : Int) < (xn : Int) := by omega
          have hltr : (k : Int) < (rn : Int) := by omega
          have hltr2 : decide (rn ≤ k) = false := decide_eq_false (by omega)
          obtain ⟨f, hf⟩ : ∃ f, xf[k]? = some f := ⟨_, List.getElem?_eq_getElem (by have := HXN.out; omega)⟩
          have hfr : rf[k]? = some f := by rw [HRF.out, List.getElem?_append_left (by have := HXN.out; omega)]; exact hf
          rcases XC.out with h0 | ⟨b, o, rfl, hbl, hcl⟩
          · have h0 : xf = [] := h0
            rw [h0] at hf; cases hf
          rcases RC.out with h0 | ⟨b2, o2, ha2, hbl2, hcl2⟩
          · have h0 : rf = [] := h0
            rw [h0] at hfr; cases hfr
          obtain rfl : a = some ⟨b2, o2, none⟩ := ha2
          have hx4 := hcl k f hf
          have hr4 := hcl2 k f hfr
          have hfx : ∀ W, Below w.heap.size w W → FldAt W f := fun W h => (HX.out W h).2 f (List.mem_of_getElem? hf)
          have hcall : ∀ W, Below wo.heap.size wo W → Calls Tryd.prog 17 #[fldV f, fldV f] W fun e w' => e = .returned (.bool true) ∧ Below W.heap.size W w' := fun W h => by
            have hb := HB5.out.bt (HBR.out.bt h)
            have := rSame07 f f W (hfx W hb) (hfx W hb) (HSX.out f (List.mem_of_getElem? hf)) (HSX.out f (List.mem_of_getElem? hf))
            rw [sameF_refl] at this
            exact this
          have hcx : ∀ W, Below wo.heap.size wo W → Four W b (o + k * 4) f := fun W h => hx4.below (HB5.out.bt (HBR.out.bt h)) hbl
          have hcr : ∀ W, Below wo.heap.size wo W → Four W b2 (o2 + k * 4) f := fun W h => hr4.below (HBR.out.bt h) hbl2
          have hp : ∀ W, Below wo.heap.size wo W → W.cell? ⟨w.heap.size, 4, none⟩ = some (.slice (some ⟨b, o, none⟩) xn xc) ∧ W.cell? ⟨n3, 4, none⟩ = some (.slice (some ⟨b2, o2, none⟩) rn c) := fun W h => by
            obtain ⟨k0, k3, -⟩ := HCE.out W (HBR.out.bt h)
            exact ⟨Lib.cell_of_heap k0 4, Lib.cell_of_heap k3 4⟩
          obtain ⟨T, hT⟩ : ∃ T, T = lb f.tag := ⟨_, rfl⟩
          obtain ⟨I, hI⟩ : ∃ I, I = lb f.ind := ⟨_, rfl⟩
          obtain ⟨sn, hsn⟩ : ∃ sn, sn = f.subs.length := ⟨_, rfl⟩
          unfold fldV at hcall
          rw [← hT, ← hI, ← hsn] at hcall
          have hcx' : ∀ W, Below wo.heap.size wo W → W.cell? ⟨b, o + k * 4, none⟩ = some (.string T) ∧ W.cell? ⟨b, o + k * 4 + 1, none⟩ = some (.string I) ∧ W.cell? ⟨b, o + k * 4 + 2, none⟩ = some (.slice f.sa sn f.sc) ∧ W.cell? ⟨b, o + k * 4 + 3, none⟩ = some (.int .i64 f.auth) := fun W h => by
            obtain ⟨h0, h1, h2, h3⟩ := hcx W h
            rw [hT, hI, hsn]
            exact ⟨h0, h1, h2, h3⟩
          have hcr' : ∀ W, Below wo.heap.size wo W → W.cell? ⟨b2, o2 + k * 4, none⟩ = some (.string T) ∧ W.cell? ⟨b2, o2 + k * 4 + 1, none⟩ = some (.string I) ∧ W.cell? ⟨b2, o2 + k * 4 + 2, none⟩ = some (.slice f.sa sn f.sc) ∧ W.cell? ⟨b2, o2 + k * 4 + 3, none⟩ = some (.int .i64 f.auth) := fun W h => by
            obtain ⟨h0, h1, h2, h3⟩ := hcr W h
            rw [hT, hI, hsn]
            exact ⟨h0, h1, h2, h3⟩
          have HCL := Lib.hid hcall
          have HCX := Lib.hid hcx'
          have HCR := Lib.hid hcr'
          have HCP := Lib.hid hp
          clear hcall hcx hcr hcx' hcr' hp hx4 hr4 hcl hcl2 hf hfr hfx hT hI hsn
          go_wp2_with fail
          obtain ⟨C, hC⟩ : ∃ C : World → Prop, C = fun w' => Below wo.heap.size wo w' := ⟨_, rfl⟩
          have hCB : ∀ w', C w' → Below wo.heap.size wo w' := fun w' h => by rw [hC] at h; exact h
          have hC0 : C { wo with drawn := wo.drawn + 1 } := by rw [hC]; exact (Below.refl _ _).drew
          have hstep : ∀ w' w'', C w' → Below w'.heap.size w' w'' → C w'' := fun w' w'' h k => by rw [hC] at h ⊢; exact h.trans (k.mono h.size)
          have hcells : ∀ w', C w' → w'.cell? ⟨w.heap.size, 4, none⟩ = some (.slice (some ⟨b, o, none⟩) xn xc) ∧ w'.cell? ⟨n3, 4, none⟩ = some (.slice (some ⟨b2, o2, none⟩) rn c) ∧ w'.cell? ⟨b, o + k * 4, none⟩ = some (.string T) ∧ w'.cell? ⟨b, o + k * 4 + 1, none⟩ = some (.string I) ∧ w'.cell? ⟨b, o + k * 4 + 2, none⟩ = some (.slice f.sa sn f.sc) ∧ w'.cell? ⟨b, o + k * 4 + 3, none⟩ = some (.int .i64 f.auth) ∧ w'.cell? ⟨b2, o2 + k * 4, none⟩ = some (.string T) ∧ w'.cell? ⟨b2, o2 + k * 4 + 1, none⟩ = some (.string I) ∧ w'.cell? ⟨b2, o2 + k * 4 + 2, none⟩ = some (.slice f.sa sn f.sc) ∧ w'.cell? ⟨b2, o2 + k * 4 + 3, none⟩ = some (.int .i64 f.auth) := fun w' h => ⟨(HCP.out w' (hCB w' h)).1, (HCP.out w' (hCB w' h)).2, (HCX.out w' (hCB w' h)).1, (HCX.out w' (hCB w' h)).2.1, (HCX.out w' (hCB w' h)).2.2.1, (HCX.out w' (hCB w' h)).2.2.2, (HCR.out w' (hCB w' h)).1, (HCR.out w' (hCB w' h)).2.1, (HCR.out w' (hCB w' h)).2.2.1, (HCR.out w' (hCB w' h)).2.2.2⟩
          clear hC
          refine wp_region_quiet (C := C) (by kernel_rfl) (by kernel_rfl) hC0 ?_
          show wpQuiet _ _ _ _ [_, _, _, _, _, _, _, _, _, _, _, _, _, _, _, _, _, _, _, _] _
          repeat
            with_reducible refine wpQuiet_step (fun K hK => ?_)
            go_simp
            first
              | (with_reducible refine hK _ ?_; clear hK K)
              | (apply Exists.intro
                 with_reducible refine ⟨fun w' hw' => ?_, hK _ ?_⟩
                 · first
                   | with_reducible rfl
                   | (obtain ⟨q0, q1, q2, q3, q4, q5, q6, q7, q8, q9⟩ := hcells w' hw'; go_simp; with_reducible rfl)
                   | ((first
                       | with_reducible refine (HCL.out w' (hCB w' hw')).mono ?_)
                      exact fun e w'' ⟨he, hb⟩ => ⟨he, hstep w' w'' hw' hb⟩)
                 clear hK K)
          refine wpQuiet_nil ?_
          intro wz hw2
          have HB6 := Lib.hid (HBR.out.bt (hCB wz hw2))
          clear hcells hCB hstep hw2
          go_wp2
          go_roundw
          case rel => exact ⟨k + 1, by go_num, by omega, HB6⟩
          case measure => simp [intOf]; omega
        · have hltz : ¬ (k : Int) < (xn : Int) := by omega
          clear hlt hk
          go_wp2
          go_loopw [7] (fun vk wr => ∃ k : Nat, vk = .int .i64 k ∧ k ≤ yn ∧ Hid (Below w5.heap.size w5 wr)) (fun vk _ => yn - (intOf vk).toNat)
          case atStart => exact ⟨0, rfl, by omega, HBR⟩
          case round =>
            obtain ⟨k2, rfl, hk2, HB7⟩ := hrel
            obtain ⟨wp, rfl⟩ : ∃ W, W = wr := ⟨_, rfl⟩
            clear g4 hltz HBR
            obtain ⟨k0, k3, k4⟩ := HCE.out wp HB7.out
            have g9 := Lib.cell_of_heap k0 9
            by_cases hlt : k2 < yn
            · have hltz : (k2 : Int) < (yn : Int) := by omega
              obtain ⟨f, hf⟩ : ∃ f, yf[k2]? = some f := ⟨_, List.getElem?_eq_getElem (by have := HYN.out; omega)⟩
              rcases YC.out with h0 | ⟨b, o, hya, hbl, hcl⟩
              · have h0 : yf = [] := h0
                rw [h0] at hf; cases hf
              obtain rfl : ya = some ⟨b, o, none⟩ := hya
              obtain ⟨p0, p1, p2, p3⟩ := (hcl k2 f hf).below (HB5.out.bt HB7.out) hbl
              have hfy : ∀ W, Below w.heap.size w W → FldAt W f := fun W h => (HY.out W h).2 f (List.mem_of_getElem? hf)
              have hfs : f.subs.length ≤ 1000000 := HSY.out f (List.mem_of_getElem? hf)
              have hany := HH4.out f (List.mem_of_getElem? hf)
              obtain ⟨T, hT⟩ : ∃ T, T = lb f.tag := ⟨_, rfl⟩
              obtain ⟨I, hI⟩ : ∃ I, I = lb f.ind := ⟨_, rfl⟩
              obtain ⟨sn, hsn⟩ : ∃ sn, sn = f.subs.length := ⟨_, rfl⟩
              rw [← hT] at p0 hany
              rw [← hI] at p1
              rw [← hsn] at p2
              have hb8 : Below wp.heap.size wp (wp.alloc (.cells #[.string T, .string I, .slice f.sa sn f.sc, .int .i64 f.auth] 46)) := (Below.refl _ _).alloc (Nat.le_refl _) _
              have HN8 : Hid ((wp.alloc (.cells #[.string T, .string I, .slice f.sa sn f.sc, .int .i64 f.auth] 46)).heap[wp.heap.size]? = some (.cells #[.string T, .string I, .slice f.sa sn f.sc, .int .i64 f.auth] 46 (0, 0))) := Lib.hid (alloc_at rfl)
              have HB8 := Lib.hid (HB7.out.bt hb8)
              have HHOW : Hid (∀ W, Below w5.heap.size w5 W → Calls Tryd.prog 11 #[.slice ka 10 kc, .string T] W fun e w' => e = .returned (.int .i64 (howL stdK T)) ∧ Below W.heap.size W w') := Lib.hid (fun W h => rHow _ stdK T W (Rows.below HKB.out h (Nat.le_refl _)) (by rw [std_len]; omega))
              have hcall : ∀ W (g : Fld), Below w5.heap.size w5 W → g ∈ rf → Calls Tryd.prog 17 #[fldV g, .agg #[.string T, .string I, .slice f.sa sn f.sc, .int .i64 f.auth]] W fun e w' => e = .returned (.bool (sameF g f)) ∧ Below W.heap.size W w' := fun W g h hg => by
                have := rSame07 g f W ((HR1.out.below h (Nat.le_refl _)).2 g hg) (hfy W (HB5.out.bt h)) (HSR.out g hg) hfs
                unfold fldV at this ⊢
                rw [← hT, ← hI, ← hsn] at this
                exact this
              have HCL := Lib.hid hcall
              have HAN := Lib.hid hany
              clear hb8 hcall hany hcl hf hfy hfs hT hI hsn k3 k4
              go_upto_region 16 with fail
              generalize wp.heap.size = n8 at HN8 ⊢
              generalize (wp.alloc (.cells #[.string T, .string I, .slice f.sa sn f.sc, .int .i64 f.auth] 46)) = w8 at HN8 HB8 ⊢
              clear k0 g9 p0 p1 p2 p3
              obtain ⟨k0, k3, k4⟩ := HCE.out w8 HB8.out
              have g10 := Lib.cell_of_heap k0 10
              have g0 := Lib.cell_of_heap HN8.out 0
              clear k0 k3 k4
              go_wp2_with fail
              refine (HHOW.out w8 HB8.out).mono ?_
              rintro e w9 ⟨rfl, b9⟩
              have HN9 := Lib.hid ((b9.block _ (Array.getElem?_eq_some_iff.1 HN8.out).1).trans HN8.out)
              have HB9 := Lib.hid (HB8.out.bt b9)
              clear b9 g10 g0 HN8 HB8 HHOW
              by_cases hh : howL stdK T = 1
              · have hany := HAN.out hh
                have hz : (howL stdK T != 1) = false := by rw [hh]; rfl
                obtain ⟨HT, hHT⟩ : ∃ n, n = howL stdK T := ⟨_, rfl⟩
                rw [← hHT] at hz ⊢
                have HANY := Lib.hid hany
                clear hany HAN hh hHT
                go_wp2
                go_loopw [9, 10] (fun vf vj wr => ∃ (F : Bool) (j : Nat), vf = .bool F ∧ vj = .int .i64 j ∧ j ≤ rn ∧ Hid (F = (rf.take j).any (fun g => sameF g f)) ∧ Hid (Below w9.heap.size w9 wr)) (fun _ vj _ => rn - (intOf vj).toNat)
                case atStart => exact ⟨false, 0, rfl, rfl, by omega, Lib.hid (by simp), Lib.hid (Below.refl _ _)⟩
                case round =>
                  obtain ⟨F, j, rfl, rfl, hj, HF, HB10⟩ := hrel
                  obtain ⟨wq, rfl⟩ : ∃ W, W = wr := ⟨_, rfl⟩
                  obtain ⟨k0, k3, k4⟩ := HCE.out wq (HB9.out.bt HB10.out)
                  have g4 := Lib.cell_of_heap k3 4
                  clear k0 k3 k4
                  by_cases hlj : j < rn
                  · have hljz : (j : Int) < (rn : Int) := by omega
                    obtain ⟨g, hg⟩ : ∃ g, rf[j]? = some g := ⟨_, List.getElem?_eq_getElem (by have := HRN.out; omega)⟩
                    rcases RC.out with h0 | ⟨b2, o2, ha2, hbl2, hcl2⟩
                    · have h0 : rf = [] := h0
                      rw [h0] at hg; cases hg
                    obtain rfl : a = some ⟨b2, o2, none⟩ := ha2
                    have hst : ((rf.take (j + 1)).any (fun g => sameF g f)) = (F || sameF g f) := by
                      rw [HF.out, List.take_add_one, hg, List.any_append]
                      simp
                    have hr4 := hcl2 j g hg
                    have hcr : ∀ W, Below wq.heap.size wq W → Four W b2 (o2 + j * 4) g := fun W h => hr4.below (HB9.out.bt (HB10.out.bt h)) hbl2
                    have hcall : ∀ W, Below wq.heap.size wq W → Calls Tryd.prog 17 #[fldV g, .agg #[.string T, .string I, .slice f.sa sn f.sc, .int .i64 f.auth]] W fun e w' => e = .returned (.bool (sameF g f)) ∧ Below W.heap.size W w' := fun W h => HCL.out W g (HB9.out.bt (HB10.out.bt h)) (List.mem_of_getElem? hg)
                    have hp : ∀ W, Below wq.heap.size wq W → W.cell? ⟨n3, 4, none⟩ = some (.slice (some ⟨b2, o2, none⟩) rn c) ∧ W.heap[n8]? = some (.cells #[.string T, .string I, .slice f.sa sn f.sc, .int .i64 f.auth] 46 (0, 0)) := fun W h => by
                      obtain ⟨k0, k3, -⟩ := HCE.out W (HB9.out.bt (HB10.out.bt h))
                      exact ⟨Lib.cell_of_heap k3 4, ((HB10.out.bt h).block _ (Array.getElem?_eq_some_iff.1 HN9.out).1).trans HN9.out⟩
                    obtain ⟨G, hG⟩ : ∃ G, G = sameF g f := ⟨_, rfl⟩
                    obtain ⟨T2, hT⟩ : ∃ T, T = lb g.tag := ⟨_, rfl⟩
                    obtain ⟨I2, hI⟩ : ∃ I, I = lb g.ind := ⟨_, rfl⟩
                    obtain ⟨sn2, hsn⟩ : ∃ sn, sn = g.subs.length := ⟨_, rfl⟩
                    rw [← hG] at hst hcall
                    unfold fldV at hcall
                    rw [← hT, ← hI, ← hsn] at hcall
                    have hcr' : ∀ W, Below wq.heap.size wq W → W.cell? ⟨b2, o2 + j * 4, none⟩ = some (.string T2) ∧ W.cell? ⟨b2, o2 + j * 4 + 1, none⟩ = some (.string I2) ∧ W.cell? ⟨b2, o2 + j * 4 + 2, none⟩ = some (.slice g.sa sn2 g.sc) ∧ W.cell? ⟨b2, o2 + j * 4 + 3, none⟩ = some (.int .i64 g.auth) := fun W h => by
                      obtain ⟨h0, h1, h2, h3⟩ := hcr W h
                      rw [hT, hI, hsn]
                      exact ⟨h0, h1, h2, h3⟩
                    have HCS := Lib.hid hcall
                    have HCR := Lib.hid hcr'
                    have HCP := Lib.hid hp
                    have HST := Lib.hid hst
                    clear hcall hcr hcr' hp hr4 hcl2 hg hT hI hsn hG hst HF
                    go_wp2_with fail
                    cases F with
                    | true =>
                      obtain ⟨C, hC⟩ : ∃ C : World → Prop, C = fun w' => Below wq.heap.size wq w' := ⟨_, rfl⟩
                      have hCB : ∀ w', C w' → Below wq.heap.size wq w' := fun w' h => by rw [hC] at h; exact h
                      have hC0 : C { wq with drawn := wq.drawn + 1 } := by rw [hC]; exact (Below.refl _ _).drew
                      have hstep : ∀ w' w'', C w' → Below w'.heap.size w' w'' → C w'' := fun w' w'' h k => by rw [hC] at h ⊢; exact h.trans (k.mono h.size)
                      have hcells : ∀ w', C w' → w'.cell? ⟨n3, 4, none⟩ = some (.slice (some ⟨b2, o2, none⟩) rn c) ∧ w'.cell? ⟨n8, 0, none⟩ = some (.string T) ∧ w'.cell? ⟨n8, 1, none⟩ = some (.string I) ∧ w'.cell? ⟨n8, 2, none⟩ = some (.slice f.sa sn f.sc) ∧ w'.cell? ⟨n8, 3, none⟩ = some (.int .i64 f.auth) ∧ w'.cell? ⟨b2, o2 + j * 4, none⟩ = some (.string T2) ∧ w'.cell? ⟨b2, o2 + j * 4 + 1, none⟩ = some (.string I2) ∧ w'.cell? ⟨b2, o2 + j * 4 + 2, none⟩ = some (.slice g.sa sn2 g.sc) ∧ w'.cell? ⟨b2, o2 + j * 4 + 3, none⟩ = some (.int .i64 g.auth) := fun w' h => ⟨(HCP.out w' (hCB w' h)).1, Lib.cell_of_heap (HCP.out w' (hCB w' h)).2 0, Lib.cell_of_heap (HCP.out w' (hCB w' h)).2 1, Lib.cell_of_heap (HCP.out w' (hCB w' h)).2 2, Lib.cell_of_heap (HCP.out w' (hCB w' h)).2 3, (HCR.out w' (hCB w' h)).1, (HCR.out w' (hCB w' h)).2.1, (HCR.out w' (hCB w' h)).2.2.1, (HCR.out w' (hCB w' h)).2.2.2⟩
                      clear hC
                      refine wp_region_quiet (C := C) (by kernel_rfl) (by kernel_rfl) hC0 ?_
                      show wpQuiet _ _ _ _ [_, _, _, _, _, _, _, _, _, _, _] _
                      repeat
                        with_reducible refine wpQuiet_step (fun K hK => ?_)
                        go_simp
                        first
                          | (with_reducible refine hK _ ?_; clear hK K)
                          | (apply Exists.intro
                             with_reducible refine ⟨fun w' hw' => ?_, hK _ ?_⟩
                             · first
                               | with_reducible rfl
                               | (obtain ⟨q0, q1, q2, q3, q4, q5, q6, q7, q8⟩ := hcells w' hw'; go_simp; with_reducible rfl)
                               | ((first
                                   | with_reducible refine (HCS.out w' (hCB w' hw')).mono ?_)
                                  exact fun e w'' ⟨he, hb⟩ => ⟨he, hstep w' w'' hw' hb⟩)
                             clear hK K)
                      refine wpQuiet_nil ?_
                      intro wz hw2
                      have HB11 := Lib.hid (HB10.out.bt (hCB wz hw2))
                      clear hcells hCB hstep hw2
                      go_wp2
                      go_roundw
                      case rel => exact ⟨_, j + 1, rfl, by go_num, by omega, Lib.hid (by rw [HST.out]; rfl), HB11⟩
                      case measure => simp [intOf]; omega
                    | false =>
                      obtain ⟨C, hC⟩ : ∃ C : World → Prop, C = fun w' => Below wq.heap.size wq w' := ⟨_, rfl⟩
                      have hCB : ∀ w', C w' → Below wq.heap.size wq w' := fun w' h => by rw [hC] at h; exact h
                      have hC0 : C { wq with drawn := wq.drawn + 1 } := by rw [hC]; exact (Below.refl _ _).drew
                      have hstep : ∀ w' w'', C w' → Below w'.heap.size w' w'' → C w'' := fun w' w'' h k => by rw [hC] at h ⊢; exact h.trans (k.mono h.size)
                      have hcells : ∀ w', C w' → w'.cell? ⟨n3, 4, none⟩ = some (.slice (some ⟨b2, o2, none⟩) rn c) ∧ w'.cell? ⟨n8, 0, none⟩ = some (.string T) ∧ w'.cell? ⟨n8, 1, none⟩ = some (.string I) ∧ w'.cell? ⟨n8, 2, none⟩ = some (.slice f.sa sn f.sc) ∧ w'.cell? ⟨n8, 3, none⟩ = some (.int .i64 f.auth) ∧ w'.cell? ⟨b2, o2 + j * 4, none⟩ = some (.string T2) ∧ w'.cell? ⟨b2, o2 + j * 4 + 1, none⟩ = some (.string I2) ∧ w'.cell? ⟨b2, o2 + j * 4 + 2, none⟩ = some (.slice g.sa sn2 g.sc) ∧ w'.cell? ⟨b2, o2 + j * 4 + 3, none⟩ = some (.int .i64 g.auth) := fun w' h => ⟨(HCP.out w' (hCB w' h)).1, Lib.cell_of_heap (HCP.out w' (hCB w' h)).2 0, Lib.cell_of_heap (HCP.out w' (hCB w' h)).2 1, Lib.cell_of_heap (HCP.out w' (hCB w' h)).2 2, Lib.cell_of_heap (HCP.out w' (hCB w' h)).2 3, (HCR.out w' (hCB w' h)).1, (HCR.out w' (hCB w' h)).2.1, (HCR.out w' (hCB w' h)).2.2.1, (HCR.out w' (hCB w' h)).2.2.2⟩
                      clear hC
                      refine wp_region_quiet (C := C) (by kernel_rfl) (by kernel_rfl) hC0 ?_
                      show wpQuiet _ _ _ _ [_, _, _, _, _, _, _, _, _, _, _] _
                      repeat
                        with_reducible refine wpQuiet_step (fun K hK => ?_)
                        go_simp
                        first
                          | (with_reducible refine hK _ ?_; clear hK K)
                          | (apply Exists.intro
                             with_reducible refine ⟨fun w' hw' => ?_, hK _ ?_⟩
                             · first
                               | with_reducible rfl
                               | (obtain ⟨q0, q1, q2, q3, q4, q5, q6, q7, q8⟩ := hcells w' hw'; go_simp; with_reducible rfl)
                               | ((first
                                   | with_reducible refine (HCS.out w' (hCB w' hw')).mono ?_)
                                  exact fun e w'' ⟨he, hb⟩ => ⟨he, hstep w' w'' hw' hb⟩)
                             clear hK K)
                      refine wpQuiet_nil ?_
                      intro wz hw2
                      have HB11 := Lib.hid (HB10.out.bt (hCB wz hw2))
                      clear hcells hCB hstep hw2
                      go_wp2
                      go_roundw
                      case rel => exact ⟨_, j + 1, rfl, by go_num, by omega, Lib.hid (by rw [HST.out]; rfl), HB11⟩
                      case measure => simp [intOf]; omega
                  · have hljz : ¬ (j : Int) < (rn : Int) := by omega
                    have HFT : Hid (F = true) := Lib.hid (by rw [HF.out, List.take_of_length_le (by have := HRN.out; omega)]; exact HANY.out)
                    have HB11 := Lib.hid (HB9.out.bt HB10.out)
                    obtain rfl := HFT.out
                    clear HFT HF
                    go_wp2
                    go_roundw
                    case rel => exact ⟨k2 + 1, by go_num, by omega, HB11⟩
                    case measure => simp [intOf]; omega
              · have hz : (howL stdK T != 1) = true := by simpa using hh
                obtain ⟨HT, hHT⟩ : ∃ n, n = howL stdK T := ⟨_, rfl⟩
                rw [← hHT] at hz ⊢
                clear HAN hh hHT
                go_wp2
                go_roundw
                case rel => exact ⟨k2 + 1, by go_num, by omega, HB9⟩
                case measure => simp [intOf]; omega
            · have hltz : ¬ (k2 : Int) < (yn : Int) := by omega
              have g0 := Lib.cell_of_heap k3 0
              have g1 := Lib.cell_of_heap k3 1
              have g2 := Lib.cell_of_heap k3 2
              have g3 := Lib.cell_of_heap k3 3
              have g4 := Lib.cell_of_heap k3 4
              have g5 := Lib.cell_of_heap k0 5
              have g6 := Lib.cell_of_heap k0 6
              have g7 := Lib.cell_of_heap k0 7
              have g8 := Lib.cell_of_heap k0 8
              have g10 := Lib.cell_of_heap k0 10
              have hwp : IntKind.i64.wrap ((rn : Int) - (xn : Int)) = (tn : Int) := by rw [IntKind.wrap_i64]; have := HRN.out; omega
              clear k0 k3 k4 hlt hk2
              go_wp2_with fail
              refine (HPA.out wp _ a c (HB5.out.bt HB7.out) (Rows.below HKB.out HB7.out (Nat.le_refl _)) (HR1.out.below HB7.out (Nat.le_refl _))).mono ?_
              rintro e w8 ⟨a', c', tv, rfl, -, -, r3, b8⟩
              obtain ⟨ta', tc', rfl, -⟩ := Rows.shape r3
              unfold recV5 partV
              simp only [List.length_nil]
              rw [← HRN.out, ← HYN.out]
              have hbb : Below w8.heap.size w8 ((w8.alloc (.cells #[.int .i64 id, .int .i64 ver, .int .i64 kind, .string lang, .slice a' rn c'] 31)).alloc (.cells #[.int .i64 id, .int .i64 id2, .int .i64 ver2, .int .i64 kind2, .string lang2, .slice ya yn yc, .slice ta' 0 tc'] 36)) := (Below.refl _ _).alloc2 (Nat.le_refl _) _ _
              have HNQ : Hid (((w8.alloc (.cells #[.int .i64 id, .int .i64 ver, .int .i64 kind, .string lang, .slice a' rn c'] 31)).alloc (.cells #[.int .i64 id, .int .i64 id2, .int .i64 ver2, .int .i64 kind2, .string lang2, .slice ya yn yc, .slice ta' 0 tc'] 36)).heap[w8.heap.size + 1]? = some (.cells #[.int .i64 id, .int .i64 id2, .int .i64 ver2, .int .i64 kind2, .string lang2, .slice ya yn yc, .slice ta' 0 tc'] 36 (0, 0))) := Lib.hid (alloc_at (by simp))
              have HB8 := Lib.hid ((HB7.out.bt b8).bt hbb)
              clear b8 hbb r3 g0 g1 g2 g3 g4 g5 g6 g7 g8 g9 g10 HB7 HPA HR1 HX HY XC YC RC HKB
              go_upto_region 25 with fail
              generalize w8.heap.size + 1 = nq at HNQ ⊢
              generalize w8.heap.size = nr at ⊢
              generalize ((w8.alloc (.cells #[.int .i64 id, .int .i64 ver, .int .i64 kind, .string lang, .slice a' rn c'] 31)).alloc (.cells #[.int .i64 id, .int .i64 id2, .int .i64 ver2, .int .i64 kind2, .string lang2, .slice ya yn yc, .slice ta' 0 tc'] 36)) = w9 at HNQ HB8 ⊢
              go_wp2_with fail
              refine (HAL.out w9 (HB5.out.bt HB8.out)).mono ?_
              rintro e w10 ⟨rfl, b10⟩
              obtain ⟨k0, k3, k4⟩ := HCE.out w10 (HB8.out.bt b10)
              have kq := (b10.block _ (Array.getElem?_eq_some_iff.1 HNQ.out).1).trans HNQ.out
              have HBZ := Lib.hid ((HB5.out.bt HB8.out).bt b10)
              have g4 := Lib.cell_of_heap k0 4
              have r4 := Lib.cell_of_heap k3 4
              have p6 := Lib.cell_of_heap k4 6
              have q6 := Lib.cell_of_heap kq 6
              clear b10 k0 k3 k4 kq HCE HNQ HB8 HAL
              go_wp2
              go_ret
              exact ⟨rfl, HBZ.out⟩
    · have hz : (err != 0) = true := by simpa using he
      obtain ⟨rid, rver, rkind, rlang, rf⟩ := R
      obtain ⟨pin, ⟨⟨fid, fver, fkind, flang, ff⟩, fa, fc⟩, tk⟩ := P
      have HB4 := Lib.hid (HB3.out.bt (b4.bt ((Below.refl _ _).alloc2 (Nat.le_refl _) (.cells #[.int .i64 rid, .int .i64 rver, .int .i64 rkind, .string rlang, .slice a rf.length c] 31) (.cells #[.int .i64 pin, .int .i64 fid, .int .i64 fver, .int .i64 fkind, .string flang, .slice fa ff.length fc, .slice ta tk.length tc] 36))))
      unfold recV5 partV
      simp only
      clear he r1 r3 b4 c0 c1 c2 c3 c4 c5 c6 c7 c8 c9 c10 HTP HPA2 HLF2 HPM HP3 HK3 HB3 HX HY XC YC HSX HSY HXN HYN
      go_wp2_with fail
      refine (HAL.out _ HB4.out).mono ?_
      rintro e w5 ⟨rfl, b5⟩
      have HB5 := Lib.hid (HB4.out.bt b5)
      clear b5
      go_wp2
      go_ret
      exact ⟨rfl, HB5.out⟩
end Go.Proofs.YtcdlgmncalmihaaDoor
