/- Sorting fields (layer 08): the comparing closure and the walk of the insertion sort. -/
import Derived.Test.YtkfjeolpbopcnaaGreatDoorVa
import Derived.Test.YtkfjeolpbopcnaaGreatDoorMrr
namespace Go.Proofs.YtkfjeolpbopcnaaGreatDoor
open Go Go.RowKit

set_option maxRecDepth 100000 in
set_option maxHeartbeats 1000000 in
theorem pTagCmp (x y : Fld) (w : World) :
    Calls Tryz.prog 50 #[fldV x, fldV y] w fun e w' => e = .returned (.int .i64 (kcmp K0 x y)) ∧ Below w.heap.size w w' := by
  have hp := fun W => Tryz.strings_Compare (lb x.tag) (lb y.tag) W
  rw [lb_data, lb_data] at hp
  obtain ⟨T, hT⟩ : ∃ T, T = lb x.tag := ⟨_, rfl⟩
  obtain ⟨T', hT'⟩ : ∃ T, T = lb y.tag := ⟨_, rfl⟩
  unfold fldV kcmp
  rw [← hT, ← hT'] at hp ⊢
  obtain ⟨K, hK⟩ : ∃ K, K = Lib.compareBytes x.tag y.tag := ⟨_, rfl⟩
  rw [← hK] at hp ⊢
  have HP := Lib.hid hp
  have HB := Lib.hid (((Below.refl w.heap.size w).alloc (Nat.le_refl _) (.cells #[.string T, .string (lb x.ind), .slice x.sa x.subs.length x.sc, .int .i64 x.auth] 35)).alloc (by simp) (.cells #[.string T', .string (lb y.ind), .slice y.sa y.subs.length y.sc, .int .i64 y.auth] 35))
  have k0 := new2_cell w (.cells #[.string T, .string (lb x.ind), .slice x.sa x.subs.length x.sc, .int .i64 x.auth] 35) #[.string T', .string (lb y.ind), .slice y.sa y.subs.length y.sc, .int .i64 y.auth] 35 0
  have k1 : ((w.alloc (.cells #[.string T, .string (lb x.ind), .slice x.sa x.subs.length x.sc, .int .i64 x.auth] 35)).alloc (.cells #[.string T', .string (lb y.ind), .slice y.sa y.subs.length y.sc, .int .i64 y.auth] 35)).cell? ⟨w.heap.size, 0, none⟩ = some (.string T) := Lib.cell?_alloc_some _ ((new1_cell w #[.string T, .string (lb x.ind), .slice x.sa x.subs.length x.sc, .int .i64 x.auth] 35 0).trans rfl)
  clear hp hT hT' hK
  go_enter Tryz.func50, Tryz.ntmps50
  go_wp2_with fail
  refine (HP.out _).mono ?_
  rintro e w1 ⟨rfl, rfl⟩
  go_wp2
  go_ret
  exact ⟨rfl, HB.out⟩
theorem sCmp {w0 w : World} {blk : Nat} {l : List Fld} (_ : SInv w0 blk w l) (_ : Env w0) (x y : Fld) (_ : FldAt w0 x) (_ : FldAt w0 y) :
    Calls Tryz.prog 50 #[.agg #[.string (lb x.tag), .string (lb x.ind), .slice x.sa x.subs.length x.sc, .int .i64 x.auth], .agg #[.string (lb y.tag), .string (lb y.ind), .slice y.sa y.subs.length y.sc, .int .i64 y.auth]] w fun e w' => e = .returned (.int .i64 (kcmp K0 x y)) ∧ Below w.heap.size w w' := pTagCmp x y w

/-- What the inner loop of the insertion sort keeps: e is on its way to the left, in front of L2. -/
def InsIn (w0 : World) (blk : Nat) (m i j : Nat) (p x s : List Fld) (w : World) : Prop :=
  ∃ L1 e L2 R, SInv w0 blk w (p ++ (L1 ++ e :: (L2 ++ (R ++ s)))) ∧ p.length + L1.length = j ∧ p.length + L1.length + L2.length = i ∧ SortedK m (L1 ++ L2) ∧ (∀ z ∈ L2, kle m e z) ∧ (L1 ++ e :: (L2 ++ R)).Stab x
/-- What the outer loop keeps: the first i texts are in order. -/
def InsOut (w0 : World) (blk : Nat) (m i : Nat) (p x s : List Fld) (w : World) : Prop :=
  ∃ L R, SInv w0 blk w (p ++ (L ++ (R ++ s))) ∧ p.length + L.length = i ∧ SortedK m L ∧ (L ++ R).Stab x
section
variable {w0 w : World} {blk : Nat} {m i j : Nat} {p x s : List Fld}
theorem InsOut.enter (h : InsOut w0 blk m i p x s w) (hi : i < p.length + x.length) : InsIn w0 blk m i i p x s w := by
  obtain ⟨L, R, hS, hl, hs, hp⟩ := h
  cases R with
  | nil => have := hp.length_eq; simp at this; omega
  | cons e R => exact ⟨L, e, [], R, hS.eq (by simp), hl, by simpa using hl, by simpa using hs, by simp, by simpa using hp⟩
theorem InsIn.done (h : InsIn w0 blk m i j p x s w) (hj : j = p.length ∨ ∀ L1 z e C, SInv w0 blk w (p ++ (L1 ++ z :: (e :: C))) → p.length + L1.length + 1 = j → kle m z e) : InsOut w0 blk m (i + 1) p x s w := by
  obtain ⟨L1, e, L2, R, hS, h1, h2, hs, he, hp⟩ := h
  refine ⟨L1 ++ e :: L2, R, hS.eq (by simp), by simp; omega, sorted_ins m hs ?_ he, by simpa using hp⟩
  rcases hj with hj | hj
  · obtain rfl : L1 = [] := List.length_eq_zero_iff.1 (by omega)
    simp
  · rcases List.eq_nil_or_concat L1 with rfl | ⟨L, z, rfl⟩
    · simp
    · rw [List.concat_eq_append] at *
      have := hj L z e (L2 ++ (R ++ s)) (hS.eq (by simp)) (by simp at h1; omega)
      unfold SortedK at hs
      exact sorted_last m (by unfold SortedK; exact (List.pairwise_append.1 hs).1) this
theorem InsIn.split (h : InsIn w0 blk m i j p x s w) (hj : p.length < j) : ∃ L1 z e L2 R, SInv w0 blk w (p ++ (L1 ++ z :: (e :: (L2 ++ (R ++ s))))) ∧ p.length + L1.length + 1 = j ∧ p.length + L1.length + 1 + L2.length = i ∧ SortedK m (L1 ++ z :: L2) ∧ (∀ y ∈ L2, kle m e y) ∧ (L1 ++ z :: (e :: (L2 ++ R))).Stab x := by
  obtain ⟨L1, e, L2, R, hS, h1, h2, hs, he, hp⟩ := h
  rcases List.eq_nil_or_concat L1 with rfl | ⟨L, z, rfl⟩
  · simp at h1; omega
  · rw [List.concat_eq_append] at *
    refine ⟨L, z, e, L2, R, hS.eq (by simp), by simp at h1; omega, by simp at h2; omega, by simpa using hs, he, by simpa using hp⟩
end

set_option maxRecDepth 100000 in
set_option maxHeartbeats 1000000 in
theorem sInsertion {w0 w : World} {blk : Nat} {p x s : List Fld} (h : SInv w0 blk w (p ++ (x ++ s))) (hE : Env w0)
    (n cap a b : Nat) (hn : n = (p ++ (x ++ s)).length) (hn2 : n ≤ 1000) (ha : a = p.length) (hb : b = a + x.length) :
    Calls Tryz.prog 106 #[.slice (some ⟨blk, 0, none⟩) n cap, .int .i64 a, .int .i64 b, .func (.func 50) #[] #[]] w fun e w' =>
      e = .returned (.tuple #[]) ∧ ∃ x', SInv w0 blk w' (p ++ (x' ++ s)) ∧ x'.Stab x ∧ SortedK K0 x' := by
  have hlen : n = a + x.length + s.length := by rw [hn]; simp; omega
  have hbn : a ≤ b ∧ b ≤ n := by omega
  obtain ⟨m, hm⟩ : ∃ m, m = K0 := ⟨_, rfl⟩
  rw [← hm]
  have HM := Lib.hid hm
  have HI := Lib.hid h
  have HE := Lib.hid hE
  have HL := Lib.hid (And.intro hn (And.intro ha hb))
  by_cases hx : x = []
  · have hba : b ≤ a := by subst hx; simp at hb; omega
    subst hx
    clear hm h hE hn ha hb hlen
    go_enter Tryz.func106, Tryz.ntmps106
    go_wp2
    go_loopw [8] (fun vi wr => vi = .int .i64 ((a : Int) + 1) ∧ wr = w) (fun _ _ => 0)
    case atStart => exact ⟨by go_num, rfl⟩
    case round =>
      obtain ⟨rfl, rfl⟩ := hrel
      go_wp2
      go_end0
      exact ⟨rfl, [], HI.out, List.Stab.refl _, List.Pairwise.nil⟩
  have hab : a < b := by
    have : 0 < x.length := List.length_pos_iff.2 hx
    omega
  clear hm h hE hn ha hb hlen hx
  go_enter Tryz.func106, Tryz.ntmps106
  go_wp2
  go_loopw [8] (fun vi wr => ∃ i : Nat, vi = .int .i64 i ∧ a < i ∧ i ≤ b ∧ Hid (InsOut w0 blk m i p x s wr)) (fun vi _ => b - (intOf vi).toNat)
  case atStart =>
    obtain ⟨hn, ha, hb⟩ := HL.out
    refine ⟨a + 1, by go_num, by omega, by omega, Lib.hid ?_⟩
    cases x with
    | nil => simp at hb; omega
    | cons e r => exact ⟨[e], r, HI.out.eq (by simp), by simp; omega, List.pairwise_singleton .., List.Stab.refl _⟩
  case round =>
    obtain ⟨i, rfl, hai, hib, HO⟩ := hrel
    by_cases hlt : i < b
    · have hltz : (i : Int) < (b : Int) := by omega
      have H0 : Hid (InsIn w0 blk m i i p x s wr) := Lib.hid (HO.out.enter (by obtain ⟨hn, ha, hb⟩ := HL.out; omega))
      clear HO
      go_wp2
      go_loopw [9] (fun vj wr2 => ∃ j : Nat, vj = .int .i64 j ∧ a ≤ j ∧ j ≤ i ∧ Hid (InsIn w0 blk m i j p x s wr2)) (fun vj _ => (intOf vj).toNat)
      case atStart => exact ⟨i, rfl, by omega, Nat.le_refl _, H0⟩
      case round =>
        obtain ⟨j, rfl, haj, hji, HK⟩ := hrel
        by_cases hja : a < j
        · have hjaz : (a : Int) < (j : Int) := by omega
          obtain ⟨L1, z, e, L2, R, hS, hl1, hl2, hso, hle, hpe⟩ := HK.out.split (by obtain ⟨hn, ha, hb⟩ := HL.out; omega)
          obtain ⟨jp, rfl⟩ : ∃ jp, j = jp + 1 := ⟨j - 1, by omega⟩
          have hjp : jp = (p ++ L1).length := by simp; omega
          have hjp1 : jp + 1 = ((p ++ L1) ++ [z]).length := by simp; omega
          have jz : (jp : Int) + 1 < (n : Int) := by omega
          have jz1 : (jp : Int) < (n : Int) := by omega
          have hjaz' : (a : Int) < (jp : Int) + 1 := by omega
          have p0 : (0 : Int) ≤ (jp : Int) + 1 := by omega
          have hwp : IntKind.i64.wrap (jp : Int) = (jp : Int) := by rw [IntKind.wrap_i64]; omega
          have e0 : ((jp : Int) + 1).toNat = jp + 1 := by omega
          have gz := hS.good z (by simp)
          have ge := hS.good e (by simp)
          obtain ⟨C, hC⟩ : ∃ C : World → Prop, C = fun w' => SInv w0 blk w' (p ++ (L1 ++ z :: (e :: (L2 ++ (R ++ s))))) := ⟨_, rfl⟩
          have hcells : ∀ w', C w' → w'.cell? ⟨blk, jp * 4, none⟩ = some (.string (lb z.tag)) ∧ w'.cell? ⟨blk, jp * 4 + 1, none⟩ = some (.string (lb z.ind)) ∧ w'.cell? ⟨blk, jp * 4 + 2, none⟩ = some (.slice z.sa z.subs.length z.sc) ∧ w'.cell? ⟨blk, jp * 4 + 3, none⟩ = some (.int .i64 z.auth) ∧ w'.cell? ⟨blk, (jp + 1) * 4, none⟩ = some (.string (lb e.tag)) ∧ w'.cell? ⟨blk, (jp + 1) * 4 + 1, none⟩ = some (.string (lb e.ind)) ∧ w'.cell? ⟨blk, (jp + 1) * 4 + 2, none⟩ = some (.slice e.sa e.subs.length e.sc) ∧ w'.cell? ⟨blk, (jp + 1) * 4 + 3, none⟩ = some (.int .i64 e.auth) := by
            intro w' hw'
            rw [hC] at hw'
            obtain ⟨a0, a1, a2, a3⟩ := hw'.at (A := p ++ L1) (x := z) (C := e :: (L2 ++ (R ++ s))) (by simp) hjp
            obtain ⟨b0, b1, b2, b3⟩ := hw'.at (A := p ++ L1 ++ [z]) (x := e) (C := L2 ++ (R ++ s)) (by simp) hjp1
            exact ⟨a0, a1, a2, a3, b0, b1, b2, b3⟩
          have hcall : ∀ w', C w' → Calls Tryz.prog 50 #[.agg #[.string (lb e.tag), .string (lb e.ind), .slice e.sa e.subs.length e.sc, .int .i64 e.auth], .agg #[.string (lb z.tag), .string (lb z.ind), .slice z.sa z.subs.length z.sc, .int .i64 z.auth]] w' fun e' w'' => e' = .returned (.int .i64 (kcmp m e z)) ∧ Below w'.heap.size w' w'' := by
            intro w' hw'
            rw [hC] at hw'
            rw [HM.out]
            exact sCmp hw' HE.out e z ge gz
          have hstep : ∀ w' w'', C w' → Below w'.heap.size w' w'' → C w'' := by
            intro w' w'' hw' hb
            rw [hC] at hw' ⊢
            exact hw'.step hb
          have hC0 : C { wr with drawn := wr.drawn + 1 } := by rw [hC]; exact hS.drew
          have HC := Lib.hid hC
          have HJ := Lib.hid (And.intro hjp (And.intro hl1 (And.intro hl2 (And.intro hso (And.intro hle hpe)))))
          clear hC hjp hjp1 hl1 hl2 hso hle hpe gz ge hS HK
          obtain ⟨kc, hkc⟩ : ∃ kc, kc = kcmp m e z := ⟨_, rfl⟩
          rw [← hkc] at hcall
          have HKC := Lib.hid hkc
          clear hkc
          by_cases hlv : kc < 0
          · go_wp2_with fail
            refine wp_region_quiet (C := C) (by kernel_rfl) (by kernel_rfl) hC0 ?_
            show wpQuiet _ _ _ _ [_, _, _, _, _, _, _, _, _, _, _, _, _, _, _, _, _] _
            repeat
              refine wpQuiet_step (fun K hK => ?_)
              go_simp
              first
                | (refine hK _ ?_; clear hK K)
                | (apply Exists.intro
                   refine ⟨fun w' hw' => ?_, hK _ ?_⟩
                   · first
                     | with_reducible rfl
                     | (obtain ⟨q0, q1, q2, q3, q4, q5, q6, q7⟩ := hcells w' hw'; go_simp; with_reducible rfl)
                     | ((first
                         | with_reducible refine (hcall w' hw').mono ?_)
                        exact fun e w'' ⟨he, hb⟩ => ⟨he, hstep w' w'' hw' hb⟩)
                   clear hK K)
            refine wpQuiet_nil ?_
            intro w2 hw2
            have hS2 := hw2
            rw [HC.out] at hS2
            obtain ⟨c10, c11, c12, c13⟩ := hS2.at (A := p ++ L1) (x := z) (C := e :: (L2 ++ (R ++ s))) (by simp) HJ.out.1
            obtain ⟨c20, c21, c22, c23⟩ := hS2.at (A := p ++ L1 ++ [z]) (x := e) (C := L2 ++ (R ++ s)) (by simp) (i := jp + 1) (by have := HJ.out.1; simp at this ⊢; omega)
            have fz := hS2.frz
            have HS := Lib.hid hS2
            clear hS2 hw2 hcells hcall hstep hC0
            obtain ⟨j1, hj1⟩ : ∃ j1, j1 = jp + 1 := ⟨_, rfl⟩
            rw [← hj1] at c20 c21 c22 c23 e0
            have f10 := fz (jp * 4)
            have f20 := fz (j1 * 4)
            have f11 := fz (jp * 4 + 1)
            have f21 := fz (j1 * 4 + 1)
            have f12 := fz (jp * 4 + 2)
            have f22 := fz (j1 * 4 + 2)
            have f13 := fz (jp * 4 + 3)
            have f23 := fz (j1 * 4 + 3)
            clear fz
            have J1 := Lib.hid hj1
            clear hj1
            go_wp2_with fail
            go_region
            all_goals go_wp2
            go_roundw
            case rel =>
              obtain ⟨i1, i2, i3, i4, i5, i6⟩ := HJ.out
              refine ⟨jp, by go_num, by omega, by omega, Lib.hid ⟨L1, e, z :: L2, R, ?_, by simp at i1; omega, by simp at i1 ⊢; omega, i4, ?_, ?_⟩⟩
              · rw [J1.out]
                have hsw := ((HS.out.eq (show _ = (p ++ L1) ++ z :: ([] ++ e :: (L2 ++ (R ++ s))) by simp)).swap' (i := jp) (j := jp + 1) i1 (by have := i1; simp at this ⊢; omega)).drew
                refine SInv.eq ?_ (show (p ++ L1) ++ e :: ([] ++ z :: (L2 ++ (R ++ s))) = _ by simp)
                exact hsw
              · intro y hy
                rcases List.mem_cons.1 hy with rfl | hy
                · exact kle_of_lt m (by rw [← HKC.out]; exact hlv)
                · exact i5 y hy
              · exact (List.Stab.append_left L1 (stab_swap (kcmp_tag m (by rw [← HKC.out]; exact hlv)).symm (L2 ++ R))).trans i6
            case measure => simp [intOf]
          · go_wp2_with fail
            refine wp_region_quiet (C := C) (by kernel_rfl) (by kernel_rfl) hC0 ?_
            show wpQuiet _ _ _ _ [_, _, _, _, _, _, _, _, _, _, _, _, _, _, _, _, _] _
            repeat
              refine wpQuiet_step (fun K hK => ?_)
              go_simp
              first
                | (refine hK _ ?_; clear hK K)
                | (apply Exists.intro
                   refine ⟨fun w' hw' => ?_, hK _ ?_⟩
                   · first
                     | with_reducible rfl
                     | (obtain ⟨q0, q1, q2, q3, q4, q5, q6, q7⟩ := hcells w' hw'; go_simp; with_reducible rfl)
                     | ((first
                         | with_reducible refine (hcall w' hw').mono ?_)
                        exact fun e w'' ⟨he, hb⟩ => ⟨he, hstep w' w'' hw' hb⟩)
                   clear hK K)
            refine wpQuiet_nil ?_
            intro w2 hw2
            have hS2 := hw2
            rw [HC.out] at hS2
            obtain ⟨i1, i2, i3, i4, i5, i6⟩ := HJ.out
            have hout : InsOut w0 blk m (i + 1) p x s w2 := by
              refine ⟨L1 ++ z :: (e :: L2), R, hS2.eq (by simp), by simp at i1 ⊢; omega, ?_, by simpa using i6⟩
              have hze : kle m z e := kle_of_not m (by rw [← HKC.out]; omega)
              have := sorted_ins m (L1 := L1 ++ [z]) (L2 := L2) (e := e) (by simpa using i4) (sorted_last m (by unfold SortedK at i4 ⊢; exact (List.pairwise_append.1 (show List.Pairwise (kle m) ((L1 ++ [z]) ++ L2) by simpa using i4)).1) hze) i5
              simpa using this
            have HO := Lib.hid hout
            clear hS2 hw2 hcells hcall hstep hC0 hout i1 i2 i3 i4 i5 i6
            go_wp2
            go_roundw
            case rel => exact ⟨i + 1, by go_num, by omega, by omega, HO⟩
            case measure => simp [intOf]; omega
        · have hjaz : ¬ (a : Int) < (j : Int) := by omega
          have hjad : decide ((j : Int) > (a : Int)) = false := decide_eq_false (by omega)
          have hout : InsOut w0 blk m (i + 1) p x s wr := HK.out.done (.inl (by obtain ⟨hn, ha, hb⟩ := HL.out; omega))
          have HO : Hid (InsOut w0 blk m (i + 1) p x s wr.drew) := Lib.hid (by obtain ⟨L, R, hS, h2⟩ := hout; exact ⟨L, R, hS.drew, h2⟩)
          clear hout HK
          go_wp2_with fail
          go_region
          all_goals go_wp2
          go_roundw
          case rel => exact ⟨i + 1, by go_num, by omega, by omega, HO⟩
          case measure => simp [intOf]; omega
    · have hltz : ¬ (i : Int) < (b : Int) := by omega
      go_wp2
      go_end0
      obtain ⟨L, R, hS, hl, hs, hp⟩ := HO.out
      obtain ⟨hn, ha, hb⟩ := HL.out
      have hR : R = [] := by
        have := hp.length_eq
        simp at this
        exact List.length_eq_zero_iff.1 (by omega)
      subst hR
      exact ⟨rfl, L, hS.eq (by simp), by simpa using hp, hs⟩
end Go.Proofs.YtkfjeolpbopcnaaGreatDoor
