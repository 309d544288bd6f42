/- Sorting fields (layer 08): the walk of symMerge. -/
import Derived.Test.YtkfjeolpbopcnaaGreatDoorVm
namespace Go.Proofs.YtkfjeolpbopcnaaGreatDoor
open Go Go.RowKit

/-- How the search of symMerge parts the runs: ahead of lo the texts of u stay in front, from hi on they do not. -/
def CutM (g : Nat) (u v : List Fld) (a mid s0 r0 lo hi : Nat) : Prop :=
  ∀ c x y, a ≤ c → u[c - a]? = some x → v[mid - 1 - c]? = some y → (s0 ≤ c → c < lo → ¬ kcmp g y x < 0) ∧ (hi ≤ c → c < r0 → kcmp g y x < 0)
theorem CutM.up (g : Nat) {u v : List Fld} {a mid s0 r0 lo hi h : Nat} {x y : Fld} (hu : SortedK g u) (hv : SortedK g v) (c : CutM g u v a mid s0 r0 lo hi) (ha : a ≤ h) (hx : u[h - a]? = some x) (hy : v[mid - 1 - h]? = some y) (hlt : ¬ kcmp g y x < 0) :
    CutM g u v a mid s0 r0 (h + 1) hi := fun k x' y' hk hx' hy' => ⟨fun _ hkh hh => hlt (kcmp_le_lt g (sorted_at g hv hy hy' (by omega)) (kcmp_lt_le g hh (sorted_at g hu hx' hx (by omega)))), (c k x' y' hk hx' hy').2⟩
theorem CutM.down (g : Nat) {u v : List Fld} {a mid s0 r0 lo hi h : Nat} {x y : Fld} (hu : SortedK g u) (hv : SortedK g v) (c : CutM g u v a mid s0 r0 lo hi) (ha : a ≤ h) (hx : u[h - a]? = some x) (hy : v[mid - 1 - h]? = some y) (hlt : kcmp g y x < 0) :
    CutM g u v a mid s0 r0 lo h := fun k x' y' hk hx' hy' => ⟨(c k x' y' hk hx' hy').1, fun hhk _ => kcmp_le_lt g (sorted_at g hv hy' hy (by omega)) (kcmp_lt_le g hlt (sorted_at g hu hx hx' (by omega)))⟩
/-- What the search has found. -/
theorem CutM.found (g : Nat) {u v : List Fld} {a m mid b s0 r0 st : Nat} (hu : SortedK g u) (hv : SortedK g v) (c : CutM g u v a mid s0 r0 st st) (hm : m = a + u.length) (hb : b = m + v.length) (h1 : a ≤ s0) (h2 : s0 ≤ st) (h3 : st ≤ r0) (h4 : r0 ≤ m) (h5 : r0 ≤ mid) (h6 : mid + m ≤ s0 + b) (h7 : s0 = a ∨ mid + m = s0 + b) (h8 : r0 = mid ∨ r0 = m) :
    (∀ x ∈ u.take (st - a), ∀ y ∈ v.drop (mid - st), kle g x y) ∧ (∀ y ∈ v.take (mid - st), ∀ x ∈ u.drop (st - a), kcmp g y x < 0) := by
  constructor
  · intro x hx y hy
    obtain ⟨t, ht, hx⟩ := mem_take_at hx
    obtain ⟨t', ht', hy⟩ := mem_drop_at hy
    have hyl := (List.getElem?_eq_some_iff.1 hy).1
    have hs : s0 < st := by omega
    obtain ⟨x0, hx0⟩ : ∃ x0, u[st - 1 - a]? = some x0 := ⟨_, List.getElem?_eq_getElem (by omega)⟩
    obtain ⟨y0, hy0⟩ : ∃ y0, v[mid - 1 - (st - 1)]? = some y0 := ⟨_, List.getElem?_eq_getElem (by omega)⟩
    have := (c (st - 1) x0 y0 (by omega) hx0 hy0).1 (by omega) (by omega)
    exact kle_trans g (sorted_at g hu hx hx0 (by omega)) (kle_trans g (kle_of_not g this) (sorted_at g hv hy0 hy (by omega)))
  · intro y hy x hx
    obtain ⟨t, ht, hy⟩ := mem_take_at hy
    obtain ⟨t', ht', hx⟩ := mem_drop_at hx
    have hxl := (List.getElem?_eq_some_iff.1 hx).1
    have hs : st < r0 := by omega
    obtain ⟨x0, hx0⟩ : ∃ x0, u[st - a]? = some x0 := ⟨_, List.getElem?_eq_getElem (by omega)⟩
    obtain ⟨y0, hy0⟩ : ∃ y0, v[mid - 1 - st]? = some y0 := ⟨_, List.getElem?_eq_getElem (by omega)⟩
    have := (c st x0 y0 (by omega) hx0 hy0).2 (by omega) (by omega)
    exact kcmp_le_lt g (sorted_at g hv hy hy0 (by omega)) (kcmp_lt_le g this (sorted_at g hu hx0 hx (by omega)))
/-- The two halves in order make the whole. -/
theorem merge_end (g : Nat) {X1 X2 Y1 Y2 Z1 Z2 : List Fld} (hu : SortedK g (X1 ++ X2)) (hv : SortedK g (Y1 ++ Y2)) (f1 : ∀ x ∈ X1, ∀ y ∈ Y2, kle g x y) (f2 : ∀ y ∈ Y1, ∀ x ∈ X2, kcmp g y x < 0)
    (p1 : Z1.Stab (X1 ++ Y1)) (p2 : Z2.Stab (X2 ++ Y2)) (s1 : SortedK g Z1) (s2 : SortedK g Z2) : SortedK g (Z1 ++ Z2) ∧ (Z1 ++ Z2).Stab ((X1 ++ X2) ++ (Y1 ++ Y2)) := by
  unfold SortedK at *
  rw [List.pairwise_append] at hu hv
  refine ⟨List.pairwise_append.2 ⟨s1, s2, fun x hx y hy => ?_⟩, ?_⟩
  · have hx := p1.subset hx
    have hy := p2.subset hy
    rcases List.mem_append.1 hx with hx | hx <;> rcases List.mem_append.1 hy with hy | hy
    · exact hu.2.2 x hx y hy
    · exact f1 x hx y hy
    · exact kle_of_lt g (f2 x hx y hy)
    · exact hv.2.2 x hx y hy
  · refine (p1.append p2).trans ?_
    rw [List.append_assoc, List.append_assoc]
    refine List.Stab.append_left X1 ?_
    rw [← List.append_assoc, ← List.append_assoc]
    exact List.Stab.append_right Y2 (stab_comm (fun y hy x hx => kcmp_tag g (f2 y hy x hx)))
theorem sorted_nil_left (g : Nat) {X Y : List Fld} (hx : SortedK g X) (hy : SortedK g Y) (h : X = [] ∨ Y = []) : SortedK g (X ++ Y) := by
  rcases h with rfl | rfl
  · simpa using hy
  · simpa using hx
theorem sorted_take (g : Nat) {l : List Fld} (h : SortedK g l) (i : Nat) : SortedK g (l.take i) ∧ SortedK g (l.drop i) :=
  ⟨List.Pairwise.sublist (List.take_sublist _ _) h, List.Pairwise.sublist (List.drop_sublist _ _) h⟩

/-- What is known of symMerge at shorter runs. -/
def MergeAt (w0 : World) (blk : Nat) (T : Nat) : Prop := ∀ (w : World) (p u v s : List Fld), u.length + v.length < T → u ≠ [] → v ≠ [] → SInv w0 blk w (p ++ (u ++ (v ++ s))) → SortedK K0 u → SortedK K0 v →
    ∀ (n cap a m b : Nat), n = (p ++ (u ++ (v ++ s))).length → n ≤ 1000 → a = p.length → m = a + u.length → b = m + v.length →
    Calls Tryz.prog 107 #[.slice (some ⟨blk, 0, none⟩) n cap, .int .i64 a, .int .i64 m, .int .i64 b, .func (.func 50) #[] #[]] w fun e' w' =>
      e' = .returned (.tuple #[]) ∧ ∃ x', SInv w0 blk w' (p ++ (x' ++ s)) ∧ x'.Stab (u ++ v) ∧ SortedK K0 x'

set_option maxRecDepth 100000 in
set_option maxHeartbeats 4000000 in
theorem sMerge3a {w0 w : World} {blk : Nat} {p u v s : List Fld} (IH : Hid (MergeAt w0 blk (u.length + v.length))) (h : SInv w0 blk w (p ++ (u ++ (v ++ s)))) (hE : Env w0) (hu : SortedK K0 u) (hv : SortedK K0 v)
    (n cap a m b mid : Nat) (hn : n = (p ++ (u ++ (v ++ s))).length) (hn2 : n ≤ 1000) (hu2 : 2 ≤ u.length) (hv2 : 2 ≤ v.length) (ha : a = p.length) (hm : m = a + u.length) (hb : b = m + v.length) (hmid2 : mid = (a + b) / 2) (hmm : mid < m) :
    Calls Tryz.prog 107 #[.slice (some ⟨blk, 0, none⟩) n cap, .int .i64 a, .int .i64 m, .int .i64 b, .func (.func 50) #[] #[]] w fun e' w' =>
      e' = .returned (.tuple #[]) ∧ ∃ x', SInv w0 blk w' (p ++ (x' ++ s)) ∧ x'.Stab (u ++ v) ∧ SortedK K0 x' := by
  have hlen : n = a + u.length + v.length + s.length := by rw [hn]; simp; omega
  have hbn : a + 2 ≤ m ∧ m + 2 ≤ b ∧ b ≤ n := by omega
  have hmb : 2 * mid ≤ a + b ∧ a + b ≤ 2 * mid + 1 := by omega
  have hmid : ((a : Int) + (b : Int)) / 2 = (mid : Int) := by omega
  obtain ⟨NN, hNN⟩ : ∃ NN : Nat, (mid : Int) + (m : Int) = (NN : Int) := ⟨mid + m, by omega⟩
  have hNb : NN ≤ mid + m ∧ mid + m ≤ NN := by omega
  obtain ⟨PP, hPP⟩ : ∃ PP : Nat, (NN : Int) - 1 = (PP : Int) := ⟨NN - 1, by omega⟩
  have hPb : PP + 1 ≤ NN ∧ NN ≤ PP + 1 := by omega
  obtain ⟨s0, hs0⟩ : ∃ s0 : Nat, (NN : Int) - (b : Int) = (s0 : Int) := ⟨NN - b, by omega⟩
  have hs1 : s0 + b ≤ NN ∧ NN ≤ s0 + b := by omega
  have HI := Lib.hid h
  have HE := Lib.hid hE
  have HV := Lib.hid (And.intro hu hv)
  have HL := Lib.hid (And.intro hn (And.intro ha (And.intro hm hb)))
  have HT : Hid (∀ T, T = u.length + v.length → b = a + T) := Lib.hid fun T hT => by omega
  have hma : ((m : Int) - (a : Int) == 1) = false := by rw [beq_eq_false_iff_ne]; omega
  have hbm : ((b : Int) - (m : Int) == 1) = false := by rw [beq_eq_false_iff_ne]; omega
  have hgt : (mid : Int) < (m : Int) := by omega
  clear h hE hu hv hn ha hb hlen hm hmid2 hu2 hv2
  go_enter Tryz.func107, Tryz.ntmps107
  go_wp2
  go_loopw [20, 21] (fun vi vj wr => ∃ i j : Nat, vi = .int .i64 i ∧ vj = .int .i64 j ∧ s0 ≤ i ∧ i ≤ j ∧ j ≤ mid ∧ Hid (SInv w0 blk wr (p ++ (u ++ (v ++ s)))) ∧ Hid (CutM K0 u v a mid s0 mid i j)) (fun vi vj _ => (intOf vj).toNat - (intOf vi).toNat)
  case atStart => exact ⟨s0, mid, by go_num, by go_num, by omega, by omega, by omega, HI, Lib.hid fun c x y _ _ _ => ⟨fun h1 h2 => by omega, fun h1 h2 => by omega⟩⟩
  case round =>
    obtain ⟨i, j, rfl, rfl, hmi, hij, hjb, HK, HC1⟩ := hrel
    by_cases hlt : i < j
    · have hltz : (i : Int) < (j : Int) := by omega
      go_wp2_with fail
      obtain ⟨h, hh⟩ : ∃ h : Nat, ((i : Int) + (j : Int)) / 2 = (h : Int) := ⟨(i + j) / 2, by omega⟩
      have hih : i ≤ h ∧ h < j := by omega
      rw [hh]
      clear hh
      obtain ⟨q, hq⟩ : ∃ q : Nat, q = PP - h := ⟨_, rfl⟩
      have hq2 : q + h ≤ PP ∧ PP ≤ q + h := by omega
      have hwq : IntKind.i64.wrap ((PP : Int) - (h : Int)) = (q : Int) := by rw [IntKind.wrap_i64]; omega
      obtain ⟨x, hx⟩ : ∃ x, u[h - a]? = some x := ⟨_, List.getElem?_eq_getElem (by obtain ⟨hn, ha, hm, hb⟩ := HL.out; omega)⟩
      obtain ⟨y, hy⟩ : ∃ y, v[mid - 1 - h]? = some y := ⟨_, List.getElem?_eq_getElem (by obtain ⟨hn, ha, hm, hb⟩ := HL.out; omega)⟩
      have gx := HK.out.good x (List.mem_append.2 (.inr (List.mem_append.2 (.inl (List.mem_of_getElem? hx)))))
      have gy := HK.out.good y (List.mem_append.2 (.inr (List.mem_append.2 (.inr (List.mem_append.2 (.inl (List.mem_of_getElem? hy)))))))
      have lx : (p ++ (u ++ (v ++ s)))[h]? = some x := by
        obtain ⟨hn, ha, hm, hb⟩ := HL.out
        rw [List.getElem?_append_right (by omega), show h - p.length = h - a by omega, List.getElem?_append_left (List.getElem?_eq_some_iff.1 hx).1]; exact hx
      have ly : (p ++ (u ++ (v ++ s)))[q]? = some y := by
        obtain ⟨hn, ha, hm, hb⟩ := HL.out
        rw [List.getElem?_append_right (by omega), List.getElem?_append_right (by omega), show q - p.length - u.length = mid - 1 - h by omega, List.getElem?_append_left (List.getElem?_eq_some_iff.1 hy).1]; exact hy
      have hn1 : (h : Int) < (n : Int) := by omega
      have hn3 : (q : Int) < (n : Int) := by omega
      obtain ⟨C, hC⟩ : ∃ C : World → Prop, C = fun w' => SInv w0 blk w' (p ++ (u ++ (v ++ s))) := ⟨_, rfl⟩
      have hcells : ∀ w', C w' → w'.cell? ⟨blk, h * 4, none⟩ = some (.string (lb x.tag)) ∧ w'.cell? ⟨blk, h * 4 + 1, none⟩ = some (.string (lb x.ind)) ∧ w'.cell? ⟨blk, h * 4 + 2, none⟩ = some (.slice x.sa x.subs.length x.sc) ∧ w'.cell? ⟨blk, h * 4 + 3, none⟩ = some (.int .i64 x.auth) ∧ w'.cell? ⟨blk, q * 4, none⟩ = some (.string (lb y.tag)) ∧ w'.cell? ⟨blk, q * 4 + 1, none⟩ = some (.string (lb y.ind)) ∧ w'.cell? ⟨blk, q * 4 + 2, none⟩ = some (.slice y.sa y.subs.length y.sc) ∧ w'.cell? ⟨blk, q * 4 + 3, none⟩ = some (.int .i64 y.auth) := by
        intro w' hw'
        rw [hC] at hw'
        obtain ⟨a0, a1, a2, a3⟩ := hw'.hold h x lx
        obtain ⟨b0, b1, b2, b3⟩ := hw'.hold q y ly
        exact ⟨a0, a1, a2, a3, b0, b1, b2, b3⟩
      have hcall : ∀ w', C w' → Calls Tryz.prog 50 #[.agg #[.string (lb y.tag), .string (lb y.ind), .slice y.sa y.subs.length y.sc, .int .i64 y.auth], .agg #[.string (lb x.tag), .string (lb x.ind), .slice x.sa x.subs.length x.sc, .int .i64 x.auth]] w' fun e' w'' => e' = .returned (.int .i64 (kcmp K0 y x)) ∧ Below w'.heap.size w' w'' := by
        intro w' hw'
        rw [hC] at hw'
        exact sCmp hw' HE.out y x gy gx
      have hstep : ∀ w' w'', C w' → Below w'.heap.size w' w'' → C w'' := by
        intro w' w'' hw' hb
        rw [hC] at hw' ⊢
        exact hw'.step hb
      have hC0 : C { wr with drawn := wr.drawn + 1 } := by rw [hC]; exact HK.out.drew
      have HC := Lib.hid hC
      obtain ⟨kc, hkc⟩ : ∃ kc, kc = kcmp K0 y x := ⟨_, rfl⟩
      rw [← hkc] at hcall
      have HKC := Lib.hid (And.intro hkc (And.intro hx hy))
      clear hkc hx hy lx ly hC HK gx gy hq
      by_cases hlv : kc < 0
      · refine wp_region_quiet (C := C) (by kernel_rfl) (by kernel_rfl) hC0 ?_
        show wpQuiet _ _ _ _ [_, _, _, _, _, _, _, _, _, _, _, _, _, _] _
        repeat
          refine wpQuiet_step (fun K hK => ?_)
          go_simp
          first
            | (refine hK _ ?_; clear hK K)
            | (apply Exists.intro
               refine ⟨fun w' hw' => ?_, hK _ ?_⟩
               · first
                 | with_reducible rfl
                 | (obtain ⟨q0, q1, q2, q3, q4, q5, q6, q7⟩ := hcells w' hw'; go_simp; with_reducible rfl)
                 | ((first
                     | with_reducible refine (hcall w' hw').mono ?_)
                    exact fun e w'' ⟨he, hb⟩ => ⟨he, hstep w' w'' hw' hb⟩)
               clear hK K)
        refine wpQuiet_nil ?_
        intro w2 hw2
        have HO : Hid (CutM K0 u v a mid s0 mid i h) := Lib.hid (HC1.out.down _ HV.out.1 HV.out.2 (by omega) HKC.out.2.1 HKC.out.2.2 (by rw [← HKC.out.1]; omega))
        have HS : Hid (SInv w0 blk w2 (p ++ (u ++ (v ++ s)))) := Lib.hid (by have := hw2; rw [HC.out] at this; exact this)
        clear hcells hcall hstep hC0 hw2
        go_wp2
        go_roundw
        case rel => exact ⟨i, h, rfl, rfl, hmi, by omega, by omega, HS, HO⟩
        case measure => simp [intOf]; omega
      · refine wp_region_quiet (C := C) (by kernel_rfl) (by kernel_rfl) hC0 ?_
        show wpQuiet _ _ _ _ [_, _, _, _, _, _, _, _, _, _, _, _, _, _] _
        repeat
          refine wpQuiet_step (fun K hK => ?_)
          go_simp
          first
            | (refine hK _ ?_; clear hK K)
            | (apply Exists.intro
               refine ⟨fun w' hw' => ?_, hK _ ?_⟩
               · first
                 | with_reducible rfl
                 | (obtain ⟨q0, q1, q2, q3, q4, q5, q6, q7⟩ := hcells w' hw'; go_simp; with_reducible rfl)
                 | ((first
                     | with_reducible refine (hcall w' hw').mono ?_)
                    exact fun e w'' ⟨he, hb⟩ => ⟨he, hstep w' w'' hw' hb⟩)
               clear hK K)
        refine wpQuiet_nil ?_
        intro w2 hw2
        have HO : Hid (CutM K0 u v a mid s0 mid (h + 1) j) := Lib.hid (HC1.out.up _ HV.out.1 HV.out.2 (by omega) HKC.out.2.1 HKC.out.2.2 (by rw [← HKC.out.1]; omega))
        have HS : Hid (SInv w0 blk w2 (p ++ (u ++ (v ++ s)))) := Lib.hid (by have := hw2; rw [HC.out] at this; exact this)
        clear hcells hcall hstep hC0 hw2
        go_wp2
        go_roundw
        case rel => exact ⟨h + 1, j, by go_num, rfl, by omega, by omega, hjb, HS, HO⟩
        case measure => simp [intOf]; omega
    · have hltz : ¬ (i : Int) < (j : Int) := by omega
      obtain ⟨st, rfl⟩ : ∃ st, st = i := ⟨_, rfl⟩
      obtain rfl : st = j := by omega
      obtain ⟨en, hen⟩ : ∃ en : Nat, (NN : Int) - (st : Int) = (en : Int) := ⟨NN - st, by omega⟩
      have hen2 : en + st ≤ NN ∧ NN ≤ en + st := by omega
      have hff := HC1.out.found K0 HV.out.1 HV.out.2 HL.out.2.2.1 HL.out.2.2.2 (by omega) (by omega) (by omega) (by omega) (by omega) (by omega) (by omega) (by omega)
      obtain ⟨X1, hX1⟩ : ∃ X1, X1 = u.take (st - a) := ⟨_, rfl⟩
      obtain ⟨X2, hX2⟩ : ∃ X2, X2 = u.drop (st - a) := ⟨_, rfl⟩
      obtain ⟨Y1, hY1⟩ : ∃ Y1, Y1 = v.take (mid - st) := ⟨_, rfl⟩
      obtain ⟨Y2, hY2⟩ : ∃ Y2, Y2 = v.drop (mid - st) := ⟨_, rfl⟩
      have eu : X1 ++ X2 = u := by rw [hX1, hX2, List.take_append_drop]
      have ev : Y1 ++ Y2 = v := by rw [hY1, hY2, List.take_append_drop]
      have FF : Hid (SortedK K0 (X1 ++ X2) ∧ SortedK K0 (Y1 ++ Y2) ∧ (∀ x ∈ X1, ∀ y ∈ Y2, kle K0 x y) ∧ (∀ y ∈ Y1, ∀ x ∈ X2, kcmp K0 y x < 0) ∧ X1 ++ X2 = u ∧ Y1 ++ Y2 = v) :=
        Lib.hid ⟨by rw [eu]; exact HV.out.1, by rw [ev]; exact HV.out.2, by rw [hX1, hY2]; exact hff.1, by rw [hY1, hX2]; exact hff.2, eu, ev⟩
      have SP : Hid (SInv w0 blk wr (p ++ (X1 ++ (X2 ++ (Y1 ++ (Y2 ++ s))))) ∧ X1.length + a = st ∧ X2.length + st = m ∧ Y1.length + st = mid ∧ Y2.length + mid + m = b + st ∧ n = (p ++ (X1 ++ (X2 ++ (Y1 ++ (Y2 ++ s))))).length ∧ a = p.length ∧ SortedK K0 X1 ∧ SortedK K0 Y1 ∧ SortedK K0 X2 ∧ SortedK K0 Y2) := by
        obtain ⟨hn, ha, hm, hb⟩ := HL.out
        have e1 : p ++ (u ++ (v ++ s)) = p ++ (X1 ++ (X2 ++ (Y1 ++ (Y2 ++ s)))) := by rw [← eu, ← ev]; simp
        refine Lib.hid ⟨HK.out.eq e1, by rw [hX1]; simp; omega, by rw [hX2]; simp; omega, by rw [hY1]; simp; omega, by rw [hY2]; simp; omega, by rw [hn, e1], ha, ?_, ?_, ?_, ?_⟩
        · rw [hX1]; exact (sorted_take _ HV.out.1 _).1
        · rw [hY1]; exact (sorted_take _ HV.out.2 _).1
        · rw [hX2]; exact (sorted_take _ HV.out.1 _).2
        · rw [hY2]; exact (sorted_take _ HV.out.2 _).2
      have IH2 : Hid (MergeAt w0 blk (b - a)) := Lib.hid (by have h1 := IH.out; rw [show u.length + v.length = b - a by have := HT.out _ rfl; omega] at h1; exact h1)
      clear hff hX1 hX2 hY1 hY2 eu ev HK HC1 IH
      obtain ⟨IH, -⟩ : ∃ _ : Hid (MergeAt w0 blk (b - a)), True := ⟨IH2, trivial⟩
      clear IH2
      by_cases d0 : st < m
      · by_cases d1 : st < mid
        · by_cases d2 : a < st
          · by_cases d3 : mid + m < b + st
            · first
                | (exfalso; omega)
                | (
                    have q1 : (st : Int) < (m : Int) := by omega
                    have q2 : (m : Int) < (en : Int) := by omega
                    have q3 : (a : Int) < (st : Int) := by omega
                    have q4 : (st : Int) < (mid : Int) := by omega
                    have q5 : (mid : Int) < (en : Int) := by omega
                    have q6 : (en : Int) < (b : Int) := by omega
                    have hrot := sRotate (p := p ++ X1) (u := X2) (v := Y1) (s := Y2 ++ s) (SP.out.1.eq (by simp)) (by intro e; have := SP.out.2.2.1; rw [e] at this; simp at this; omega) (by intro e; have := SP.out.2.2.2.1; rw [e] at this; simp at this; omega) n cap st m en (by rw [SP.out.2.2.2.2.2.1]; simp) hn2 (by have := SP.out.2.1; have := SP.out.2.2.2.2.2.2.1; simp; omega) (by have := SP.out.2.2.1; omega) (by have := SP.out.2.2.2.1; omega) (.func (.func 50) #[] #[])
                    have HR := Lib.hid hrot
                    clear hrot
                    go_wp2_with fail
                    refine HR.out.mono ?_
                    rintro e w1 ⟨rfl, h1⟩
                    have S1 : Hid (SInv w0 blk w1 (p ++ (X1 ++ (Y1 ++ (X2 ++ (Y2 ++ s)))))) := Lib.hid (h1.eq (by simp))
                    clear h1 HR
                    have hm1 := IH.out w1 p X1 Y1 (X2 ++ (Y2 ++ s)) (by have := SP.out.2.1; have := SP.out.2.2.2.1; omega) (by intro e; have := SP.out.2.1; rw [e] at this; simp at this; omega) (by intro e; have := SP.out.2.2.2.1; rw [e] at this; simp at this; omega) S1.out SP.out.2.2.2.2.2.2.2.1 SP.out.2.2.2.2.2.2.2.2.1 n cap a st mid (by rw [SP.out.2.2.2.2.2.1]; simp; omega) hn2 SP.out.2.2.2.2.2.2.1 (by have := SP.out.2.1; omega) (by have := SP.out.2.2.2.1; omega)
                    have HM1 := Lib.hid hm1
                    clear hm1
                    go_wp2_with fail
                    refine HM1.out.mono ?_
                    rintro e w2 ⟨rfl, Z1, h2, hp1, hs1⟩
                    have S2 := Lib.hid (And.intro h2 (And.intro hp1 hs1))
                    clear h2 hp1 hs1 HM1
                    have hm2 := IH.out w2 (p ++ Z1) X2 Y2 s (by have := SP.out.2.2.1; have := SP.out.2.2.2.2.1; omega) (by intro e; have := SP.out.2.2.1; rw [e] at this; simp at this; omega) (by intro e; have := SP.out.2.2.2.2.1; rw [e] at this; simp at this; omega) (S2.out.1.eq (by simp)) SP.out.2.2.2.2.2.2.2.2.2.1 SP.out.2.2.2.2.2.2.2.2.2.2 n cap mid en b (by have := S2.out.2.1.length_eq; rw [SP.out.2.2.2.2.2.1]; simp at this ⊢; omega) hn2 (by have := S2.out.2.1.length_eq; have := SP.out.2.1; have := SP.out.2.2.2.1; have := SP.out.2.2.2.2.2.2.1; simp at *; omega) (by have := SP.out.2.2.1; omega) (by have := SP.out.2.2.2.2.1; omega)
                    have HM2 := Lib.hid hm2
                    clear hm2
                    go_wp2_with fail
                    refine HM2.out.mono ?_
                    rintro e w3 ⟨rfl, Z2, h3, hp2, hs2⟩
                    have S3 := Lib.hid (And.intro (h3.eq (show _ = p ++ ((Z1 ++ Z2) ++ s) by simp)) (And.intro hp2 hs2))
                    clear h3 hp2 hs2 HM2
                    have hfin := merge_end K0 FF.out.1 FF.out.2.1 FF.out.2.2.1 FF.out.2.2.2.1 S2.out.2.1 S3.out.2.1 S2.out.2.2 S3.out.2.2
                    rw [FF.out.2.2.2.2.1, FF.out.2.2.2.2.2] at hfin
                    have HF := Lib.hid hfin
                    clear hfin
                    go_wp2
                    go_end0
                    exact ⟨rfl, Z1 ++ Z2, S3.out.1, HF.out.2, HF.out.1⟩
                  )
            · first
                | (exfalso; omega)
                | (
                    have q1 : (st : Int) < (m : Int) := by omega
                    have q2 : (m : Int) < (en : Int) := by omega
                    have q3 : (a : Int) < (st : Int) := by omega
                    have q4 : (st : Int) < (mid : Int) := by omega
                    have q5 : (mid : Int) < (en : Int) := by omega
                    have q6 : ¬ (en : Int) < (b : Int) := by omega
                    have hrot := sRotate (p := p ++ X1) (u := X2) (v := Y1) (s := Y2 ++ s) (SP.out.1.eq (by simp)) (by intro e; have := SP.out.2.2.1; rw [e] at this; simp at this; omega) (by intro e; have := SP.out.2.2.2.1; rw [e] at this; simp at this; omega) n cap st m en (by rw [SP.out.2.2.2.2.2.1]; simp) hn2 (by have := SP.out.2.1; have := SP.out.2.2.2.2.2.2.1; simp; omega) (by have := SP.out.2.2.1; omega) (by have := SP.out.2.2.2.1; omega) (.func (.func 50) #[] #[])
                    have HR := Lib.hid hrot
                    clear hrot
                    go_wp2_with fail
                    refine HR.out.mono ?_
                    rintro e w1 ⟨rfl, h1⟩
                    have S1 : Hid (SInv w0 blk w1 (p ++ (X1 ++ (Y1 ++ (X2 ++ (Y2 ++ s)))))) := Lib.hid (h1.eq (by simp))
                    clear h1 HR
                    have hm1 := IH.out w1 p X1 Y1 (X2 ++ (Y2 ++ s)) (by have := SP.out.2.1; have := SP.out.2.2.2.1; omega) (by intro e; have := SP.out.2.1; rw [e] at this; simp at this; omega) (by intro e; have := SP.out.2.2.2.1; rw [e] at this; simp at this; omega) S1.out SP.out.2.2.2.2.2.2.2.1 SP.out.2.2.2.2.2.2.2.2.1 n cap a st mid (by rw [SP.out.2.2.2.2.2.1]; simp; omega) hn2 SP.out.2.2.2.2.2.2.1 (by have := SP.out.2.1; omega) (by have := SP.out.2.2.2.1; omega)
                    have HM1 := Lib.hid hm1
                    clear hm1
                    go_wp2_with fail
                    refine HM1.out.mono ?_
                    rintro e w2 ⟨rfl, Z1, h2, hp1, hs1⟩
                    have S2 := Lib.hid (And.intro h2 (And.intro hp1 hs1))
                    clear h2 hp1 hs1 HM1
                    obtain ⟨Z2, hZ2⟩ : ∃ Z2, Z2 = X2 ++ Y2 := ⟨_, rfl⟩
                    have S3 : Hid (SInv w0 blk w2 (p ++ ((Z1 ++ Z2) ++ s)) ∧ Z2.Stab (X2 ++ Y2) ∧ SortedK K0 Z2) := Lib.hid ⟨S2.out.1.eq (by rw [hZ2]; simp), by rw [hZ2]; exact List.Stab.refl _, by rw [hZ2]; exact sorted_nil_left _ SP.out.2.2.2.2.2.2.2.2.2.1 SP.out.2.2.2.2.2.2.2.2.2.2 (.inr (List.length_eq_zero_iff.1 (by have := SP.out.2.2.2.2.1; omega)))⟩
                    clear hZ2
                    have hfin := merge_end K0 FF.out.1 FF.out.2.1 FF.out.2.2.1 FF.out.2.2.2.1 S2.out.2.1 S3.out.2.1 S2.out.2.2 S3.out.2.2
                    rw [FF.out.2.2.2.2.1, FF.out.2.2.2.2.2] at hfin
                    have HF := Lib.hid hfin
                    clear hfin
                    go_wp2
                    go_end0
                    exact ⟨rfl, Z1 ++ Z2, S3.out.1, HF.out.2, HF.out.1⟩
                  )
          · by_cases d3 : mid + m < b + st
            · first
                | (exfalso; omega)
                | (
                    have q1 : (st : Int) < (m : Int) := by omega
                    have q2 : (m : Int) < (en : Int) := by omega
                    have q3 : ¬ (a : Int) < (st : Int) := by omega
                    have q4 : (st : Int) < (mid : Int) := by omega
                    have q5 : (mid : Int) < (en : Int) := by omega
                    have q6 : (en : Int) < (b : Int) := by omega
                    have hrot := sRotate (p := p ++ X1) (u := X2) (v := Y1) (s := Y2 ++ s) (SP.out.1.eq (by simp)) (by intro e; have := SP.out.2.2.1; rw [e] at this; simp at this; omega) (by intro e; have := SP.out.2.2.2.1; rw [e] at this; simp at this; omega) n cap st m en (by rw [SP.out.2.2.2.2.2.1]; simp) hn2 (by have := SP.out.2.1; have := SP.out.2.2.2.2.2.2.1; simp; omega) (by have := SP.out.2.2.1; omega) (by have := SP.out.2.2.2.1; omega) (.func (.func 50) #[] #[])
                    have HR := Lib.hid hrot
                    clear hrot
                    go_wp2_with fail
                    refine HR.out.mono ?_
                    rintro e w1 ⟨rfl, h1⟩
                    have S1 : Hid (SInv w0 blk w1 (p ++ (X1 ++ (Y1 ++ (X2 ++ (Y2 ++ s)))))) := Lib.hid (h1.eq (by simp))
                    clear h1 HR
                    obtain ⟨Z1, hZ1⟩ : ∃ Z1, Z1 = X1 ++ Y1 := ⟨_, rfl⟩
                    have S2 : Hid (SInv w0 blk w1 (p ++ (Z1 ++ (X2 ++ (Y2 ++ s)))) ∧ Z1.Stab (X1 ++ Y1) ∧ SortedK K0 Z1) := Lib.hid ⟨S1.out.eq (by rw [hZ1]; simp), by rw [hZ1]; exact List.Stab.refl _, by rw [hZ1]; exact sorted_nil_left _ SP.out.2.2.2.2.2.2.2.1 SP.out.2.2.2.2.2.2.2.2.1 (.inl (List.length_eq_zero_iff.1 (by have := SP.out.2.1; omega)))⟩
                    clear hZ1
                    have hm2 := IH.out w1 (p ++ Z1) X2 Y2 s (by have := SP.out.2.2.1; have := SP.out.2.2.2.2.1; omega) (by intro e; have := SP.out.2.2.1; rw [e] at this; simp at this; omega) (by intro e; have := SP.out.2.2.2.2.1; rw [e] at this; simp at this; omega) (S2.out.1.eq (by simp)) SP.out.2.2.2.2.2.2.2.2.2.1 SP.out.2.2.2.2.2.2.2.2.2.2 n cap mid en b (by have := S2.out.2.1.length_eq; rw [SP.out.2.2.2.2.2.1]; simp at this ⊢; omega) hn2 (by have := S2.out.2.1.length_eq; have := SP.out.2.1; have := SP.out.2.2.2.1; have := SP.out.2.2.2.2.2.2.1; simp at *; omega) (by have := SP.out.2.2.1; omega) (by have := SP.out.2.2.2.2.1; omega)
                    have HM2 := Lib.hid hm2
                    clear hm2
                    go_wp2_with fail
                    refine HM2.out.mono ?_
                    rintro e w3 ⟨rfl, Z2, h3, hp2, hs2⟩
                    have S3 := Lib.hid (And.intro (h3.eq (show _ = p ++ ((Z1 ++ Z2) ++ s) by simp)) (And.intro hp2 hs2))
                    clear h3 hp2 hs2 HM2
                    have hfin := merge_end K0 FF.out.1 FF.out.2.1 FF.out.2.2.1 FF.out.2.2.2.1 S2.out.2.1 S3.out.2.1 S2.out.2.2 S3.out.2.2
                    rw [FF.out.2.2.2.2.1, FF.out.2.2.2.2.2] at hfin
                    have HF := Lib.hid hfin
                    clear hfin
                    go_wp2
                    go_end0
                    exact ⟨rfl, Z1 ++ Z2, S3.out.1, HF.out.2, HF.out.1⟩
                  )
            · first
                | (exfalso; omega)
                | (
                    have q1 : (st : Int) < (m : Int) := by omega
                    have q2 : (m : Int) < (en : Int) := by omega
                    have q3 : ¬ (a : Int) < (st : Int) := by omega
                    have q4 : (st : Int) < (mid : Int) := by omega
                    have q5 : (mid : Int) < (en : Int) := by omega
                    have q6 : ¬ (en : Int) < (b : Int) := by omega
                    have hrot := sRotate (p := p ++ X1) (u := X2) (v := Y1) (s := Y2 ++ s) (SP.out.1.eq (by simp)) (by intro e; have := SP.out.2.2.1; rw [e] at this; simp at this; omega) (by intro e; have := SP.out.2.2.2.1; rw [e] at this; simp at this; omega) n cap st m en (by rw [SP.out.2.2.2.2.2.1]; simp) hn2 (by have := SP.out.2.1; have := SP.out.2.2.2.2.2.2.1; simp; omega) (by have := SP.out.2.2.1; omega) (by have := SP.out.2.2.2.1; omega) (.func (.func 50) #[] #[])
                    have HR := Lib.hid hrot
                    clear hrot
                    go_wp2_with fail
                    refine HR.out.mono ?_
                    rintro e w1 ⟨rfl, h1⟩
                    have S1 : Hid (SInv w0 blk w1 (p ++ (X1 ++ (Y1 ++ (X2 ++ (Y2 ++ s)))))) := Lib.hid (h1.eq (by simp))
                    clear h1 HR
                    obtain ⟨Z1, hZ1⟩ : ∃ Z1, Z1 = X1 ++ Y1 := ⟨_, rfl⟩
                    have S2 : Hid (SInv w0 blk w1 (p ++ (Z1 ++ (X2 ++ (Y2 ++ s)))) ∧ Z1.Stab (X1 ++ Y1) ∧ SortedK K0 Z1) := Lib.hid ⟨S1.out.eq (by rw [hZ1]; simp), by rw [hZ1]; exact List.Stab.refl _, by rw [hZ1]; exact sorted_nil_left _ SP.out.2.2.2.2.2.2.2.1 SP.out.2.2.2.2.2.2.2.2.1 (.inl (List.length_eq_zero_iff.1 (by have := SP.out.2.1; omega)))⟩
                    clear hZ1
                    obtain ⟨Z2, hZ2⟩ : ∃ Z2, Z2 = X2 ++ Y2 := ⟨_, rfl⟩
                    have S3 : Hid (SInv w0 blk w1 (p ++ ((Z1 ++ Z2) ++ s)) ∧ Z2.Stab (X2 ++ Y2) ∧ SortedK K0 Z2) := Lib.hid ⟨S2.out.1.eq (by rw [hZ2]; simp), by rw [hZ2]; exact List.Stab.refl _, by rw [hZ2]; exact sorted_nil_left _ SP.out.2.2.2.2.2.2.2.2.2.1 SP.out.2.2.2.2.2.2.2.2.2.2 (.inr (List.length_eq_zero_iff.1 (by have := SP.out.2.2.2.2.1; omega)))⟩
                    clear hZ2
                    have hfin := merge_end K0 FF.out.1 FF.out.2.1 FF.out.2.2.1 FF.out.2.2.2.1 S2.out.2.1 S3.out.2.1 S2.out.2.2 S3.out.2.2
                    rw [FF.out.2.2.2.2.1, FF.out.2.2.2.2.2] at hfin
                    have HF := Lib.hid hfin
                    clear hfin
                    go_wp2
                    go_end0
                    exact ⟨rfl, Z1 ++ Z2, S3.out.1, HF.out.2, HF.out.1⟩
                  )
        · by_cases d2 : a < st
          · by_cases d3 : mid + m < b + st
            · first
                | (exfalso; omega)
                | (
                    have q1 : (st : Int) < (m : Int) := by omega
                    have q2 : ¬ (m : Int) < (en : Int) := by omega
                    have q3 : (a : Int) < (st : Int) := by omega
                    have q4 : ¬ (st : Int) < (mid : Int) := by omega
                    have q5 : (mid : Int) < (en : Int) := by omega
                    have q6 : (en : Int) < (b : Int) := by omega
                    have S1 : Hid (SInv w0 blk wr (p ++ (X1 ++ (Y1 ++ (X2 ++ (Y2 ++ s)))))) := Lib.hid (SP.out.1.eq (by have e : Y1 = [] := List.length_eq_zero_iff.1 (by have := SP.out.2.2.2.1; omega); rw [e]; simp))
                    obtain ⟨Z1, hZ1⟩ : ∃ Z1, Z1 = X1 ++ Y1 := ⟨_, rfl⟩
                    have S2 : Hid (SInv w0 blk wr (p ++ (Z1 ++ (X2 ++ (Y2 ++ s)))) ∧ Z1.Stab (X1 ++ Y1) ∧ SortedK K0 Z1) := Lib.hid ⟨S1.out.eq (by rw [hZ1]; simp), by rw [hZ1]; exact List.Stab.refl _, by rw [hZ1]; exact sorted_nil_left _ SP.out.2.2.2.2.2.2.2.1 SP.out.2.2.2.2.2.2.2.2.1 (.inr (List.length_eq_zero_iff.1 (by have := SP.out.2.2.2.1; omega)))⟩
                    clear hZ1
                    have hm2 := IH.out wr (p ++ Z1) X2 Y2 s (by have := SP.out.2.2.1; have := SP.out.2.2.2.2.1; omega) (by intro e; have := SP.out.2.2.1; rw [e] at this; simp at this; omega) (by intro e; have := SP.out.2.2.2.2.1; rw [e] at this; simp at this; omega) (S2.out.1.eq (by simp)) SP.out.2.2.2.2.2.2.2.2.2.1 SP.out.2.2.2.2.2.2.2.2.2.2 n cap mid en b (by have := S2.out.2.1.length_eq; rw [SP.out.2.2.2.2.2.1]; simp at this ⊢; omega) hn2 (by have := S2.out.2.1.length_eq; have := SP.out.2.1; have := SP.out.2.2.2.1; have := SP.out.2.2.2.2.2.2.1; simp at *; omega) (by have := SP.out.2.2.1; omega) (by have := SP.out.2.2.2.2.1; omega)
                    have HM2 := Lib.hid hm2
                    clear hm2
                    go_wp2_with fail
                    refine HM2.out.mono ?_
                    rintro e w3 ⟨rfl, Z2, h3, hp2, hs2⟩
                    have S3 := Lib.hid (And.intro (h3.eq (show _ = p ++ ((Z1 ++ Z2) ++ s) by simp)) (And.intro hp2 hs2))
                    clear h3 hp2 hs2 HM2
                    have hfin := merge_end K0 FF.out.1 FF.out.2.1 FF.out.2.2.1 FF.out.2.2.2.1 S2.out.2.1 S3.out.2.1 S2.out.2.2 S3.out.2.2
                    rw [FF.out.2.2.2.2.1, FF.out.2.2.2.2.2] at hfin
                    have HF := Lib.hid hfin
                    clear hfin
                    go_wp2
                    go_end0
                    exact ⟨rfl, Z1 ++ Z2, S3.out.1, HF.out.2, HF.out.1⟩
                  )
            · first
                | (exfalso; omega)
                | (
                    have q1 : (st : Int) < (m : Int) := by omega
                    have q2 : ¬ (m : Int) < (en : Int) := by omega
                    have q3 : (a : Int) < (st : Int) := by omega
                    have q4 : ¬ (st : Int) < (mid : Int) := by omega
                    have q5 : (mid : Int) < (en : Int) := by omega
                    have q6 : ¬ (en : Int) < (b : Int) := by omega
                    have S1 : Hid (SInv w0 blk wr (p ++ (X1 ++ (Y1 ++ (X2 ++ (Y2 ++ s)))))) := Lib.hid (SP.out.1.eq (by have e : Y1 = [] := List.length_eq_zero_iff.1 (by have := SP.out.2.2.2.1; omega); rw [e]; simp))
                    obtain ⟨Z1, hZ1⟩ : ∃ Z1, Z1 = X1 ++ Y1 := ⟨_, rfl⟩
                    have S2 : Hid (SInv w0 blk wr (p ++ (Z1 ++ (X2 ++ (Y2 ++ s)))) ∧ Z1.Stab (X1 ++ Y1) ∧ SortedK K0 Z1) := Lib.hid ⟨S1.out.eq (by rw [hZ1]; simp), by rw [hZ1]; exact List.Stab.refl _, by rw [hZ1]; exact sorted_nil_left _ SP.out.2.2.2.2.2.2.2.1 SP.out.2.2.2.2.2.2.2.2.1 (.inr (List.length_eq_zero_iff.1 (by have := SP.out.2.2.2.1; omega)))⟩
                    clear hZ1
                    obtain ⟨Z2, hZ2⟩ : ∃ Z2, Z2 = X2 ++ Y2 := ⟨_, rfl⟩
                    have S3 : Hid (SInv w0 blk wr (p ++ ((Z1 ++ Z2) ++ s)) ∧ Z2.Stab (X2 ++ Y2) ∧ SortedK K0 Z2) := Lib.hid ⟨S2.out.1.eq (by rw [hZ2]; simp), by rw [hZ2]; exact List.Stab.refl _, by rw [hZ2]; exact sorted_nil_left _ SP.out.2.2.2.2.2.2.2.2.2.1 SP.out.2.2.2.2.2.2.2.2.2.2 (.inr (List.length_eq_zero_iff.1 (by have := SP.out.2.2.2.2.1; omega)))⟩
                    clear hZ2
                    have hfin := merge_end K0 FF.out.1 FF.out.2.1 FF.out.2.2.1 FF.out.2.2.2.1 S2.out.2.1 S3.out.2.1 S2.out.2.2 S3.out.2.2
                    rw [FF.out.2.2.2.2.1, FF.out.2.2.2.2.2] at hfin
                    have HF := Lib.hid hfin
                    clear hfin
                    go_wp2
                    go_end0
                    exact ⟨rfl, Z1 ++ Z2, S3.out.1, HF.out.2, HF.out.1⟩
                  )
          · by_cases d3 : mid + m < b + st
            · first
                | (exfalso; omega)
                | (
                    have q1 : (st : Int) < (m : Int) := by omega
                    have q2 : ¬ (m : Int) < (en : Int) := by omega
                    have q3 : ¬ (a : Int) < (st : Int) := by omega
                    have q4 : ¬ (st : Int) < (mid : Int) := by omega
                    have q5 : (mid : Int) < (en : Int) := by omega
                    have q6 : (en : Int) < (b : Int) := by omega
                    have S1 : Hid (SInv w0 blk wr (p ++ (X1 ++ (Y1 ++ (X2 ++ (Y2 ++ s)))))) := Lib.hid (SP.out.1.eq (by have e : Y1 = [] := List.length_eq_zero_iff.1 (by have := SP.out.2.2.2.1; omega); rw [e]; simp))
                    obtain ⟨Z1, hZ1⟩ : ∃ Z1, Z1 = X1 ++ Y1 := ⟨_, rfl⟩
                    have S2 : Hid (SInv w0 blk wr (p ++ (Z1 ++ (X2 ++ (Y2 ++ s)))) ∧ Z1.Stab (X1 ++ Y1) ∧ SortedK K0 Z1) := Lib.hid ⟨S1.out.eq (by rw [hZ1]; simp), by rw [hZ1]; exact List.Stab.refl _, by rw [hZ1]; exact sorted_nil_left _ SP.out.2.2.2.2.2.2.2.1 SP.out.2.2.2.2.2.2.2.2.1 (.inl (List.length_eq_zero_iff.1 (by have := SP.out.2.1; omega)))⟩
                    clear hZ1
                    have hm2 := IH.out wr (p ++ Z1) X2 Y2 s (by have := SP.out.2.2.1; have := SP.out.2.2.2.2.1; omega) (by intro e; have := SP.out.2.2.1; rw [e] at this; simp at this; omega) (by intro e; have := SP.out.2.2.2.2.1; rw [e] at this; simp at this; omega) (S2.out.1.eq (by simp)) SP.out.2.2.2.2.2.2.2.2.2.1 SP.out.2.2.2.2.2.2.2.2.2.2 n cap mid en b (by have := S2.out.2.1.length_eq; rw [SP.out.2.2.2.2.2.1]; simp at this ⊢; omega) hn2 (by have := S2.out.2.1.length_eq; have := SP.out.2.1; have := SP.out.2.2.2.1; have := SP.out.2.2.2.2.2.2.1; simp at *; omega) (by have := SP.out.2.2.1; omega) (by have := SP.out.2.2.2.2.1; omega)
                    have HM2 := Lib.hid hm2
                    clear hm2
                    go_wp2_with fail
                    refine HM2.out.mono ?_
                    rintro e w3 ⟨rfl, Z2, h3, hp2, hs2⟩
                    have S3 := Lib.hid (And.intro (h3.eq (show _ = p ++ ((Z1 ++ Z2) ++ s) by simp)) (And.intro hp2 hs2))
                    clear h3 hp2 hs2 HM2
                    have hfin := merge_end K0 FF.out.1 FF.out.2.1 FF.out.2.2.1 FF.out.2.2.2.1 S2.out.2.1 S3.out.2.1 S2.out.2.2 S3.out.2.2
                    rw [FF.out.2.2.2.2.1, FF.out.2.2.2.2.2] at hfin
                    have HF := Lib.hid hfin
                    clear hfin
                    go_wp2
                    go_end0
                    exact ⟨rfl, Z1 ++ Z2, S3.out.1, HF.out.2, HF.out.1⟩
                  )
            · first
                | (exfalso; omega)
                | (
                    have q1 : (st : Int) < (m : Int) := by omega
                    have q2 : ¬ (m : Int) < (en : Int) := by omega
                    have q3 : ¬ (a : Int) < (st : Int) := by omega
                    have q4 : ¬ (st : Int) < (mid : Int) := by omega
                    have q5 : (mid : Int) < (en : Int) := by omega
                    have q6 : ¬ (en : Int) < (b : Int) := by omega
                    have S1 : Hid (SInv w0 blk wr (p ++ (X1 ++ (Y1 ++ (X2 ++ (Y2 ++ s)))))) := Lib.hid (SP.out.1.eq (by have e : Y1 = [] := List.length_eq_zero_iff.1 (by have := SP.out.2.2.2.1; omega); rw [e]; simp))
                    obtain ⟨Z1, hZ1⟩ : ∃ Z1, Z1 = X1 ++ Y1 := ⟨_, rfl⟩
                    have S2 : Hid (SInv w0 blk wr (p ++ (Z1 ++ (X2 ++ (Y2 ++ s)))) ∧ Z1.Stab (X1 ++ Y1) ∧ SortedK K0 Z1) := Lib.hid ⟨S1.out.eq (by rw [hZ1]; simp), by rw [hZ1]; exact List.Stab.refl _, by rw [hZ1]; exact sorted_nil_left _ SP.out.2.2.2.2.2.2.2.1 SP.out.2.2.2.2.2.2.2.2.1 (.inl (List.length_eq_zero_iff.1 (by have := SP.out.2.1; omega)))⟩
                    clear hZ1
                    obtain ⟨Z2, hZ2⟩ : ∃ Z2, Z2 = X2 ++ Y2 := ⟨_, rfl⟩
                    have S3 : Hid (SInv w0 blk wr (p ++ ((Z1 ++ Z2) ++ s)) ∧ Z2.Stab (X2 ++ Y2) ∧ SortedK K0 Z2) := Lib.hid ⟨S2.out.1.eq (by rw [hZ2]; simp), by rw [hZ2]; exact List.Stab.refl _, by rw [hZ2]; exact sorted_nil_left _ SP.out.2.2.2.2.2.2.2.2.2.1 SP.out.2.2.2.2.2.2.2.2.2.2 (.inr (List.length_eq_zero_iff.1 (by have := SP.out.2.2.2.2.1; omega)))⟩
                    clear hZ2
                    have hfin := merge_end K0 FF.out.1 FF.out.2.1 FF.out.2.2.1 FF.out.2.2.2.1 S2.out.2.1 S3.out.2.1 S2.out.2.2 S3.out.2.2
                    rw [FF.out.2.2.2.2.1, FF.out.2.2.2.2.2] at hfin
                    have HF := Lib.hid hfin
                    clear hfin
                    go_wp2
                    go_end0
                    exact ⟨rfl, Z1 ++ Z2, S3.out.1, HF.out.2, HF.out.1⟩
                  )
      · by_cases d1 : st < mid
        · by_cases d2 : a < st
          · by_cases d3 : mid + m < b + st
            · first
                | (exfalso; omega)
                | (
                    have q1 : ¬ (st : Int) < (m : Int) := by omega
                    have q2 : (m : Int) < (en : Int) := by omega
                    have q3 : (a : Int) < (st : Int) := by omega
                    have q4 : (st : Int) < (mid : Int) := by omega
                    have q5 : ¬ (mid : Int) < (en : Int) := by omega
                    have q6 : (en : Int) < (b : Int) := by omega
                    have S1 : Hid (SInv w0 blk wr (p ++ (X1 ++ (Y1 ++ (X2 ++ (Y2 ++ s)))))) := Lib.hid (SP.out.1.eq (by have e : X2 = [] := List.length_eq_zero_iff.1 (by have := SP.out.2.2.1; omega); rw [e]; simp))
                    have hm1 := IH.out wr p X1 Y1 (X2 ++ (Y2 ++ s)) (by have := SP.out.2.1; have := SP.out.2.2.2.1; omega) (by intro e; have := SP.out.2.1; rw [e] at this; simp at this; omega) (by intro e; have := SP.out.2.2.2.1; rw [e] at this; simp at this; omega) S1.out SP.out.2.2.2.2.2.2.2.1 SP.out.2.2.2.2.2.2.2.2.1 n cap a st mid (by rw [SP.out.2.2.2.2.2.1]; simp; omega) hn2 SP.out.2.2.2.2.2.2.1 (by have := SP.out.2.1; omega) (by have := SP.out.2.2.2.1; omega)
                    have HM1 := Lib.hid hm1
                    clear hm1
                    go_wp2_with fail
                    refine HM1.out.mono ?_
                    rintro e w2 ⟨rfl, Z1, h2, hp1, hs1⟩
                    have S2 := Lib.hid (And.intro h2 (And.intro hp1 hs1))
                    clear h2 hp1 hs1 HM1
                    obtain ⟨Z2, hZ2⟩ : ∃ Z2, Z2 = X2 ++ Y2 := ⟨_, rfl⟩
                    have S3 : Hid (SInv w0 blk w2 (p ++ ((Z1 ++ Z2) ++ s)) ∧ Z2.Stab (X2 ++ Y2) ∧ SortedK K0 Z2) := Lib.hid ⟨S2.out.1.eq (by rw [hZ2]; simp), by rw [hZ2]; exact List.Stab.refl _, by rw [hZ2]; exact sorted_nil_left _ SP.out.2.2.2.2.2.2.2.2.2.1 SP.out.2.2.2.2.2.2.2.2.2.2 (.inl (List.length_eq_zero_iff.1 (by have := SP.out.2.2.1; omega)))⟩
                    clear hZ2
                    have hfin := merge_end K0 FF.out.1 FF.out.2.1 FF.out.2.2.1 FF.out.2.2.2.1 S2.out.2.1 S3.out.2.1 S2.out.2.2 S3.out.2.2
                    rw [FF.out.2.2.2.2.1, FF.out.2.2.2.2.2] at hfin
                    have HF := Lib.hid hfin
                    clear hfin
                    go_wp2
                    go_end0
                    exact ⟨rfl, Z1 ++ Z2, S3.out.1, HF.out.2, HF.out.1⟩
                  )
            · first
                | (exfalso; omega)
                | (
                    have q1 : ¬ (st : Int) < (m : Int) := by omega
                    have q2 : (m : Int) < (en : Int) := by omega
                    have q3 : (a : Int) < (st : Int) := by omega
                    have q4 : (st : Int) < (mid : Int) := by omega
                    have q5 : ¬ (mid : Int) < (en : Int) := by omega
                    have q6 : ¬ (en : Int) < (b : Int) := by omega
                    have S1 : Hid (SInv w0 blk wr (p ++ (X1 ++ (Y1 ++ (X2 ++ (Y2 ++ s)))))) := Lib.hid (SP.out.1.eq (by have e : X2 = [] := List.length_eq_zero_iff.1 (by have := SP.out.2.2.1; omega); rw [e]; simp))
                    have hm1 := IH.out wr p X1 Y1 (X2 ++ (Y2 ++ s)) (by have := SP.out.2.1; have := SP.out.2.2.2.1; omega) (by intro e; have := SP.out.2.1; rw [e] at this; simp at this; omega) (by intro e; have := SP.out.2.2.2.1; rw [e] at this; simp at this; omega) S1.out SP.out.2.2.2.2.2.2.2.1 SP.out.2.2.2.2.2.2.2.2.1 n cap a st mid (by rw [SP.out.2.2.2.2.2.1]; simp; omega) hn2 SP.out.2.2.2.2.2.2.1 (by have := SP.out.2.1; omega) (by have := SP.out.2.2.2.1; omega)
                    have HM1 := Lib.hid hm1
                    clear hm1
                    go_wp2_with fail
                    refine HM1.out.mono ?_
                    rintro e w2 ⟨rfl, Z1, h2, hp1, hs1⟩
                    have S2 := Lib.hid (And.intro h2 (And.intro hp1 hs1))
                    clear h2 hp1 hs1 HM1
                    obtain ⟨Z2, hZ2⟩ : ∃ Z2, Z2 = X2 ++ Y2 := ⟨_, rfl⟩
                    have S3 : Hid (SInv w0 blk w2 (p ++ ((Z1 ++ Z2) ++ s)) ∧ Z2.Stab (X2 ++ Y2) ∧ SortedK K0 Z2) := Lib.hid ⟨S2.out.1.eq (by rw [hZ2]; simp), by rw [hZ2]; exact List.Stab.refl _, by rw [hZ2]; exact sorted_nil_left _ SP.out.2.2.2.2.2.2.2.2.2.1 SP.out.2.2.2.2.2.2.2.2.2.2 (.inl (List.length_eq_zero_iff.1 (by have := SP.out.2.2.1; omega)))⟩
                    clear hZ2
                    have hfin := merge_end K0 FF.out.1 FF.out.2.1 FF.out.2.2.1 FF.out.2.2.2.1 S2.out.2.1 S3.out.2.1 S2.out.2.2 S3.out.2.2
                    rw [FF.out.2.2.2.2.1, FF.out.2.2.2.2.2] at hfin
                    have HF := Lib.hid hfin
                    clear hfin
                    go_wp2
                    go_end0
                    exact ⟨rfl, Z1 ++ Z2, S3.out.1, HF.out.2, HF.out.1⟩
                  )
          · by_cases d3 : mid + m < b + st
            · first
                | (exfalso; omega)
                | (
                    have q1 : ¬ (st : Int) < (m : Int) := by omega
                    have q2 : (m : Int) < (en : Int) := by omega
                    have q3 : ¬ (a : Int) < (st : Int) := by omega
                    have q4 : (st : Int) < (mid : Int) := by omega
                    have q5 : ¬ (mid : Int) < (en : Int) := by omega
                    have q6 : (en : Int) < (b : Int) := by omega
                    have S1 : Hid (SInv w0 blk wr (p ++ (X1 ++ (Y1 ++ (X2 ++ (Y2 ++ s)))))) := Lib.hid (SP.out.1.eq (by have e : X2 = [] := List.length_eq_zero_iff.1 (by have := SP.out.2.2.1; omega); rw [e]; simp))
                    obtain ⟨Z1, hZ1⟩ : ∃ Z1, Z1 = X1 ++ Y1 := ⟨_, rfl⟩
                    have S2 : Hid (SInv w0 blk wr (p ++ (Z1 ++ (X2 ++ (Y2 ++ s)))) ∧ Z1.Stab (X1 ++ Y1) ∧ SortedK K0 Z1) := Lib.hid ⟨S1.out.eq (by rw [hZ1]; simp), by rw [hZ1]; exact List.Stab.refl _, by rw [hZ1]; exact sorted_nil_left _ SP.out.2.2.2.2.2.2.2.1 SP.out.2.2.2.2.2.2.2.2.1 (.inl (List.length_eq_zero_iff.1 (by have := SP.out.2.1; omega)))⟩
                    clear hZ1
                    obtain ⟨Z2, hZ2⟩ : ∃ Z2, Z2 = X2 ++ Y2 := ⟨_, rfl⟩
                    have S3 : Hid (SInv w0 blk wr (p ++ ((Z1 ++ Z2) ++ s)) ∧ Z2.Stab (X2 ++ Y2) ∧ SortedK K0 Z2) := Lib.hid ⟨S2.out.1.eq (by rw [hZ2]; simp), by rw [hZ2]; exact List.Stab.refl _, by rw [hZ2]; exact sorted_nil_left _ SP.out.2.2.2.2.2.2.2.2.2.1 SP.out.2.2.2.2.2.2.2.2.2.2 (.inl (List.length_eq_zero_iff.1 (by have := SP.out.2.2.1; omega)))⟩
                    clear hZ2
                    have hfin := merge_end K0 FF.out.1 FF.out.2.1 FF.out.2.2.1 FF.out.2.2.2.1 S2.out.2.1 S3.out.2.1 S2.out.2.2 S3.out.2.2
                    rw [FF.out.2.2.2.2.1, FF.out.2.2.2.2.2] at hfin
                    have HF := Lib.hid hfin
                    clear hfin
                    go_wp2
                    go_end0
                    exact ⟨rfl, Z1 ++ Z2, S3.out.1, HF.out.2, HF.out.1⟩
                  )
            · first
                | (exfalso; omega)
                | (
                    have q1 : ¬ (st : Int) < (m : Int) := by omega
                    have q2 : (m : Int) < (en : Int) := by omega
                    have q3 : ¬ (a : Int) < (st : Int) := by omega
                    have q4 : (st : Int) < (mid : Int) := by omega
                    have q5 : ¬ (mid : Int) < (en : Int) := by omega
                    have q6 : ¬ (en : Int) < (b : Int) := by omega
                    have S1 : Hid (SInv w0 blk wr (p ++ (X1 ++ (Y1 ++ (X2 ++ (Y2 ++ s)))))) := Lib.hid (SP.out.1.eq (by have e : X2 = [] := List.length_eq_zero_iff.1 (by have := SP.out.2.2.1; omega); rw [e]; simp))
                    obtain ⟨Z1, hZ1⟩ : ∃ Z1, Z1 = X1 ++ Y1 := ⟨_, rfl⟩
                    have S2 : Hid (SInv w0 blk wr (p ++ (Z1 ++ (X2 ++ (Y2 ++ s)))) ∧ Z1.Stab (X1 ++ Y1) ∧ SortedK K0 Z1) := Lib.hid ⟨S1.out.eq (by rw [hZ1]; simp), by rw [hZ1]; exact List.Stab.refl _, by rw [hZ1]; exact sorted_nil_left _ SP.out.2.2.2.2.2.2.2.1 SP.out.2.2.2.2.2.2.2.2.1 (.inl (List.length_eq_zero_iff.1 (by have := SP.out.2.1; omega)))⟩
                    clear hZ1
                    obtain ⟨Z2, hZ2⟩ : ∃ Z2, Z2 = X2 ++ Y2 := ⟨_, rfl⟩
                    have S3 : Hid (SInv w0 blk wr (p ++ ((Z1 ++ Z2) ++ s)) ∧ Z2.Stab (X2 ++ Y2) ∧ SortedK K0 Z2) := Lib.hid ⟨S2.out.1.eq (by rw [hZ2]; simp), by rw [hZ2]; exact List.Stab.refl _, by rw [hZ2]; exact sorted_nil_left _ SP.out.2.2.2.2.2.2.2.2.2.1 SP.out.2.2.2.2.2.2.2.2.2.2 (.inl (List.length_eq_zero_iff.1 (by have := SP.out.2.2.1; omega)))⟩
                    clear hZ2
                    have hfin := merge_end K0 FF.out.1 FF.out.2.1 FF.out.2.2.1 FF.out.2.2.2.1 S2.out.2.1 S3.out.2.1 S2.out.2.2 S3.out.2.2
                    rw [FF.out.2.2.2.2.1, FF.out.2.2.2.2.2] at hfin
                    have HF := Lib.hid hfin
                    clear hfin
                    go_wp2
                    go_end0
                    exact ⟨rfl, Z1 ++ Z2, S3.out.1, HF.out.2, HF.out.1⟩
                  )
        · by_cases d2 : a < st
          · by_cases d3 : mid + m < b + st
            · first
                | (exfalso; omega)
                | (
                    have q1 : ¬ (st : Int) < (m : Int) := by omega
                    have q2 : ¬ (m : Int) < (en : Int) := by omega
                    have q3 : (a : Int) < (st : Int) := by omega
                    have q4 : ¬ (st : Int) < (mid : Int) := by omega
                    have q5 : ¬ (mid : Int) < (en : Int) := by omega
                    have q6 : (en : Int) < (b : Int) := by omega
                    have S1 : Hid (SInv w0 blk wr (p ++ (X1 ++ (Y1 ++ (X2 ++ (Y2 ++ s)))))) := Lib.hid (SP.out.1.eq (by have e : X2 = [] := List.length_eq_zero_iff.1 (by have := SP.out.2.2.1; omega); rw [e]; simp))
                    obtain ⟨Z1, hZ1⟩ : ∃ Z1, Z1 = X1 ++ Y1 := ⟨_, rfl⟩
                    have S2 : Hid (SInv w0 blk wr (p ++ (Z1 ++ (X2 ++ (Y2 ++ s)))) ∧ Z1.Stab (X1 ++ Y1) ∧ SortedK K0 Z1) := Lib.hid ⟨S1.out.eq (by rw [hZ1]; simp), by rw [hZ1]; exact List.Stab.refl _, by rw [hZ1]; exact sorted_nil_left _ SP.out.2.2.2.2.2.2.2.1 SP.out.2.2.2.2.2.2.2.2.1 (.inr (List.length_eq_zero_iff.1 (by have := SP.out.2.2.2.1; omega)))⟩
                    clear hZ1
                    obtain ⟨Z2, hZ2⟩ : ∃ Z2, Z2 = X2 ++ Y2 := ⟨_, rfl⟩
                    have S3 : Hid (SInv w0 blk wr (p ++ ((Z1 ++ Z2) ++ s)) ∧ Z2.Stab (X2 ++ Y2) ∧ SortedK K0 Z2) := Lib.hid ⟨S2.out.1.eq (by rw [hZ2]; simp), by rw [hZ2]; exact List.Stab.refl _, by rw [hZ2]; exact sorted_nil_left _ SP.out.2.2.2.2.2.2.2.2.2.1 SP.out.2.2.2.2.2.2.2.2.2.2 (.inl (List.length_eq_zero_iff.1 (by have := SP.out.2.2.1; omega)))⟩
                    clear hZ2
                    have hfin := merge_end K0 FF.out.1 FF.out.2.1 FF.out.2.2.1 FF.out.2.2.2.1 S2.out.2.1 S3.out.2.1 S2.out.2.2 S3.out.2.2
                    rw [FF.out.2.2.2.2.1, FF.out.2.2.2.2.2] at hfin
                    have HF := Lib.hid hfin
                    clear hfin
                    go_wp2
                    go_end0
                    exact ⟨rfl, Z1 ++ Z2, S3.out.1, HF.out.2, HF.out.1⟩
                  )
            · first
                | (exfalso; omega)
                | (
                    have q1 : ¬ (st : Int) < (m : Int) := by omega
                    have q2 : ¬ (m : Int) < (en : Int) := by omega
                    have q3 : (a : Int) < (st : Int) := by omega
                    have q4 : ¬ (st : Int) < (mid : Int) := by omega
                    have q5 : ¬ (mid : Int) < (en : Int) := by omega
                    have q6 : ¬ (en : Int) < (b : Int) := by omega
                    have S1 : Hid (SInv w0 blk wr (p ++ (X1 ++ (Y1 ++ (X2 ++ (Y2 ++ s)))))) := Lib.hid (SP.out.1.eq (by have e : X2 = [] := List.length_eq_zero_iff.1 (by have := SP.out.2.2.1; omega); rw [e]; simp))
                    obtain ⟨Z1, hZ1⟩ : ∃ Z1, Z1 = X1 ++ Y1 := ⟨_, rfl⟩
                    have S2 : Hid (SInv w0 blk wr (p ++ (Z1 ++ (X2 ++ (Y2 ++ s)))) ∧ Z1.Stab (X1 ++ Y1) ∧ SortedK K0 Z1) := Lib.hid ⟨S1.out.eq (by rw [hZ1]; simp), by rw [hZ1]; exact List.Stab.refl _, by rw [hZ1]; exact sorted_nil_left _ SP.out.2.2.2.2.2.2.2.1 SP.out.2.2.2.2.2.2.2.2.1 (.inr (List.length_eq_zero_iff.1 (by have := SP.out.2.2.2.1; omega)))⟩
                    clear hZ1
                    obtain ⟨Z2, hZ2⟩ : ∃ Z2, Z2 = X2 ++ Y2 := ⟨_, rfl⟩
                    have S3 : Hid (SInv w0 blk wr (p ++ ((Z1 ++ Z2) ++ s)) ∧ Z2.Stab (X2 ++ Y2) ∧ SortedK K0 Z2) := Lib.hid ⟨S2.out.1.eq (by rw [hZ2]; simp), by rw [hZ2]; exact List.Stab.refl _, by rw [hZ2]; exact sorted_nil_left _ SP.out.2.2.2.2.2.2.2.2.2.1 SP.out.2.2.2.2.2.2.2.2.2.2 (.inl (List.length_eq_zero_iff.1 (by have := SP.out.2.2.1; omega)))⟩
                    clear hZ2
                    have hfin := merge_end K0 FF.out.1 FF.out.2.1 FF.out.2.2.1 FF.out.2.2.2.1 S2.out.2.1 S3.out.2.1 S2.out.2.2 S3.out.2.2
                    rw [FF.out.2.2.2.2.1, FF.out.2.2.2.2.2] at hfin
                    have HF := Lib.hid hfin
                    clear hfin
                    go_wp2
                    go_end0
                    exact ⟨rfl, Z1 ++ Z2, S3.out.1, HF.out.2, HF.out.1⟩
                  )
          · by_cases d3 : mid + m < b + st
            · first
                | (exfalso; omega)
                | (
                    have q1 : ¬ (st : Int) < (m : Int) := by omega
                    have q2 : ¬ (m : Int) < (en : Int) := by omega
                    have q3 : ¬ (a : Int) < (st : Int) := by omega
                    have q4 : ¬ (st : Int) < (mid : Int) := by omega
                    have q5 : ¬ (mid : Int) < (en : Int) := by omega
                    have q6 : (en : Int) < (b : Int) := by omega
                    have S1 : Hid (SInv w0 blk wr (p ++ (X1 ++ (Y1 ++ (X2 ++ (Y2 ++ s)))))) := Lib.hid (SP.out.1.eq (by have e : X2 = [] := List.length_eq_zero_iff.1 (by have := SP.out.2.2.1; omega); rw [e]; simp))
                    obtain ⟨Z1, hZ1⟩ : ∃ Z1, Z1 = X1 ++ Y1 := ⟨_, rfl⟩
                    have S2 : Hid (SInv w0 blk wr (p ++ (Z1 ++ (X2 ++ (Y2 ++ s)))) ∧ Z1.Stab (X1 ++ Y1) ∧ SortedK K0 Z1) := Lib.hid ⟨S1.out.eq (by rw [hZ1]; simp), by rw [hZ1]; exact List.Stab.refl _, by rw [hZ1]; exact sorted_nil_left _ SP.out.2.2.2.2.2.2.2.1 SP.out.2.2.2.2.2.2.2.2.1 (.inl (List.length_eq_zero_iff.1 (by have := SP.out.2.1; omega)))⟩
                    clear hZ1
                    obtain ⟨Z2, hZ2⟩ : ∃ Z2, Z2 = X2 ++ Y2 := ⟨_, rfl⟩
                    have S3 : Hid (SInv w0 blk wr (p ++ ((Z1 ++ Z2) ++ s)) ∧ Z2.Stab (X2 ++ Y2) ∧ SortedK K0 Z2) := Lib.hid ⟨S2.out.1.eq (by rw [hZ2]; simp), by rw [hZ2]; exact List.Stab.refl _, by rw [hZ2]; exact sorted_nil_left _ SP.out.2.2.2.2.2.2.2.2.2.1 SP.out.2.2.2.2.2.2.2.2.2.2 (.inl (List.length_eq_zero_iff.1 (by have := SP.out.2.2.1; omega)))⟩
                    clear hZ2
                    have hfin := merge_end K0 FF.out.1 FF.out.2.1 FF.out.2.2.1 FF.out.2.2.2.1 S2.out.2.1 S3.out.2.1 S2.out.2.2 S3.out.2.2
                    rw [FF.out.2.2.2.2.1, FF.out.2.2.2.2.2] at hfin
                    have HF := Lib.hid hfin
                    clear hfin
                    go_wp2
                    go_end0
                    exact ⟨rfl, Z1 ++ Z2, S3.out.1, HF.out.2, HF.out.1⟩
                  )
            · first
                | (exfalso; omega)
                | (
                    have q1 : ¬ (st : Int) < (m : Int) := by omega
                    have q2 : ¬ (m : Int) < (en : Int) := by omega
                    have q3 : ¬ (a : Int) < (st : Int) := by omega
                    have q4 : ¬ (st : Int) < (mid : Int) := by omega
                    have q5 : ¬ (mid : Int) < (en : Int) := by omega
                    have q6 : ¬ (en : Int) < (b : Int) := by omega
                    have S1 : Hid (SInv w0 blk wr (p ++ (X1 ++ (Y1 ++ (X2 ++ (Y2 ++ s)))))) := Lib.hid (SP.out.1.eq (by have e : X2 = [] := List.length_eq_zero_iff.1 (by have := SP.out.2.2.1; omega); rw [e]; simp))
                    obtain ⟨Z1, hZ1⟩ : ∃ Z1, Z1 = X1 ++ Y1 := ⟨_, rfl⟩
                    have S2 : Hid (SInv w0 blk wr (p ++ (Z1 ++ (X2 ++ (Y2 ++ s)))) ∧ Z1.Stab (X1 ++ Y1) ∧ SortedK K0 Z1) := Lib.hid ⟨S1.out.eq (by rw [hZ1]; simp), by rw [hZ1]; exact List.Stab.refl _, by rw [hZ1]; exact sorted_nil_left _ SP.out.2.2.2.2.2.2.2.1 SP.out.2.2.2.2.2.2.2.2.1 (.inl (List.length_eq_zero_iff.1 (by have := SP.out.2.1; omega)))⟩
                    clear hZ1
                    obtain ⟨Z2, hZ2⟩ : ∃ Z2, Z2 = X2 ++ Y2 := ⟨_, rfl⟩
                    have S3 : Hid (SInv w0 blk wr (p ++ ((Z1 ++ Z2) ++ s)) ∧ Z2.Stab (X2 ++ Y2) ∧ SortedK K0 Z2) := Lib.hid ⟨S2.out.1.eq (by rw [hZ2]; simp), by rw [hZ2]; exact List.Stab.refl _, by rw [hZ2]; exact sorted_nil_left _ SP.out.2.2.2.2.2.2.2.2.2.1 SP.out.2.2.2.2.2.2.2.2.2.2 (.inl (List.length_eq_zero_iff.1 (by have := SP.out.2.2.1; omega)))⟩
                    clear hZ2
                    have hfin := merge_end K0 FF.out.1 FF.out.2.1 FF.out.2.2.1 FF.out.2.2.2.1 S2.out.2.1 S3.out.2.1 S2.out.2.2 S3.out.2.2
                    rw [FF.out.2.2.2.2.1, FF.out.2.2.2.2.2] at hfin
                    have HF := Lib.hid hfin
                    clear hfin
                    go_wp2
                    go_end0
                    exact ⟨rfl, Z1 ++ Z2, S3.out.1, HF.out.2, HF.out.1⟩
                  )

set_option maxRecDepth 100000 in
set_option maxHeartbeats 4000000 in
theorem sMerge3b {w0 w : World} {blk : Nat} {p u v s : List Fld} (IH : Hid (MergeAt w0 blk (u.length + v.length))) (h : SInv w0 blk w (p ++ (u ++ (v ++ s)))) (hE : Env w0) (hu : SortedK K0 u) (hv : SortedK K0 v)
    (n cap a m b mid : Nat) (hn : n = (p ++ (u ++ (v ++ s))).length) (hn2 : n ≤ 1000) (hu2 : 2 ≤ u.length) (hv2 : 2 ≤ v.length) (ha : a = p.length) (hm : m = a + u.length) (hb : b = m + v.length) (hmid2 : mid = (a + b) / 2) (hmm : m ≤ mid) :
    Calls Tryz.prog 107 #[.slice (some ⟨blk, 0, none⟩) n cap, .int .i64 a, .int .i64 m, .int .i64 b, .func (.func 50) #[] #[]] w fun e' w' =>
      e' = .returned (.tuple #[]) ∧ ∃ x', SInv w0 blk w' (p ++ (x' ++ s)) ∧ x'.Stab (u ++ v) ∧ SortedK K0 x' := by
  have hlen : n = a + u.length + v.length + s.length := by rw [hn]; simp; omega
  have hbn : a + 2 ≤ m ∧ m + 2 ≤ b ∧ b ≤ n := by omega
  have hmb : 2 * mid ≤ a + b ∧ a + b ≤ 2 * mid + 1 := by omega
  have hmid : ((a : Int) + (b : Int)) / 2 = (mid : Int) := by omega
  obtain ⟨NN, hNN⟩ : ∃ NN : Nat, (mid : Int) + (m : Int) = (NN : Int) := ⟨mid + m, by omega⟩
  have hNb : NN ≤ mid + m ∧ mid + m ≤ NN := by omega
  obtain ⟨PP, hPP⟩ : ∃ PP : Nat, (NN : Int) - 1 = (PP : Int) := ⟨NN - 1, by omega⟩
  have hPb : PP + 1 ≤ NN ∧ NN ≤ PP + 1 := by omega
  have HI := Lib.hid h
  have HE := Lib.hid hE
  have HV := Lib.hid (And.intro hu hv)
  have HL := Lib.hid (And.intro hn (And.intro ha (And.intro hm hb)))
  have HT : Hid (∀ T, T = u.length + v.length → b = a + T) := Lib.hid fun T hT => by omega
  have hma : ((m : Int) - (a : Int) == 1) = false := by rw [beq_eq_false_iff_ne]; omega
  have hbm : ((b : Int) - (m : Int) == 1) = false := by rw [beq_eq_false_iff_ne]; omega
  have hgt : ¬ (mid : Int) < (m : Int) := by omega
  clear h hE hu hv hn ha hb hlen hm hmid2 hu2 hv2
  go_enter Tryz.func107, Tryz.ntmps107
  go_wp2
  go_loopw [20, 21] (fun vi vj wr => ∃ i j : Nat, vi = .int .i64 i ∧ vj = .int .i64 j ∧ a ≤ i ∧ i ≤ j ∧ j ≤ m ∧ Hid (SInv w0 blk wr (p ++ (u ++ (v ++ s)))) ∧ Hid (CutM K0 u v a mid a m i j)) (fun vi vj _ => (intOf vj).toNat - (intOf vi).toNat)
  case atStart => exact ⟨a, m, by go_num, by go_num, by omega, by omega, by omega, HI, Lib.hid fun c x y _ _ _ => ⟨fun h1 h2 => by omega, fun h1 h2 => by omega⟩⟩
  case round =>
    obtain ⟨i, j, rfl, rfl, hmi, hij, hjb, HK, HC1⟩ := hrel
    by_cases hlt : i < j
    · have hltz : (i : Int) < (j : Int) := by omega
      go_wp2_with fail
      obtain ⟨h, hh⟩ : ∃ h : Nat, ((i : Int) + (j : Int)) / 2 = (h : Int) := ⟨(i + j) / 2, by omega⟩
      have hih : i ≤ h ∧ h < j := by omega
      rw [hh]
      clear hh
      obtain ⟨q, hq⟩ : ∃ q : Nat, q = PP - h := ⟨_, rfl⟩
      have hq2 : q + h ≤ PP ∧ PP ≤ q + h := by omega
      have hwq : IntKind.i64.wrap ((PP : Int) - (h : Int)) = (q : Int) := by rw [IntKind.wrap_i64]; omega
      obtain ⟨x, hx⟩ : ∃ x, u[h - a]? = some x := ⟨_, List.getElem?_eq_getElem (by obtain ⟨hn, ha, hm, hb⟩ := HL.out; omega)⟩
      obtain ⟨y, hy⟩ : ∃ y, v[mid - 1 - h]? = some y := ⟨_, List.getElem?_eq_getElem (by obtain ⟨hn, ha, hm, hb⟩ := HL.out; omega)⟩
      have gx := HK.out.good x (List.mem_append.2 (.inr (List.mem_append.2 (.inl (List.mem_of_getElem? hx)))))
      have gy := HK.out.good y (List.mem_append.2 (.inr (List.mem_append.2 (.inr (List.mem_append.2 (.inl (List.mem_of_getElem? hy)))))))
      have lx : (p ++ (u ++ (v ++ s)))[h]? = some x := by
        obtain ⟨hn, ha, hm, hb⟩ := HL.out
        rw [List.getElem?_append_right (by omega), show h - p.length = h - a by omega, List.getElem?_append_left (List.getElem?_eq_some_iff.1 hx).1]; exact hx
      have ly : (p ++ (u ++ (v ++ s)))[q]? = some y := by
        obtain ⟨hn, ha, hm, hb⟩ := HL.out
        rw [List.getElem?_append_right (by omega), List.getElem?_append_right (by omega), show q - p.length - u.length = mid - 1 - h by omega, List.getElem?_append_left (List.getElem?_eq_some_iff.1 hy).1]; exact hy
      have hn1 : (h : Int) < (n : Int) := by omega
      have hn3 : (q : Int) < (n : Int) := by omega
      obtain ⟨C, hC⟩ : ∃ C : World → Prop, C = fun w' => SInv w0 blk w' (p ++ (u ++ (v ++ s))) := ⟨_, rfl⟩
      have hcells : ∀ w', C w' → w'.cell? ⟨blk, h * 4, none⟩ = some (.string (lb x.tag)) ∧ w'.cell? ⟨blk, h * 4 + 1, none⟩ = some (.string (lb x.ind)) ∧ w'.cell? ⟨blk, h * 4 + 2, none⟩ = some (.slice x.sa x.subs.length x.sc) ∧ w'.cell? ⟨blk, h * 4 + 3, none⟩ = some (.int .i64 x.auth) ∧ w'.cell? ⟨blk, q * 4, none⟩ = some (.string (lb y.tag)) ∧ w'.cell? ⟨blk, q * 4 + 1, none⟩ = some (.string (lb y.ind)) ∧ w'.cell? ⟨blk, q * 4 + 2, none⟩ = some (.slice y.sa y.subs.length y.sc) ∧ w'.cell? ⟨blk, q * 4 + 3, none⟩ = some (.int .i64 y.auth) := by
        intro w' hw'
        rw [hC] at hw'
        obtain ⟨a0, a1, a2, a3⟩ := hw'.hold h x lx
        obtain ⟨b0, b1, b2, b3⟩ := hw'.hold q y ly
        exact ⟨a0, a1, a2, a3, b0, b1, b2, b3⟩
      have hcall : ∀ w', C w' → Calls Tryz.prog 50 #[.agg #[.string (lb y.tag), .string (lb y.ind), .slice y.sa y.subs.length y.sc, .int .i64 y.auth], .agg #[.string (lb x.tag), .string (lb x.ind), .slice x.sa x.subs.length x.sc, .int .i64 x.auth]] w' fun e' w'' => e' = .returned (.int .i64 (kcmp K0 y x)) ∧ Below w'.heap.size w' w'' := by
        intro w' hw'
        rw [hC] at hw'
        exact sCmp hw' HE.out y x gy gx
      have hstep : ∀ w' w'', C w' → Below w'.heap.size w' w'' → C w'' := by
        intro w' w'' hw' hb
        rw [hC] at hw' ⊢
        exact hw'.step hb
      have hC0 : C { wr with drawn := wr.drawn + 1 } := by rw [hC]; exact HK.out.drew
      have HC := Lib.hid hC
      obtain ⟨kc, hkc⟩ : ∃ kc, kc = kcmp K0 y x := ⟨_, rfl⟩
      rw [← hkc] at hcall
      have HKC := Lib.hid (And.intro hkc (And.intro hx hy))
      clear hkc hx hy lx ly hC HK gx gy hq
      by_cases hlv : kc < 0
      · refine wp_region_quiet (C := C) (by kernel_rfl) (by kernel_rfl) hC0 ?_
        show wpQuiet _ _ _ _ [_, _, _, _, _, _, _, _, _, _, _, _, _, _] _
        repeat
          refine wpQuiet_step (fun K hK => ?_)
          go_simp
          first
            | (refine hK _ ?_; clear hK K)
            | (apply Exists.intro
               refine ⟨fun w' hw' => ?_, hK _ ?_⟩
               · first
                 | with_reducible rfl
                 | (obtain ⟨q0, q1, q2, q3, q4, q5, q6, q7⟩ := hcells w' hw'; go_simp; with_reducible rfl)
                 | ((first
                     | with_reducible refine (hcall w' hw').mono ?_)
                    exact fun e w'' ⟨he, hb⟩ => ⟨he, hstep w' w'' hw' hb⟩)
               clear hK K)
        refine wpQuiet_nil ?_
        intro w2 hw2
        have HO : Hid (CutM K0 u v a mid a m i h) := Lib.hid (HC1.out.down _ HV.out.1 HV.out.2 (by omega) HKC.out.2.1 HKC.out.2.2 (by rw [← HKC.out.1]; omega))
        have HS : Hid (SInv w0 blk w2 (p ++ (u ++ (v ++ s)))) := Lib.hid (by have := hw2; rw [HC.out] at this; exact this)
        clear hcells hcall hstep hC0 hw2
        go_wp2
        go_roundw
        case rel => exact ⟨i, h, rfl, rfl, hmi, by omega, by omega, HS, HO⟩
        case measure => simp [intOf]; omega
      · refine wp_region_quiet (C := C) (by kernel_rfl) (by kernel_rfl) hC0 ?_
        show wpQuiet _ _ _ _ [_, _, _, _, _, _, _, _, _, _, _, _, _, _] _
        repeat
          refine wpQuiet_step (fun K hK => ?_)
          go_simp
          first
            | (refine hK _ ?_; clear hK K)
            | (apply Exists.intro
               refine ⟨fun w' hw' => ?_, hK _ ?_⟩
               · first
                 | with_reducible rfl
                 | (obtain ⟨q0, q1, q2, q3, q4, q5, q6, q7⟩ := hcells w' hw'; go_simp; with_reducible rfl)
                 | ((first
                     | with_reducible refine (hcall w' hw').mono ?_)
                    exact fun e w'' ⟨he, hb⟩ => ⟨he, hstep w' w'' hw' hb⟩)
               clear hK K)
        refine wpQuiet_nil ?_
        intro w2 hw2
        have HO : Hid (CutM K0 u v a mid a m (h + 1) j) := Lib.hid (HC1.out.up _ HV.out.1 HV.out.2 (by omega) HKC.out.2.1 HKC.out.2.2 (by rw [← HKC.out.1]; omega))
        have HS : Hid (SInv w0 blk w2 (p ++ (u ++ (v ++ s)))) := Lib.hid (by have := hw2; rw [HC.out] at this; exact this)
        clear hcells hcall hstep hC0 hw2
        go_wp2
        go_roundw
        case rel => exact ⟨h + 1, j, by go_num, rfl, by omega, by omega, hjb, HS, HO⟩
        case measure => simp [intOf]; omega
    · have hltz : ¬ (i : Int) < (j : Int) := by omega
      obtain ⟨st, rfl⟩ : ∃ st, st = i := ⟨_, rfl⟩
      obtain rfl : st = j := by omega
      obtain ⟨en, hen⟩ : ∃ en : Nat, (NN : Int) - (st : Int) = (en : Int) := ⟨NN - st, by omega⟩
      have hen2 : en + st ≤ NN ∧ NN ≤ en + st := by omega
      have hff := HC1.out.found K0 HV.out.1 HV.out.2 HL.out.2.2.1 HL.out.2.2.2 (by omega) (by omega) (by omega) (by omega) (by omega) (by omega) (by omega) (by omega)
      obtain ⟨X1, hX1⟩ : ∃ X1, X1 = u.take (st - a) := ⟨_, rfl⟩
      obtain ⟨X2, hX2⟩ : ∃ X2, X2 = u.drop (st - a) := ⟨_, rfl⟩
      obtain ⟨Y1, hY1⟩ : ∃ Y1, Y1 = v.take (mid - st) := ⟨_, rfl⟩
      obtain ⟨Y2, hY2⟩ : ∃ Y2, Y2 = v.drop (mid - st) := ⟨_, rfl⟩
      have eu : X1 ++ X2 = u := by rw [hX1, hX2, List.take_append_drop]
      have ev : Y1 ++ Y2 = v := by rw [hY1, hY2, List.take_append_drop]
      have FF : Hid (SortedK K0 (X1 ++ X2) ∧ SortedK K0 (Y1 ++ Y2) ∧ (∀ x ∈ X1, ∀ y ∈ Y2, kle K0 x y) ∧ (∀ y ∈ Y1, ∀ x ∈ X2, kcmp K0 y x < 0) ∧ X1 ++ X2 = u ∧ Y1 ++ Y2 = v) :=
        Lib.hid ⟨by rw [eu]; exact HV.out.1, by rw [ev]; exact HV.out.2, by rw [hX1, hY2]; exact hff.1, by rw [hY1, hX2]; exact hff.2, eu, ev⟩
      have SP : Hid (SInv w0 blk wr (p ++ (X1 ++ (X2 ++ (Y1 ++ (Y2 ++ s))))) ∧ X1.length + a = st ∧ X2.length + st = m ∧ Y1.length + st = mid ∧ Y2.length + mid + m = b + st ∧ n = (p ++ (X1 ++ (X2 ++ (Y1 ++ (Y2 ++ s))))).length ∧ a = p.length ∧ SortedK K0 X1 ∧ SortedK K0 Y1 ∧ SortedK K0 X2 ∧ SortedK K0 Y2) := by
        obtain ⟨hn, ha, hm, hb⟩ := HL.out
        have e1 : p ++ (u ++ (v ++ s)) = p ++ (X1 ++ (X2 ++ (Y1 ++ (Y2 ++ s)))) := by rw [← eu, ← ev]; simp
        refine Lib.hid ⟨HK.out.eq e1, by rw [hX1]; simp; omega, by rw [hX2]; simp; omega, by rw [hY1]; simp; omega, by rw [hY2]; simp; omega, by rw [hn, e1], ha, ?_, ?_, ?_, ?_⟩
        · rw [hX1]; exact (sorted_take _ HV.out.1 _).1
        · rw [hY1]; exact (sorted_take _ HV.out.2 _).1
        · rw [hX2]; exact (sorted_take _ HV.out.1 _).2
        · rw [hY2]; exact (sorted_take _ HV.out.2 _).2
      have IH2 : Hid (MergeAt w0 blk (b - a)) := Lib.hid (by have h1 := IH.out; rw [show u.length + v.length = b - a by have := HT.out _ rfl; omega] at h1; exact h1)
      clear hff hX1 hX2 hY1 hY2 eu ev HK HC1 IH
      obtain ⟨IH, -⟩ : ∃ _ : Hid (MergeAt w0 blk (b - a)), True := ⟨IH2, trivial⟩
      clear IH2
      by_cases d0 : st < m
      · by_cases d1 : st < mid
        · by_cases d2 : a < st
          · by_cases d3 : mid + m < b + st
            · first
                | (exfalso; omega)
                | (
                    have q1 : (st : Int) < (m : Int) := by omega
                    have q2 : (m : Int) < (en : Int) := by omega
                    have q3 : (a : Int) < (st : Int) := by omega
                    have q4 : (st : Int) < (mid : Int) := by omega
                    have q5 : (mid : Int) < (en : Int) := by omega
                    have q6 : (en : Int) < (b : Int) := by omega
                    have hrot := sRotate (p := p ++ X1) (u := X2) (v := Y1) (s := Y2 ++ s) (SP.out.1.eq (by simp)) (by intro e; have := SP.out.2.2.1; rw [e] at this; simp at this; omega) (by intro e; have := SP.out.2.2.2.1; rw [e] at this; simp at this; omega) n cap st m en (by rw [SP.out.2.2.2.2.2.1]; simp) hn2 (by have := SP.out.2.1; have := SP.out.2.2.2.2.2.2.1; simp; omega) (by have := SP.out.2.2.1; omega) (by have := SP.out.2.2.2.1; omega) (.func (.func 50) #[] #[])
                    have HR := Lib.hid hrot
                    clear hrot
                    go_wp2_with fail
                    refine HR.out.mono ?_
                    rintro e w1 ⟨rfl, h1⟩
                    have S1 : Hid (SInv w0 blk w1 (p ++ (X1 ++ (Y1 ++ (X2 ++ (Y2 ++ s)))))) := Lib.hid (h1.eq (by simp))
                    clear h1 HR
                    have hm1 := IH.out w1 p X1 Y1 (X2 ++ (Y2 ++ s)) (by have := SP.out.2.1; have := SP.out.2.2.2.1; omega) (by intro e; have := SP.out.2.1; rw [e] at this; simp at this; omega) (by intro e; have := SP.out.2.2.2.1; rw [e] at this; simp at this; omega) S1.out SP.out.2.2.2.2.2.2.2.1 SP.out.2.2.2.2.2.2.2.2.1 n cap a st mid (by rw [SP.out.2.2.2.2.2.1]; simp; omega) hn2 SP.out.2.2.2.2.2.2.1 (by have := SP.out.2.1; omega) (by have := SP.out.2.2.2.1; omega)
                    have HM1 := Lib.hid hm1
                    clear hm1
                    go_wp2_with fail
                    refine HM1.out.mono ?_
                    rintro e w2 ⟨rfl, Z1, h2, hp1, hs1⟩
                    have S2 := Lib.hid (And.intro h2 (And.intro hp1 hs1))
                    clear h2 hp1 hs1 HM1
                    have hm2 := IH.out w2 (p ++ Z1) X2 Y2 s (by have := SP.out.2.2.1; have := SP.out.2.2.2.2.1; omega) (by intro e; have := SP.out.2.2.1; rw [e] at this; simp at this; omega) (by intro e; have := SP.out.2.2.2.2.1; rw [e] at this; simp at this; omega) (S2.out.1.eq (by simp)) SP.out.2.2.2.2.2.2.2.2.2.1 SP.out.2.2.2.2.2.2.2.2.2.2 n cap mid en b (by have := S2.out.2.1.length_eq; rw [SP.out.2.2.2.2.2.1]; simp at this ⊢; omega) hn2 (by have := S2.out.2.1.length_eq; have := SP.out.2.1; have := SP.out.2.2.2.1; have := SP.out.2.2.2.2.2.2.1; simp at *; omega) (by have := SP.out.2.2.1; omega) (by have := SP.out.2.2.2.2.1; omega)
                    have HM2 := Lib.hid hm2
                    clear hm2
                    go_wp2_with fail
                    refine HM2.out.mono ?_
                    rintro e w3 ⟨rfl, Z2, h3, hp2, hs2⟩
                    have S3 := Lib.hid (And.intro (h3.eq (show _ = p ++ ((Z1 ++ Z2) ++ s) by simp)) (And.intro hp2 hs2))
                    clear h3 hp2 hs2 HM2
                    have hfin := merge_end K0 FF.out.1 FF.out.2.1 FF.out.2.2.1 FF.out.2.2.2.1 S2.out.2.1 S3.out.2.1 S2.out.2.2 S3.out.2.2
                    rw [FF.out.2.2.2.2.1, FF.out.2.2.2.2.2] at hfin
                    have HF := Lib.hid hfin
                    clear hfin
                    go_wp2
                    go_end0
                    exact ⟨rfl, Z1 ++ Z2, S3.out.1, HF.out.2, HF.out.1⟩
                  )
            · first
                | (exfalso; omega)
                | (
                    have q1 : (st : Int) < (m : Int) := by omega
                    have q2 : (m : Int) < (en : Int) := by omega
                    have q3 : (a : Int) < (st : Int) := by omega
                    have q4 : (st : Int) < (mid : Int) := by omega
                    have q5 : (mid : Int) < (en : Int) := by omega
                    have q6 : ¬ (en : Int) < (b : Int) := by omega
                    have hrot := sRotate (p := p ++ X1) (u := X2) (v := Y1) (s := Y2 ++ s) (SP.out.1.eq (by simp)) (by intro e; have := SP.out.2.2.1; rw [e] at this; simp at this; omega) (by intro e; have := SP.out.2.2.2.1; rw [e] at this; simp at this; omega) n cap st m en (by rw [SP.out.2.2.2.2.2.1]; simp) hn2 (by have := SP.out.2.1; have := SP.out.2.2.2.2.2.2.1; simp; omega) (by have := SP.out.2.2.1; omega) (by have := SP.out.2.2.2.1; omega) (.func (.func 50) #[] #[])
                    have HR := Lib.hid hrot
                    clear hrot
                    go_wp2_with fail
                    refine HR.out.mono ?_
                    rintro e w1 ⟨rfl, h1⟩
                    have S1 : Hid (SInv w0 blk w1 (p ++ (X1 ++ (Y1 ++ (X2 ++ (Y2 ++ s)))))) := Lib.hid (h1.eq (by simp))
                    clear h1 HR
                    have hm1 := IH.out w1 p X1 Y1 (X2 ++ (Y2 ++ s)) (by have := SP.out.2.1; have := SP.out.2.2.2.1; omega) (by intro e; have := SP.out.2.1; rw [e] at this; simp at this; omega) (by intro e; have := SP.out.2.2.2.1; rw [e] at this; simp at this; omega) S1.out SP.out.2.2.2.2.2.2.2.1 SP.out.2.2.2.2.2.2.2.2.1 n cap a st mid (by rw [SP.out.2.2.2.2.2.1]; simp; omega) hn2 SP.out.2.2.2.2.2.2.1 (by have := SP.out.2.1; omega) (by have := SP.out.2.2.2.1; omega)
                    have HM1 := Lib.hid hm1
                    clear hm1
                    go_wp2_with fail
                    refine HM1.out.mono ?_
                    rintro e w2 ⟨rfl, Z1, h2, hp1, hs1⟩
                    have S2 := Lib.hid (And.intro h2 (And.intro hp1 hs1))
                    clear h2 hp1 hs1 HM1
                    obtain ⟨Z2, hZ2⟩ : ∃ Z2, Z2 = X2 ++ Y2 := ⟨_, rfl⟩
                    have S3 : Hid (SInv w0 blk w2 (p ++ ((Z1 ++ Z2) ++ s)) ∧ Z2.Stab (X2 ++ Y2) ∧ SortedK K0 Z2) := Lib.hid ⟨S2.out.1.eq (by rw [hZ2]; simp), by rw [hZ2]; exact List.Stab.refl _, by rw [hZ2]; exact sorted_nil_left _ SP.out.2.2.2.2.2.2.2.2.2.1 SP.out.2.2.2.2.2.2.2.2.2.2 (.inr (List.length_eq_zero_iff.1 (by have := SP.out.2.2.2.2.1; omega)))⟩
                    clear hZ2
                    have hfin := merge_end K0 FF.out.1 FF.out.2.1 FF.out.2.2.1 FF.out.2.2.2.1 S2.out.2.1 S3.out.2.1 S2.out.2.2 S3.out.2.2
                    rw [FF.out.2.2.2.2.1, FF.out.2.2.2.2.2] at hfin
                    have HF := Lib.hid hfin
                    clear hfin
                    go_wp2
                    go_end0
                    exact ⟨rfl, Z1 ++ Z2, S3.out.1, HF.out.2, HF.out.1⟩
                  )
          · by_cases d3 : mid + m < b + st
            · first
                | (exfalso; omega)
                | (
                    have q1 : (st : Int) < (m : Int) := by omega
                    have q2 : (m : Int) < (en : Int) := by omega
                    have q3 : ¬ (a : Int) < (st : Int) := by omega
                    have q4 : (st : Int) < (mid : Int) := by omega
                    have q5 : (mid : Int) < (en : Int) := by omega
                    have q6 : (en : Int) < (b : Int) := by omega
                    have hrot := sRotate (p := p ++ X1) (u := X2) (v := Y1) (s := Y2 ++ s) (SP.out.1.eq (by simp)) (by intro e; have := SP.out.2.2.1; rw [e] at this; simp at this; omega) (by intro e; have := SP.out.2.2.2.1; rw [e] at this; simp at this; omega) n cap st m en (by rw [SP.out.2.2.2.2.2.1]; simp) hn2 (by have := SP.out.2.1; have := SP.out.2.2.2.2.2.2.1; simp; omega) (by have := SP.out.2.2.1; omega) (by have := SP.out.2.2.2.1; omega) (.func (.func 50) #[] #[])
                    have HR := Lib.hid hrot
                    clear hrot
                    go_wp2_with fail
                    refine HR.out.mono ?_
                    rintro e w1 ⟨rfl, h1⟩
                    have S1 : Hid (SInv w0 blk w1 (p ++ (X1 ++ (Y1 ++ (X2 ++ (Y2 ++ s)))))) := Lib.hid (h1.eq (by simp))
                    clear h1 HR
                    obtain ⟨Z1, hZ1⟩ : ∃ Z1, Z1 = X1 ++ Y1 := ⟨_, rfl⟩
                    have S2 : Hid (SInv w0 blk w1 (p ++ (Z1 ++ (X2 ++ (Y2 ++ s)))) ∧ Z1.Stab (X1 ++ Y1) ∧ SortedK K0 Z1) := Lib.hid ⟨S1.out.eq (by rw [hZ1]; simp), by rw [hZ1]; exact List.Stab.refl _, by rw [hZ1]; exact sorted_nil_left _ SP.out.2.2.2.2.2.2.2.1 SP.out.2.2.2.2.2.2.2.2.1 (.inl (List.length_eq_zero_iff.1 (by have := SP.out.2.1; omega)))⟩
                    clear hZ1
                    have hm2 := IH.out w1 (p ++ Z1) X2 Y2 s (by have := SP.out.2.2.1; have := SP.out.2.2.2.2.1; omega) (by intro e; have := SP.out.2.2.1; rw [e] at this; simp at this; omega) (by intro e; have := SP.out.2.2.2.2.1; rw [e] at this; simp at this; omega) (S2.out.1.eq (by simp)) SP.out.2.2.2.2.2.2.2.2.2.1 SP.out.2.2.2.2.2.2.2.2.2.2 n cap mid en b (by have := S2.out.2.1.length_eq; rw [SP.out.2.2.2.2.2.1]; simp at this ⊢; omega) hn2 (by have := S2.out.2.1.length_eq; have := SP.out.2.1; have := SP.out.2.2.2.1; have := SP.out.2.2.2.2.2.2.1; simp at *; omega) (by have := SP.out.2.2.1; omega) (by have := SP.out.2.2.2.2.1; omega)
                    have HM2 := Lib.hid hm2
                    clear hm2
                    go_wp2_with fail
                    refine HM2.out.mono ?_
                    rintro e w3 ⟨rfl, Z2, h3, hp2, hs2⟩
                    have S3 := Lib.hid (And.intro (h3.eq (show _ = p ++ ((Z1 ++ Z2) ++ s) by simp)) (And.intro hp2 hs2))
                    clear h3 hp2 hs2 HM2
                    have hfin := merge_end K0 FF.out.1 FF.out.2.1 FF.out.2.2.1 FF.out.2.2.2.1 S2.out.2.1 S3.out.2.1 S2.out.2.2 S3.out.2.2
                    rw [FF.out.2.2.2.2.1, FF.out.2.2.2.2.2] at hfin
                    have HF := Lib.hid hfin
                    clear hfin
                    go_wp2
                    go_end0
                    exact ⟨rfl, Z1 ++ Z2, S3.out.1, HF.out.2, HF.out.1⟩
                  )
            · first
                | (exfalso; omega)
                | (
                    have q1 : (st : Int) < (m : Int) := by omega
                    have q2 : (m : Int) < (en : Int) := by omega
                    have q3 : ¬ (a : Int) < (st : Int) := by omega
                    have q4 : (st : Int) < (mid : Int) := by omega
                    have q5 : (mid : Int) < (en : Int) := by omega
                    have q6 : ¬ (en : Int) < (b : Int) := by omega
                    have hrot := sRotate (p := p ++ X1) (u := X2) (v := Y1) (s := Y2 ++ s) (SP.out.1.eq (by simp)) (by intro e; have := SP.out.2.2.1; rw [e] at this; simp at this; omega) (by intro e; have := SP.out.2.2.2.1; rw [e] at this; simp at this; omega) n cap st m en (by rw [SP.out.2.2.2.2.2.1]; simp) hn2 (by have := SP.out.2.1; have := SP.out.2.2.2.2.2.2.1; simp; omega) (by have := SP.out.2.2.1; omega) (by have := SP.out.2.2.2.1; omega) (.func (.func 50) #[] #[])
                    have HR := Lib.hid hrot
                    clear hrot
                    go_wp2_with fail
                    refine HR.out.mono ?_
                    rintro e w1 ⟨rfl, h1⟩
                    have S1 : Hid (SInv w0 blk w1 (p ++ (X1 ++ (Y1 ++ (X2 ++ (Y2 ++ s)))))) := Lib.hid (h1.eq (by simp))
                    clear h1 HR
                    obtain ⟨Z1, hZ1⟩ : ∃ Z1, Z1 = X1 ++ Y1 := ⟨_, rfl⟩
                    have S2 : Hid (SInv w0 blk w1 (p ++ (Z1 ++ (X2 ++ (Y2 ++ s)))) ∧ Z1.Stab (X1 ++ Y1) ∧ SortedK K0 Z1) := Lib.hid ⟨S1.out.eq (by rw [hZ1]; simp), by rw [hZ1]; exact List.Stab.refl _, by rw [hZ1]; exact sorted_nil_left _ SP.out.2.2.2.2.2.2.2.1 SP.out.2.2.2.2.2.2.2.2.1 (.inl (List.length_eq_zero_iff.1 (by have := SP.out.2.1; omega)))⟩
                    clear hZ1
                    obtain ⟨Z2, hZ2⟩ : ∃ Z2, Z2 = X2 ++ Y2 := ⟨_, rfl⟩
                    have S3 : Hid (SInv w0 blk w1 (p ++ ((Z1 ++ Z2) ++ s)) ∧ Z2.Stab (X2 ++ Y2) ∧ SortedK K0 Z2) := Lib.hid ⟨S2.out.1.eq (by rw [hZ2]; simp), by rw [hZ2]; exact List.Stab.refl _, by rw [hZ2]; exact sorted_nil_left _ SP.out.2.2.2.2.2.2.2.2.2.1 SP.out.2.2.2.2.2.2.2.2.2.2 (.inr (List.length_eq_zero_iff.1 (by have := SP.out.2.2.2.2.1; omega)))⟩
                    clear hZ2
                    have hfin := merge_end K0 FF.out.1 FF.out.2.1 FF.out.2.2.1 FF.out.2.2.2.1 S2.out.2.1 S3.out.2.1 S2.out.2.2 S3.out.2.2
                    rw [FF.out.2.2.2.2.1, FF.out.2.2.2.2.2] at hfin
                    have HF := Lib.hid hfin
                    clear hfin
                    go_wp2
                    go_end0
                    exact ⟨rfl, Z1 ++ Z2, S3.out.1, HF.out.2, HF.out.1⟩
                  )
        · by_cases d2 : a < st
          · by_cases d3 : mid + m < b + st
            · first
                | (exfalso; omega)
                | (
                    have q1 : (st : Int) < (m : Int) := by omega
                    have q2 : ¬ (m : Int) < (en : Int) := by omega
                    have q3 : (a : Int) < (st : Int) := by omega
                    have q4 : ¬ (st : Int) < (mid : Int) := by omega
                    have q5 : (mid : Int) < (en : Int) := by omega
                    have q6 : (en : Int) < (b : Int) := by omega
                    have S1 : Hid (SInv w0 blk wr (p ++ (X1 ++ (Y1 ++ (X2 ++ (Y2 ++ s)))))) := Lib.hid (SP.out.1.eq (by have e : Y1 = [] := List.length_eq_zero_iff.1 (by have := SP.out.2.2.2.1; omega); rw [e]; simp))
                    obtain ⟨Z1, hZ1⟩ : ∃ Z1, Z1 = X1 ++ Y1 := ⟨_, rfl⟩
                    have S2 : Hid (SInv w0 blk wr (p ++ (Z1 ++ (X2 ++ (Y2 ++ s)))) ∧ Z1.Stab (X1 ++ Y1) ∧ SortedK K0 Z1) := Lib.hid ⟨S1.out.eq (by rw [hZ1]; simp), by rw [hZ1]; exact List.Stab.refl _, by rw [hZ1]; exact sorted_nil_left _ SP.out.2.2.2.2.2.2.2.1 SP.out.2.2.2.2.2.2.2.2.1 (.inr (List.length_eq_zero_iff.1 (by have := SP.out.2.2.2.1; omega)))⟩
                    clear hZ1
                    have hm2 := IH.out wr (p ++ Z1) X2 Y2 s (by have := SP.out.2.2.1; have := SP.out.2.2.2.2.1; omega) (by intro e; have := SP.out.2.2.1; rw [e] at this; simp at this; omega) (by intro e; have := SP.out.2.2.2.2.1; rw [e] at this; simp at this; omega) (S2.out.1.eq (by simp)) SP.out.2.2.2.2.2.2.2.2.2.1 SP.out.2.2.2.2.2.2.2.2.2.2 n cap mid en b (by have := S2.out.2.1.length_eq; rw [SP.out.2.2.2.2.2.1]; simp at this ⊢; omega) hn2 (by have := S2.out.2.1.length_eq; have := SP.out.2.1; have := SP.out.2.2.2.1; have := SP.out.2.2.2.2.2.2.1; simp at *; omega) (by have := SP.out.2.2.1; omega) (by have := SP.out.2.2.2.2.1; omega)
                    have HM2 := Lib.hid hm2
                    clear hm2
                    go_wp2_with fail
                    refine HM2.out.mono ?_
                    rintro e w3 ⟨rfl, Z2, h3, hp2, hs2⟩
                    have S3 := Lib.hid (And.intro (h3.eq (show _ = p ++ ((Z1 ++ Z2) ++ s) by simp)) (And.intro hp2 hs2))
                    clear h3 hp2 hs2 HM2
                    have hfin := merge_end K0 FF.out.1 FF.out.2.1 FF.out.2.2.1 FF.out.2.2.2.1 S2.out.2.1 S3.out.2.1 S2.out.2.2 S3.out.2.2
                    rw [FF.out.2.2.2.2.1, FF.out.2.2.2.2.2] at hfin
                    have HF := Lib.hid hfin
                    clear hfin
                    go_wp2
                    go_end0
                    exact ⟨rfl, Z1 ++ Z2, S3.out.1, HF.out.2, HF.out.1⟩
                  )
            · first
                | (exfalso; omega)
                | (
                    have q1 : (st : Int) < (m : Int) := by omega
                    have q2 : ¬ (m : Int) < (en : Int) := by omega
                    have q3 : (a : Int) < (st : Int) := by omega
                    have q4 : ¬ (st : Int) < (mid : Int) := by omega
                    have q5 : (mid : Int) < (en : Int) := by omega
                    have q6 : ¬ (en : Int) < (b : Int) := by omega
                    have S1 : Hid (SInv w0 blk wr (p ++ (X1 ++ (Y1 ++ (X2 ++ (Y2 ++ s)))))) := Lib.hid (SP.out.1.eq (by have e : Y1 = [] := List.length_eq_zero_iff.1 (by have := SP.out.2.2.2.1; omega); rw [e]; simp))
                    obtain ⟨Z1, hZ1⟩ : ∃ Z1, Z1 = X1 ++ Y1 := ⟨_, rfl⟩
                    have S2 : Hid (SInv w0 blk wr (p ++ (Z1 ++ (X2 ++ (Y2 ++ s)))) ∧ Z1.Stab (X1 ++ Y1) ∧ SortedK K0 Z1) := Lib.hid ⟨S1.out.eq (by rw [hZ1]; simp), by rw [hZ1]; exact List.Stab.refl _, by rw [hZ1]; exact sorted_nil_left _ SP.out.2.2.2.2.2.2.2.1 SP.out.2.2.2.2.2.2.2.2.1 (.inr (List.length_eq_zero_iff.1 (by have := SP.out.2.2.2.1; omega)))⟩
                    clear hZ1
                    obtain ⟨Z2, hZ2⟩ : ∃ Z2, Z2 = X2 ++ Y2 := ⟨_, rfl⟩
                    have S3 : Hid (SInv w0 blk wr (p ++ ((Z1 ++ Z2) ++ s)) ∧ Z2.Stab (X2 ++ Y2) ∧ SortedK K0 Z2) := Lib.hid ⟨S2.out.1.eq (by rw [hZ2]; simp), by rw [hZ2]; exact List.Stab.refl _, by rw [hZ2]; exact sorted_nil_left _ SP.out.2.2.2.2.2.2.2.2.2.1 SP.out.2.2.2.2.2.2.2.2.2.2 (.inr (List.length_eq_zero_iff.1 (by have := SP.out.2.2.2.2.1; omega)))⟩
                    clear hZ2
                    have hfin := merge_end K0 FF.out.1 FF.out.2.1 FF.out.2.2.1 FF.out.2.2.2.1 S2.out.2.1 S3.out.2.1 S2.out.2.2 S3.out.2.2
                    rw [FF.out.2.2.2.2.1, FF.out.2.2.2.2.2] at hfin
                    have HF := Lib.hid hfin
                    clear hfin
                    go_wp2
                    go_end0
                    exact ⟨rfl, Z1 ++ Z2, S3.out.1, HF.out.2, HF.out.1⟩
                  )
          · by_cases d3 : mid + m < b + st
            · first
                | (exfalso; omega)
                | (
                    have q1 : (st : Int) < (m : Int) := by omega
                    have q2 : ¬ (m : Int) < (en : Int) := by omega
                    have q3 : ¬ (a : Int) < (st : Int) := by omega
                    have q4 : ¬ (st : Int) < (mid : Int) := by omega
                    have q5 : (mid : Int) < (en : Int) := by omega
                    have q6 : (en : Int) < (b : Int) := by omega
                    have S1 : Hid (SInv w0 blk wr (p ++ (X1 ++ (Y1 ++ (X2 ++ (Y2 ++ s)))))) := Lib.hid (SP.out.1.eq (by have e : Y1 = [] := List.length_eq_zero_iff.1 (by have := SP.out.2.2.2.1; omega); rw [e]; simp))
                    obtain ⟨Z1, hZ1⟩ : ∃ Z1, Z1 = X1 ++ Y1 := ⟨_, rfl⟩
                    have S2 : Hid (SInv w0 blk wr (p ++ (Z1 ++ (X2 ++ (Y2 ++ s)))) ∧ Z1.Stab (X1 ++ Y1) ∧ SortedK K0 Z1) := Lib.hid ⟨S1.out.eq (by rw [hZ1]; simp), by rw [hZ1]; exact List.Stab.refl _, by rw [hZ1]; exact sorted_nil_left _ SP.out.2.2.2.2.2.2.2.1 SP.out.2.2.2.2.2.2.2.2.1 (.inl (List.length_eq_zero_iff.1 (by have := SP.out.2.1; omega)))⟩
                    clear hZ1
                    have hm2 := IH.out wr (p ++ Z1) X2 Y2 s (by have := SP.out.2.2.1; have := SP.out.2.2.2.2.1; omega) (by intro e; have := SP.out.2.2.1; rw [e] at this; simp at this; omega) (by intro e; have := SP.out.2.2.2.2.1; rw [e] at this; simp at this; omega) (S2.out.1.eq (by simp)) SP.out.2.2.2.2.2.2.2.2.2.1 SP.out.2.2.2.2.2.2.2.2.2.2 n cap mid en b (by have := S2.out.2.1.length_eq; rw [SP.out.2.2.2.2.2.1]; simp at this ⊢; omega) hn2 (by have := S2.out.2.1.length_eq; have := SP.out.2.1; have := SP.out.2.2.2.1; have := SP.out.2.2.2.2.2.2.1; simp at *; omega) (by have := SP.out.2.2.1; omega) (by have := SP.out.2.2.2.2.1; omega)
                    have HM2 := Lib.hid hm2
                    clear hm2
                    go_wp2_with fail
                    refine HM2.out.mono ?_
                    rintro e w3 ⟨rfl, Z2, h3, hp2, hs2⟩
                    have S3 := Lib.hid (And.intro (h3.eq (show _ = p ++ ((Z1 ++ Z2) ++ s) by simp)) (And.intro hp2 hs2))
                    clear h3 hp2 hs2 HM2
                    have hfin := merge_end K0 FF.out.1 FF.out.2.1 FF.out.2.2.1 FF.out.2.2.2.1 S2.out.2.1 S3.out.2.1 S2.out.2.2 S3.out.2.2
                    rw [FF.out.2.2.2.2.1, FF.out.2.2.2.2.2] at hfin
                    have HF := Lib.hid hfin
                    clear hfin
                    go_wp2
                    go_end0
                    exact ⟨rfl, Z1 ++ Z2, S3.out.1, HF.out.2, HF.out.1⟩
                  )
            · first
                | (exfalso; omega)
                | (
                    have q1 : (st : Int) < (m : Int) := by omega
                    have q2 : ¬ (m : Int) < (en : Int) := by omega
                    have q3 : ¬ (a : Int) < (st : Int) := by omega
                    have q4 : ¬ (st : Int) < (mid : Int) := by omega
                    have q5 : (mid : Int) < (en : Int) := by omega
                    have q6 : ¬ (en : Int) < (b : Int) := by omega
                    have S1 : Hid (SInv w0 blk wr (p ++ (X1 ++ (Y1 ++ (X2 ++ (Y2 ++ s)))))) := Lib.hid (SP.out.1.eq (by have e : Y1 = [] := List.length_eq_zero_iff.1 (by have := SP.out.2.2.2.1; omega); rw [e]; simp))
                    obtain ⟨Z1, hZ1⟩ : ∃ Z1, Z1 = X1 ++ Y1 := ⟨_, rfl⟩
                    have S2 : Hid (SInv w0 blk wr (p ++ (Z1 ++ (X2 ++ (Y2 ++ s)))) ∧ Z1.Stab (X1 ++ Y1) ∧ SortedK K0 Z1) := Lib.hid ⟨S1.out.eq (by rw [hZ1]; simp), by rw [hZ1]; exact List.Stab.refl _, by rw [hZ1]; exact sorted_nil_left _ SP.out.2.2.2.2.2.2.2.1 SP.out.2.2.2.2.2.2.2.2.1 (.inl (List.length_eq_zero_iff.1 (by have := SP.out.2.1; omega)))⟩
                    clear hZ1
                    obtain ⟨Z2, hZ2⟩ : ∃ Z2, Z2 = X2 ++ Y2 := ⟨_, rfl⟩
                    have S3 : Hid (SInv w0 blk wr (p ++ ((Z1 ++ Z2) ++ s)) ∧ Z2.Stab (X2 ++ Y2) ∧ SortedK K0 Z2) := Lib.hid ⟨S2.out.1.eq (by rw [hZ2]; simp), by rw [hZ2]; exact List.Stab.refl _, by rw [hZ2]; exact sorted_nil_left _ SP.out.2.2.2.2.2.2.2.2.2.1 SP.out.2.2.2.2.2.2.2.2.2.2 (.inr (List.length_eq_zero_iff.1 (by have := SP.out.2.2.2.2.1; omega)))⟩
                    clear hZ2
                    have hfin := merge_end K0 FF.out.1 FF.out.2.1 FF.out.2.2.1 FF.out.2.2.2.1 S2.out.2.1 S3.out.2.1 S2.out.2.2 S3.out.2.2
                    rw [FF.out.2.2.2.2.1, FF.out.2.2.2.2.2] at hfin
                    have HF := Lib.hid hfin
                    clear hfin
                    go_wp2
                    go_end0
                    exact ⟨rfl, Z1 ++ Z2, S3.out.1, HF.out.2, HF.out.1⟩
                  )
      · by_cases d1 : st < mid
        · by_cases d2 : a < st
          · by_cases d3 : mid + m < b + st
            · first
                | (exfalso; omega)
                | (
                    have q1 : ¬ (st : Int) < (m : Int) := by omega
                    have q2 : (m : Int) < (en : Int) := by omega
                    have q3 : (a : Int) < (st : Int) := by omega
                    have q4 : (st : Int) < (mid : Int) := by omega
                    have q5 : ¬ (mid : Int) < (en : Int) := by omega
                    have q6 : (en : Int) < (b : Int) := by omega
                    have S1 : Hid (SInv w0 blk wr (p ++ (X1 ++ (Y1 ++ (X2 ++ (Y2 ++ s)))))) := Lib.hid (SP.out.1.eq (by have e : X2 = [] := List.length_eq_zero_iff.1 (by have := SP.out.2.2.1; omega); rw [e]; simp))
                    have hm1 := IH.out wr p X1 Y1 (X2 ++ (Y2 ++ s)) (by have := SP.out.2.1; have := SP.out.2.2.2.1; omega) (by intro e; have := SP.out.2.1; rw [e] at this; simp at this; omega) (by intro e; have := SP.out.2.2.2.1; rw [e] at this; simp at this; omega) S1.out SP.out.2.2.2.2.2.2.2.1 SP.out.2.2.2.2.2.2.2.2.1 n cap a st mid (by rw [SP.out.2.2.2.2.2.1]; simp; omega) hn2 SP.out.2.2.2.2.2.2.1 (by have := SP.out.2.1; omega) (by have := SP.out.2.2.2.1; omega)
                    have HM1 := Lib.hid hm1
                    clear hm1
                    go_wp2_with fail
                    refine HM1.out.mono ?_
                    rintro e w2 ⟨rfl, Z1, h2, hp1, hs1⟩
                    have S2 := Lib.hid (And.intro h2 (And.intro hp1 hs1))
                    clear h2 hp1 hs1 HM1
                    obtain ⟨Z2, hZ2⟩ : ∃ Z2, Z2 = X2 ++ Y2 := ⟨_, rfl⟩
                    have S3 : Hid (SInv w0 blk w2 (p ++ ((Z1 ++ Z2) ++ s)) ∧ Z2.Stab (X2 ++ Y2) ∧ SortedK K0 Z2) := Lib.hid ⟨S2.out.1.eq (by rw [hZ2]; simp), by rw [hZ2]; exact List.Stab.refl _, by rw [hZ2]; exact sorted_nil_left _ SP.out.2.2.2.2.2.2.2.2.2.1 SP.out.2.2.2.2.2.2.2.2.2.2 (.inl (List.length_eq_zero_iff.1 (by have := SP.out.2.2.1; omega)))⟩
                    clear hZ2
                    have hfin := merge_end K0 FF.out.1 FF.out.2.1 FF.out.2.2.1 FF.out.2.2.2.1 S2.out.2.1 S3.out.2.1 S2.out.2.2 S3.out.2.2
                    rw [FF.out.2.2.2.2.1, FF.out.2.2.2.2.2] at hfin
                    have HF := Lib.hid hfin
                    clear hfin
                    go_wp2
                    go_end0
                    exact ⟨rfl, Z1 ++ Z2, S3.out.1, HF.out.2, HF.out.1⟩
                  )
            · first
                | (exfalso; omega)
                | (
                    have q1 : ¬ (st : Int) < (m : Int) := by omega
                    have q2 : (m : Int) < (en : Int) := by omega
                    have q3 : (a : Int) < (st : Int) := by omega
                    have q4 : (st : Int) < (mid : Int) := by omega
                    have q5 : ¬ (mid : Int) < (en : Int) := by omega
                    have q6 : ¬ (en : Int) < (b : Int) := by omega
                    have S1 : Hid (SInv w0 blk wr (p ++ (X1 ++ (Y1 ++ (X2 ++ (Y2 ++ s)))))) := Lib.hid (SP.out.1.eq (by have e : X2 = [] := List.length_eq_zero_iff.1 (by have := SP.out.2.2.1; omega); rw [e]; simp))
                    have hm1 := IH.out wr p X1 Y1 (X2 ++ (Y2 ++ s)) (by have := SP.out.2.1; have := SP.out.2.2.2.1; omega) (by intro e; have := SP.out.2.1; rw [e] at this; simp at this; omega) (by intro e; have := SP.out.2.2.2.1; rw [e] at this; simp at this; omega) S1.out SP.out.2.2.2.2.2.2.2.1 SP.out.2.2.2.2.2.2.2.2.1 n cap a st mid (by rw [SP.out.2.2.2.2.2.1]; simp; omega) hn2 SP.out.2.2.2.2.2.2.1 (by have := SP.out.2.1; omega) (by have := SP.out.2.2.2.1; omega)
                    have HM1 := Lib.hid hm1
                    clear hm1
                    go_wp2_with fail
                    refine HM1.out.mono ?_
                    rintro e w2 ⟨rfl, Z1, h2, hp1, hs1⟩
                    have S2 := Lib.hid (And.intro h2 (And.intro hp1 hs1))
                    clear h2 hp1 hs1 HM1
                    obtain ⟨Z2, hZ2⟩ : ∃ Z2, Z2 = X2 ++ Y2 := ⟨_, rfl⟩
                    have S3 : Hid (SInv w0 blk w2 (p ++ ((Z1 ++ Z2) ++ s)) ∧ Z2.Stab (X2 ++ Y2) ∧ SortedK K0 Z2) := Lib.hid ⟨S2.out.1.eq (by rw [hZ2]; simp), by rw [hZ2]; exact List.Stab.refl _, by rw [hZ2]; exact sorted_nil_left _ SP.out.2.2.2.2.2.2.2.2.2.1 SP.out.2.2.2.2.2.2.2.2.2.2 (.inl (List.length_eq_zero_iff.1 (by have := SP.out.2.2.1; omega)))⟩
                    clear hZ2
                    have hfin := merge_end K0 FF.out.1 FF.out.2.1 FF.out.2.2.1 FF.out.2.2.2.1 S2.out.2.1 S3.out.2.1 S2.out.2.2 S3.out.2.2
                    rw [FF.out.2.2.2.2.1, FF.out.2.2.2.2.2] at hfin
                    have HF := Lib.hid hfin
                    clear hfin
                    go_wp2
                    go_end0
                    exact ⟨rfl, Z1 ++ Z2, S3.out.1, HF.out.2, HF.out.1⟩
                  )
          · by_cases d3 : mid + m < b + st
            · first
                | (exfalso; omega)
                | (
                    have q1 : ¬ (st : Int) < (m : Int) := by omega
                    have q2 : (m : Int) < (en : Int) := by omega
                    have q3 : ¬ (a : Int) < (st : Int) := by omega
                    have q4 : (st : Int) < (mid : Int) := by omega
                    have q5 : ¬ (mid : Int) < (en : Int) := by omega
                    have q6 : (en : Int) < (b : Int) := by omega
                    have S1 : Hid (SInv w0 blk wr (p ++ (X1 ++ (Y1 ++ (X2 ++ (Y2 ++ s)))))) := Lib.hid (SP.out.1.eq (by have e : X2 = [] := List.length_eq_zero_iff.1 (by have := SP.out.2.2.1; omega); rw [e]; simp))
                    obtain ⟨Z1, hZ1⟩ : ∃ Z1, Z1 = X1 ++ Y1 := ⟨_, rfl⟩
                    have S2 : Hid (SInv w0 blk wr (p ++ (Z1 ++ (X2 ++ (Y2 ++ s)))) ∧ Z1.Stab (X1 ++ Y1) ∧ SortedK K0 Z1) := Lib.hid ⟨S1.out.eq (by rw [hZ1]; simp), by rw [hZ1]; exact List.Stab.refl _, by rw [hZ1]; exact sorted_nil_left _ SP.out.2.2.2.2.2.2.2.1 SP.out.2.2.2.2.2.2.2.2.1 (.inl (List.length_eq_zero_iff.1 (by have := SP.out.2.1; omega)))⟩
                    clear hZ1
                    obtain ⟨Z2, hZ2⟩ : ∃ Z2, Z2 = X2 ++ Y2 := ⟨_, rfl⟩
                    have S3 : Hid (SInv w0 blk wr (p ++ ((Z1 ++ Z2) ++ s)) ∧ Z2.Stab (X2 ++ Y2) ∧ SortedK K0 Z2) := Lib.hid ⟨S2.out.1.eq (by rw [hZ2]; simp), by rw [hZ2]; exact List.Stab.refl _, by rw [hZ2]; exact sorted_nil_left _ SP.out.2.2.2.2.2.2.2.2.2.1 SP.out.2.2.2.2.2.2.2.2.2.2 (.inl (List.length_eq_zero_iff.1 (by have := SP.out.2.2.1; omega)))⟩
                    clear hZ2
                    have hfin := merge_end K0 FF.out.1 FF.out.2.1 FF.out.2.2.1 FF.out.2.2.2.1 S2.out.2.1 S3.out.2.1 S2.out.2.2 S3.out.2.2
                    rw [FF.out.2.2.2.2.1, FF.out.2.2.2.2.2] at hfin
                    have HF := Lib.hid hfin
                    clear hfin
                    go_wp2
                    go_end0
                    exact ⟨rfl, Z1 ++ Z2, S3.out.1, HF.out.2, HF.out.1⟩
                  )
            · first
                | (exfalso; omega)
                | (
                    have q1 : ¬ (st : Int) < (m : Int) := by omega
                    have q2 : (m : Int) < (en : Int) := by omega
                    have q3 : ¬ (a : Int) < (st : Int) := by omega
                    have q4 : (st : Int) < (mid : Int) := by omega
                    have q5 : ¬ (mid : Int) < (en : Int) := by omega
                    have q6 : ¬ (en : Int) < (b : Int) := by omega
                    have S1 : Hid (SInv w0 blk wr (p ++ (X1 ++ (Y1 ++ (X2 ++ (Y2 ++ s)))))) := Lib.hid (SP.out.1.eq (by have e : X2 = [] := List.length_eq_zero_iff.1 (by have := SP.out.2.2.1; omega); rw [e]; simp))
                    obtain ⟨Z1, hZ1⟩ : ∃ Z1, Z1 = X1 ++ Y1 := ⟨_, rfl⟩
                    have S2 : Hid (SInv w0 blk wr (p ++ (Z1 ++ (X2 ++ (Y2 ++ s)))) ∧ Z1.Stab (X1 ++ Y1) ∧ SortedK K0 Z1) := Lib.hid ⟨S1.out.eq (by rw [hZ1]; simp), by rw [hZ1]; exact List.Stab.refl _, by rw [hZ1]; exact sorted_nil_left _ SP.out.2.2.2.2.2.2.2.1 SP.out.2.2.2.2.2.2.2.2.1 (.inl (List.length_eq_zero_iff.1 (by have := SP.out.2.1; omega)))⟩
                    clear hZ1
                    obtain ⟨Z2, hZ2⟩ : ∃ Z2, Z2 = X2 ++ Y2 := ⟨_, rfl⟩
                    have S3 : Hid (SInv w0 blk wr (p ++ ((Z1 ++ Z2) ++ s)) ∧ Z2.Stab (X2 ++ Y2) ∧ SortedK K0 Z2) := Lib.hid ⟨S2.out.1.eq (by rw [hZ2]; simp), by rw [hZ2]; exact List.Stab.refl _, by rw [hZ2]; exact sorted_nil_left _ SP.out.2.2.2.2.2.2.2.2.2.1 SP.out.2.2.2.2.2.2.2.2.2.2 (.inl (List.length_eq_zero_iff.1 (by have := SP.out.2.2.1; omega)))⟩
                    clear hZ2
                    have hfin := merge_end K0 FF.out.1 FF.out.2.1 FF.out.2.2.1 FF.out.2.2.2.1 S2.out.2.1 S3.out.2.1 S2.out.2.2 S3.out.2.2
                    rw [FF.out.2.2.2.2.1, FF.out.2.2.2.2.2] at hfin
                    have HF := Lib.hid hfin
                    clear hfin
                    go_wp2
                    go_end0
                    exact ⟨rfl, Z1 ++ Z2, S3.out.1, HF.out.2, HF.out.1⟩
                  )
        · by_cases d2 : a < st
          · by_cases d3 : mid + m < b + st
            · first
                | (exfalso; omega)
                | (
                    have q1 : ¬ (st : Int) < (m : Int) := by omega
                    have q2 : ¬ (m : Int) < (en : Int) := by omega
                    have q3 : (a : Int) < (st : Int) := by omega
                    have q4 : ¬ (st : Int) < (mid : Int) := by omega
                    have q5 : ¬ (mid : Int) < (en : Int) := by omega
                    have q6 : (en : Int) < (b : Int) := by omega
                    have S1 : Hid (SInv w0 blk wr (p ++ (X1 ++ (Y1 ++ (X2 ++ (Y2 ++ s)))))) := Lib.hid (SP.out.1.eq (by have e : X2 = [] := List.length_eq_zero_iff.1 (by have := SP.out.2.2.1; omega); rw [e]; simp))
                    obtain ⟨Z1, hZ1⟩ : ∃ Z1, Z1 = X1 ++ Y1 := ⟨_, rfl⟩
                    have S2 : Hid (SInv w0 blk wr (p ++ (Z1 ++ (X2 ++ (Y2 ++ s)))) ∧ Z1.Stab (X1 ++ Y1) ∧ SortedK K0 Z1) := Lib.hid ⟨S1.out.eq (by rw [hZ1]; simp), by rw [hZ1]; exact List.Stab.refl _, by rw [hZ1]; exact sorted_nil_left _ SP.out.2.2.2.2.2.2.2.1 SP.out.2.2.2.2.2.2.2.2.1 (.inr (List.length_eq_zero_iff.1 (by have := SP.out.2.2.2.1; omega)))⟩
                    clear hZ1
                    obtain ⟨Z2, hZ2⟩ : ∃ Z2, Z2 = X2 ++ Y2 := ⟨_, rfl⟩
                    have S3 : Hid (SInv w0 blk wr (p ++ ((Z1 ++ Z2) ++ s)) ∧ Z2.Stab (X2 ++ Y2) ∧ SortedK K0 Z2) := Lib.hid ⟨S2.out.1.eq (by rw [hZ2]; simp), by rw [hZ2]; exact List.Stab.refl _, by rw [hZ2]; exact sorted_nil_left _ SP.out.2.2.2.2.2.2.2.2.2.1 SP.out.2.2.2.2.2.2.2.2.2.2 (.inl (List.length_eq_zero_iff.1 (by have := SP.out.2.2.1; omega)))⟩
                    clear hZ2
                    have hfin := merge_end K0 FF.out.1 FF.out.2.1 FF.out.2.2.1 FF.out.2.2.2.1 S2.out.2.1 S3.out.2.1 S2.out.2.2 S3.out.2.2
                    rw [FF.out.2.2.2.2.1, FF.out.2.2.2.2.2] at hfin
                    have HF := Lib.hid hfin
                    clear hfin
                    go_wp2
                    go_end0
                    exact ⟨rfl, Z1 ++ Z2, S3.out.1, HF.out.2, HF.out.1⟩
                  )
            · first
                | (exfalso; omega)
                | (
                    have q1 : ¬ (st : Int) < (m : Int) := by omega
                    have q2 : ¬ (m : Int) < (en : Int) := by omega
                    have q3 : (a : Int) < (st : Int) := by omega
                    have q4 : ¬ (st : Int) < (mid : Int) := by omega
                    have q5 : ¬ (mid : Int) < (en : Int) := by omega
                    have q6 : ¬ (en : Int) < (b : Int) := by omega
                    have S1 : Hid (SInv w0 blk wr (p ++ (X1 ++ (Y1 ++ (X2 ++ (Y2 ++ s)))))) := Lib.hid (SP.out.1.eq (by have e : X2 = [] := List.length_eq_zero_iff.1 (by have := SP.out.2.2.1; omega); rw [e]; simp))
                    obtain ⟨Z1, hZ1⟩ : ∃ Z1, Z1 = X1 ++ Y1 := ⟨_, rfl⟩
                    have S2 : Hid (SInv w0 blk wr (p ++ (Z1 ++ (X2 ++ (Y2 ++ s)))) ∧ Z1.Stab (X1 ++ Y1) ∧ SortedK K0 Z1) := Lib.hid ⟨S1.out.eq (by rw [hZ1]; simp), by rw [hZ1]; exact List.Stab.refl _, by rw [hZ1]; exact sorted_nil_left _ SP.out.2.2.2.2.2.2.2.1 SP.out.2.2.2.2.2.2.2.2.1 (.inr (List.length_eq_zero_iff.1 (by have := SP.out.2.2.2.1; omega)))⟩
                    clear hZ1
                    obtain ⟨Z2, hZ2⟩ : ∃ Z2, Z2 = X2 ++ Y2 := ⟨_, rfl⟩
                    have S3 : Hid (SInv w0 blk wr (p ++ ((Z1 ++ Z2) ++ s)) ∧ Z2.Stab (X2 ++ Y2) ∧ SortedK K0 Z2) := Lib.hid ⟨S2.out.1.eq (by rw [hZ2]; simp), by rw [hZ2]; exact List.Stab.refl _, by rw [hZ2]; exact sorted_nil_left _ SP.out.2.2.2.2.2.2.2.2.2.1 SP.out.2.2.2.2.2.2.2.2.2.2 (.inl (List.length_eq_zero_iff.1 (by have := SP.out.2.2.1; omega)))⟩
                    clear hZ2
                    have hfin := merge_end K0 FF.out.1 FF.out.2.1 FF.out.2.2.1 FF.out.2.2.2.1 S2.out.2.1 S3.out.2.1 S2.out.2.2 S3.out.2.2
                    rw [FF.out.2.2.2.2.1, FF.out.2.2.2.2.2] at hfin
                    have HF := Lib.hid hfin
                    clear hfin
                    go_wp2
                    go_end0
                    exact ⟨rfl, Z1 ++ Z2, S3.out.1, HF.out.2, HF.out.1⟩
                  )
          · by_cases d3 : mid + m < b + st
            · first
                | (exfalso; omega)
                | (
                    have q1 : ¬ (st : Int) < (m : Int) := by omega
                    have q2 : ¬ (m : Int) < (en : Int) := by omega
                    have q3 : ¬ (a : Int) < (st : Int) := by omega
                    have q4 : ¬ (st : Int) < (mid : Int) := by omega
                    have q5 : ¬ (mid : Int) < (en : Int) := by omega
                    have q6 : (en : Int) < (b : Int) := by omega
                    have S1 : Hid (SInv w0 blk wr (p ++ (X1 ++ (Y1 ++ (X2 ++ (Y2 ++ s)))))) := Lib.hid (SP.out.1.eq (by have e : X2 = [] := List.length_eq_zero_iff.1 (by have := SP.out.2.2.1; omega); rw [e]; simp))
                    obtain ⟨Z1, hZ1⟩ : ∃ Z1, Z1 = X1 ++ Y1 := ⟨_, rfl⟩
                    have S2 : Hid (SInv w0 blk wr (p ++ (Z1 ++ (X2 ++ (Y2 ++ s)))) ∧ Z1.Stab (X1 ++ Y1) ∧ SortedK K0 Z1) := Lib.hid ⟨S1.out.eq (by rw [hZ1]; simp), by rw [hZ1]; exact List.Stab.refl _, by rw [hZ1]; exact sorted_nil_left _ SP.out.2.2.2.2.2.2.2.1 SP.out.2.2.2.2.2.2.2.2.1 (.inl (List.length_eq_zero_iff.1 (by have := SP.out.2.1; omega)))⟩
                    clear hZ1
                    obtain ⟨Z2, hZ2⟩ : ∃ Z2, Z2 = X2 ++ Y2 := ⟨_, rfl⟩
                    have S3 : Hid (SInv w0 blk wr (p ++ ((Z1 ++ Z2) ++ s)) ∧ Z2.Stab (X2 ++ Y2) ∧ SortedK K0 Z2) := Lib.hid ⟨S2.out.1.eq (by rw [hZ2]; simp), by rw [hZ2]; exact List.Stab.refl _, by rw [hZ2]; exact sorted_nil_left _ SP.out.2.2.2.2.2.2.2.2.2.1 SP.out.2.2.2.2.2.2.2.2.2.2 (.inl (List.length_eq_zero_iff.1 (by have := SP.out.2.2.1; omega)))⟩
                    clear hZ2
                    have hfin := merge_end K0 FF.out.1 FF.out.2.1 FF.out.2.2.1 FF.out.2.2.2.1 S2.out.2.1 S3.out.2.1 S2.out.2.2 S3.out.2.2
                    rw [FF.out.2.2.2.2.1, FF.out.2.2.2.2.2] at hfin
                    have HF := Lib.hid hfin
                    clear hfin
                    go_wp2
                    go_end0
                    exact ⟨rfl, Z1 ++ Z2, S3.out.1, HF.out.2, HF.out.1⟩
                  )
            · first
                | (exfalso; omega)
                | (
                    have q1 : ¬ (st : Int) < (m : Int) := by omega
                    have q2 : ¬ (m : Int) < (en : Int) := by omega
                    have q3 : ¬ (a : Int) < (st : Int) := by omega
                    have q4 : ¬ (st : Int) < (mid : Int) := by omega
                    have q5 : ¬ (mid : Int) < (en : Int) := by omega
                    have q6 : ¬ (en : Int) < (b : Int) := by omega
                    have S1 : Hid (SInv w0 blk wr (p ++ (X1 ++ (Y1 ++ (X2 ++ (Y2 ++ s)))))) := Lib.hid (SP.out.1.eq (by have e : X2 = [] := List.length_eq_zero_iff.1 (by have := SP.out.2.2.1; omega); rw [e]; simp))
                    obtain ⟨Z1, hZ1⟩ : ∃ Z1, Z1 = X1 ++ Y1 := ⟨_, rfl⟩
                    have S2 : Hid (SInv w0 blk wr (p ++ (Z1 ++ (X2 ++ (Y2 ++ s)))) ∧ Z1.Stab (X1 ++ Y1) ∧ SortedK K0 Z1) := Lib.hid ⟨S1.out.eq (by rw [hZ1]; simp), by rw [hZ1]; exact List.Stab.refl _, by rw [hZ1]; exact sorted_nil_left _ SP.out.2.2.2.2.2.2.2.1 SP.out.2.2.2.2.2.2.2.2.1 (.inl (List.length_eq_zero_iff.1 (by have := SP.out.2.1; omega)))⟩
                    clear hZ1
                    obtain ⟨Z2, hZ2⟩ : ∃ Z2, Z2 = X2 ++ Y2 := ⟨_, rfl⟩
                    have S3 : Hid (SInv w0 blk wr (p ++ ((Z1 ++ Z2) ++ s)) ∧ Z2.Stab (X2 ++ Y2) ∧ SortedK K0 Z2) := Lib.hid ⟨S2.out.1.eq (by rw [hZ2]; simp), by rw [hZ2]; exact List.Stab.refl _, by rw [hZ2]; exact sorted_nil_left _ SP.out.2.2.2.2.2.2.2.2.2.1 SP.out.2.2.2.2.2.2.2.2.2.2 (.inl (List.length_eq_zero_iff.1 (by have := SP.out.2.2.1; omega)))⟩
                    clear hZ2
                    have hfin := merge_end K0 FF.out.1 FF.out.2.1 FF.out.2.2.1 FF.out.2.2.2.1 S2.out.2.1 S3.out.2.1 S2.out.2.2 S3.out.2.2
                    rw [FF.out.2.2.2.2.1, FF.out.2.2.2.2.2] at hfin
                    have HF := Lib.hid hfin
                    clear hfin
                    go_wp2
                    go_end0
                    exact ⟨rfl, Z1 ++ Z2, S3.out.1, HF.out.2, HF.out.1⟩
                  )

theorem sMerge {w0 : World} {blk : Nat} (hE : Env w0) : ∀ T, MergeAt w0 blk T
  | 0 => fun w p u v s ht => by omega
  | T + 1 => by
    have ih := sMerge (w0 := w0) (blk := blk) hE T
    intro w p u v s ht hu0 hv0 h hu hv n cap a m b hn hn2 ha hm hb
    by_cases h1 : u.length = 1
    · obtain ⟨e, rfl⟩ := List.length_eq_one_iff.1 h1
      exact sMerge1 (h.eq (by simp)) hE hv n cap a m b (by rw [hn]; simp) hn2 ha (by simpa using hm) hb
    · have hu1 : 0 < u.length := List.length_pos_iff.2 hu0
      have hv1 : 0 < v.length := List.length_pos_iff.2 hv0
      by_cases h2 : v.length = 1
      · obtain ⟨e, rfl⟩ := List.length_eq_one_iff.1 h2
        refine (sMerge2 (p := p) (u := u) (s := s) (e := e) (h.eq (by simp)) hE hu n cap a m b (by rw [hn]; simp) hn2 (by omega) ha hm (by simpa using hb)).mono ?_
        rintro e' w' ⟨he, x', hS, hp, hs⟩
        exact ⟨he, x', hS, hp, hs⟩
      · have IH : Hid (MergeAt w0 blk (u.length + v.length)) := Lib.hid fun w' p' u' v' s' h' => ih w' p' u' v' s' (by omega)
        by_cases hmm : (a + b) / 2 < m
        · exact sMerge3a IH h hE hu hv n cap a m b _ hn hn2 (by omega) (by omega) ha hm hb rfl hmm
        · exact sMerge3b IH h hE hu hv n cap a m b _ hn hn2 (by omega) (by omega) ha hm hb rfl (by omega)
end Go.Proofs.YtkfjeolpbopcnaaGreatDoor
