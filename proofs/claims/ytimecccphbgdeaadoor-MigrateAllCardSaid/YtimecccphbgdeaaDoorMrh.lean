/- The walks of the reference's Is, fits and Right of a record of a version (layer 18). -/
import Derived.Test.YtimecccphbgdeaaDoorMrg
namespace Go.Proofs.YtimecccphbgdeaaDoor
open Go Go.RowKit

def isAt (l : List Fld) (j : Int) (t : List UInt8) : Bool := decide (0 ≤ j) && ((l[j.toNat]?.map (·.tag)) == some t)
set_option maxRecDepth 100000 in
set_option maxHeartbeats 2000000 in
theorem rIs (id ver kind : Int) (lang : ByteArray) (l : List Fld) (a : Option Addr) (n0 c : Nat) (j : Int) (t : List UInt8) (w : World) (hv : Flds w (.slice a n0 c) l) :
    Calls Tryd.prog 48 #[.agg #[.int .i64 id, .int .i64 ver, .int .i64 kind, .string lang, .slice a n0 c], .int .i64 j, .string (lb t)] w fun e w' => e = .returned (.bool (isAt l j t)) ∧ Below w.heap.size w w' := by
  obtain ⟨hn, hn2⟩ := hv.len
  have HB : Hid (Below w.heap.size w (recW w id ver kind lang a n0 c)) := Lib.hid ((Below.refl _ _).alloc (Nat.le_refl _) _)
  obtain ⟨T, hT⟩ : ∃ T, T = lb t := ⟨_, rfl⟩
  rw [← hT]
  by_cases h0 : 0 ≤ j
  · obtain ⟨k, rfl⟩ := Int.eq_ofNat_of_zero_le h0
    have hr : isAt l (k : Int) t = ((l[k]?.map (·.tag)) == some t) := by
      unfold isAt
      rw [decide_eq_true h0, Bool.true_and, Int.toNat_natCast]
    obtain ⟨R, hR⟩ : ∃ R, R = isAt l (k : Int) t := ⟨_, rfl⟩
    rw [← hR] at hr ⊢
    by_cases hk : k < n0
    · have hkz : (k : Int) < (n0 : Int) := by omega
      obtain ⟨f, hf⟩ : ∃ f, l[k]? = some f := ⟨_, List.getElem?_eq_getElem (by omega)⟩
      obtain ⟨⟨a', c', he, hc, hcells⟩, -⟩ := hv
      cases he
      rcases hcells with h1 | ⟨b, o, rfl, hbl, hcl⟩
      · rw [h1] at hf; cases hf
      have p0 : (recW w id ver kind lang (some ⟨b, o, none⟩) l.length c).cell? ⟨b, o + k * 4, none⟩ = some (.string (lb f.tag)) := ((four_of (hcl k f hf)).below HB.out hbl).c0
      have be := lb_beq f.tag t
      rw [hf] at hr
      have hr2 : R = (f.tag == t) := by rw [hr]; rfl
      rw [← hT] at be
      obtain ⟨X, hX⟩ : ∃ X, X = lb f.tag := ⟨_, rfl⟩
      rw [← hX] at be p0
      rw [← hr2] at be
      obtain ⟨n, hnn⟩ : ∃ n, n = l.length := ⟨_, rfl⟩
      rw [← hnn] at p0 HB hkz hn2 ⊢
      clear hr hr2 hR hT hX hf hcl hnn hk hn hc h0
      go_enter Tryd.func48, Tryd.ntmps48
      go_wp2
      go_ret
      exact ⟨rfl, HB.out⟩
    · have hkz : ¬ (k : Int) < (n0 : Int) := by omega
      have hf : l[k]? = none := List.getElem?_eq_none (by omega)
      rw [hf] at hr
      have HR : Hid (R = false) := Lib.hid hr
      clear hr hR hT hf hn hv h0
      go_enter Tryd.func48, Tryd.ntmps48
      go_wp2
      go_ret
      exact ⟨by rw [HR.out]; rfl, HB.out⟩
  · have hr : isAt l j t = false := by unfold isAt; rw [decide_eq_false h0]; rfl
    rw [hr]
    have h0' : j < 0 := by omega
    clear hr hT hn hv h0
    go_enter Tryd.func48, Tryd.ntmps48
    go_wp2
    go_ret
    exact ⟨rfl, HB.out⟩

theorem byte_beq (x b : UInt8) : (((x.toNat : Nat) : Int) == ((b.toNat : Nat) : Int)) = (some x == some b) := by
  rw [Bool.eq_iff_iff]
  simp only [beq_iff_eq, Option.some.injEq]
  constructor
  · intro h; exact UInt8.toNat_inj.1 (by omega)
  · intro h; rw [h]
theorem int_beq (x y : Int) : (x == y) = decide (x = y) := by rw [Bool.eq_iff_iff]; simp

set_option maxRecDepth 100000 in
set_option maxHeartbeats 4000000 in
theorem rFits (id ver kind : Int) (lang : ByteArray) (l : List Fld) (a : Option Addr) (n0 c : Nat) (i : Nat) (w : World) (hv : Flds w (.slice a n0 c) l) (hl : l.length ≤ 1000000) (hi : i < l.length) (hind : ∀ f ∈ l, f.ind.length = 2) :
    Calls Tryd.prog 34 #[.agg #[.int .i64 id, .int .i64 ver, .int .i64 kind, .string lang, .slice a n0 c], .int .i64 (i : Int)] w fun e w' => e = .returned (.bool (fitsAt ver l i)) ∧ Below w.heap.size w w' := by
  obtain ⟨hn, hn2⟩ := hv.len
  have hb0 : Below w.heap.size w (recW w id ver kind lang a n0 c) := (Below.refl _ _).alloc (Nat.le_refl _) _
  obtain ⟨f, hf⟩ : ∃ f, l[i]? = some f := ⟨_, List.getElem?_eq_getElem hi⟩
  have hif := hind f (List.mem_of_getElem? hf)
  obtain ⟨W1, hW1⟩ : ∃ W1, W1 = recW w id ver kind lang a n0 c := ⟨_, rfl⟩
  obtain ⟨W2, hW2⟩ : ∃ W2, W2 = fldW W1 (lb f.tag) (lb f.ind) f.sa f.subs.length f.sc f.auth := ⟨_, rfl⟩
  have hb1 : Below W1.heap.size W1 W2 := by rw [hW2]; exact (Below.refl _ _).alloc (Nat.le_refl _) _
  have hb2 : Below w.heap.size w W2 := by rw [← hW1] at hb0; exact hb0.bt hb1
  have s1 : W1.heap.size = w.heap.size + 1 := by rw [hW1]; exact World.size_alloc _ _
  have r1 : W2.cell? ⟨w.heap.size, 1, none⟩ = some (.int .i64 ver) := by rw [hW1] at hb1; exact block_cells hb1 1 _ rfl
  have r0 : W2.cell? ⟨w.heap.size, 0, none⟩ = some (.int .i64 id) := by rw [hW1] at hb1; exact block_cells hb1 0 _ rfl
  have r2 : W2.cell? ⟨w.heap.size, 2, none⟩ = some (.int .i64 kind) := by rw [hW1] at hb1; exact block_cells hb1 2 _ rfl
  have r3 : W2.cell? ⟨w.heap.size, 3, none⟩ = some (.string lang) := by rw [hW1] at hb1; exact block_cells hb1 3 _ rfl
  have r4 : W2.cell? ⟨w.heap.size, 4, none⟩ = some (.slice a n0 c) := by rw [hW1] at hb1; exact block_cells hb1 4 _ rfl
  have his8 := rIs id ver kind lang l a n0 c ((i : Int) + 1) t830 W2 (hv.below hb2 (Nat.le_refl _))
  have his4 := rIs id ver kind lang l a n0 c ((i : Int) - 1) t490 W2 (hv.below hb2 (Nat.le_refl _))
  obtain ⟨S8, hS8⟩ : ∃ S, S = isAt l ((i : Int) + 1) t830 := ⟨_, rfl⟩
  obtain ⟨S4, hS4⟩ : ∃ S, S = isAt l ((i : Int) - 1) t490 := ⟨_, rfl⟩
  rw [← hS8] at his8
  rw [← hS4] at his4
  have eS8 : S8 = ((l[i + 1]?.map (·.tag)) == some t830) := by
    rw [hS8]
    unfold isAt
    rw [decide_eq_true (by omega), Bool.true_and, show ((i : Int) + 1).toNat = i + 1 by omega]
  have eS4 : S4 = (decide (0 < i) && ((l[i - 1]?.map (·.tag)) == some t490)) := by
    rw [hS4]
    unfold isAt
    by_cases h : 0 < i
    · rw [decide_eq_true h, decide_eq_true (by omega), show ((i : Int) - 1).toNat = i - 1 by omega]
    · rw [decide_eq_false h, decide_eq_false (by omega)]; rfl
  obtain ⟨R, hR⟩ : ∃ R, R = fitsAt ver l i := ⟨_, rfl⟩
  rw [← hR]
  unfold fitsAt at hR
  rw [hf] at hR
  simp only at hR
  rw [← eS8, Bool.and_assoc (decide (ver = 3)) (decide (0 < i)), ← eS4] at hR
  -- the bytes of the indicators
  obtain ⟨I, hI⟩ : ∃ I, I = lb f.ind := ⟨_, rfl⟩
  have hId : f.ind = I.data.toList := by rw [hI, lb_data]
  have hsz : I.size = 2 := by rw [hI, lb_size, hif]
  have y0 : 0 < I.size := by omega
  have y1 : 1 < I.size := by omega
  have z0 : (0 : Int) < ((I.size : Nat) : Int) := by omega
  have z1 : (1 : Int) < ((I.size : Nat) : Int) := by omega
  have g0 : f.ind[0]? = some I[0] := by rw [hId, List.getElem?_eq_getElem (by rw [len_lst]; exact y0)]; rfl
  have g1 : f.ind[1]? = some I[1] := by rw [hId, List.getElem?_eq_getElem (by rw [len_lst]; exact y1)]; rfl
  rw [g0, g1] at hR
  have x0a : (((I[0].toNat : Nat) : Int) == 32) = (some I[0] == some 32) := byte_beq _ 32
  have x0b : (((I[0].toNat : Nat) : Int) == 49) = (some I[0] == some 49) := byte_beq _ 49
  have x1a : (((I[1].toNat : Nat) : Int) == 32) = (some I[1] == some 32) := byte_beq _ 32
  have x1b : (((I[1].toNat : Nat) : Int) == 49) = (some I[1] == some 49) := byte_beq _ 49
  obtain ⟨A0, hA0⟩ : ∃ A, A = (some I[0] == some 32) := ⟨_, rfl⟩
  obtain ⟨B0, hB0⟩ : ∃ A, A = (some I[0] == some 49) := ⟨_, rfl⟩
  obtain ⟨A1, hA1⟩ : ∃ A, A = (some I[1] == some 32) := ⟨_, rfl⟩
  obtain ⟨B1, hB1⟩ : ∃ A, A = (some I[1] == some 49) := ⟨_, rfl⟩
  rw [← hA0] at x0a hR
  rw [← hB0] at x0b hR
  rw [← hA1] at x1a hR
  rw [← hB1] at x1b hR
  clear hA0 hB0 hA1 hB1 g0 g1
  -- the tag
  have e1 := lb_beq f.tag t260
  have e2 := lb_beq f.tag t264
  have e3 := lb_beq f.tag t440
  have e4 := lb_beq f.tag t490
  have e5 := lb_beq f.tag t830
  rw [lb_list t260] at e1
  rw [lb_list t264] at e2
  rw [lb_list t440] at e3
  rw [lb_list t490] at e4
  rw [lb_list t830] at e5
  obtain ⟨T, hT⟩ : ∃ T, T = lb f.tag := ⟨_, rfl⟩
  rw [← hT] at e1 e2 e3 e4 e5
  rw [← hT, ← hI] at hW2
  -- the field in memory
  obtain ⟨⟨a', c', he, hc, hcells⟩, -⟩ := hv
  cases he
  rcases hcells with h1 | ⟨b, o, rfl, hbl, hcl⟩
  · rw [h1] at hf; cases hf
  obtain ⟨p0, p1, p2, p3⟩ := (four_of (hcl i f hf)).below hb0 hbl
  rw [← hT] at p0
  rw [← hI] at p1
  obtain ⟨au, hau⟩ : ∃ au, au = f.auth := ⟨_, rfl⟩
  obtain ⟨sn, hsn⟩ : ∃ sn, sn = f.subs.length := ⟨_, rfl⟩
  obtain ⟨sa, hsa⟩ : ∃ sa, sa = f.sa := ⟨_, rfl⟩
  obtain ⟨sc, hsc⟩ : ∃ sc, sc = f.sc := ⟨_, rfl⟩
  rw [← hsn, ← hsa, ← hsc] at p2
  rw [← hau] at p3 hR
  rw [← hsn, ← hau, ← hsa, ← hsc] at hW2
  have hiz : (i : Int) < ((l.length : Nat) : Int) := by omega
  obtain ⟨n, hnn⟩ : ∃ n, n = l.length := ⟨_, rfl⟩
  rw [← hnn] at hl hi hiz hn2 r4 his8 his4 hW1 p0 p1 p2 p3 hb0 ⊢
  rw [hW2, hW1] at r0 r1 r2 r3 r4 his8 his4 hb2
  have HB := Lib.hid hb2
  have H8 := Lib.hid his8
  have H4 := Lib.hid his4
  have hau0 : (au == 0) = decide (au = 0) := int_beq au 0
  have hv1 : (ver == 1) = decide (ver = 1) := int_beq ver 1
  have hv3 : (ver == 3) = decide (ver = 3) := int_beq ver 3
  obtain ⟨Z, hZ⟩ : ∃ Z, Z = decide (au = 0) := ⟨_, rfl⟩
  obtain ⟨V1, hV1⟩ : ∃ Z, Z = decide (ver = 1) := ⟨_, rfl⟩
  obtain ⟨V3, hV3⟩ : ∃ Z, Z = decide (ver = 3) := ⟨_, rfl⟩
  rw [← hZ] at hau0 hR
  rw [← hV1] at hv1 hR
  rw [← hV3] at hv3 hR
  clear hb2 his8 his4 hb1 hb0 hW1 hW2 hcl hf hT hI hId hif hsz hau hsn hsa hsc hnn hind hS8 hS4 eS8 eS4 s1 hc hn hZ hV1 hV3 W1 W2
  by_cases a1 : f.tag = t260
  · rw [if_pos a1] at hR
    have b1 : (T.toList == [50, 54, 48]) = true := by rw [a1] at e1; exact e1.trans (by simp)
    clear e1 e2 e3 e4 e5 a1
    cases V1 with
    | false =>
      have HR := Lib.hid hR
      clear hR
      go_enter Tryd.func34, Tryd.ntmps34
      go_wp2
      go_ret
      exact ⟨by rw [HR.out]; rfl, HB.out⟩
    | true =>
      cases A1
      all_goals
        have HR := Lib.hid hR
        clear hR
        go_enter Tryd.func34, Tryd.ntmps34
        go_wp2
        go_ret
        exact ⟨by rw [HR.out]; rfl, HB.out⟩
  rw [if_neg a1] at hR
  have b1 : (T.toList == [50, 54, 48]) = false := e1.trans (by simpa using a1)
  by_cases a2 : f.tag = t264
  · rw [if_pos a2] at hR
    have b2 : (T.toList == [50, 54, 52]) = true := by rw [a2] at e2; exact e2.trans (by simp)
    clear e1 e2 e3 e4 e5 a1 a2
    by_cases g1 : 1 < ver
    · rw [decide_eq_true g1] at hR
      cases B1
      all_goals
        have HR := Lib.hid hR
        clear hR
        go_enter Tryd.func34, Tryd.ntmps34
        go_wp2
        go_ret
        exact ⟨by rw [HR.out]; rfl, HB.out⟩
    · rw [decide_eq_false g1] at hR
      have HR := Lib.hid hR
      have g1' : ver ≤ 1 := by omega
      clear hR g1
      go_enter Tryd.func34, Tryd.ntmps34
      go_wp2
      go_ret
      exact ⟨by rw [HR.out]; rfl, HB.out⟩
  rw [if_neg a2] at hR
  have b2 : (T.toList == [50, 54, 52]) = false := e2.trans (by simpa using a2)
  by_cases a3 : f.tag = t440
  · rw [if_pos a3] at hR
    have b3 : (T.toList == [52, 52, 48]) = true := by rw [a3] at e3; exact e3.trans (by simp)
    clear e1 e2 e3 e4 e5 a1 a2 a3
    by_cases g1 : ver < 3
    · rw [decide_eq_true g1] at hR
      cases A0
      all_goals
        have HR := Lib.hid hR
        clear hR
        go_enter Tryd.func34, Tryd.ntmps34
        go_wp2
        go_ret
        exact ⟨by rw [HR.out]; rfl, HB.out⟩
    · rw [decide_eq_false g1] at hR
      have HR := Lib.hid hR
      have g1' : 3 ≤ ver := by omega
      clear hR g1
      go_enter Tryd.func34, Tryd.ntmps34
      go_wp2
      go_ret
      exact ⟨by rw [HR.out]; rfl, HB.out⟩
  rw [if_neg a3] at hR
  have b3 : (T.toList == [52, 52, 48]) = false := e3.trans (by simpa using a3)
  by_cases a4 : f.tag = t490
  · rw [if_pos a4] at hR
    have b4 : (T.toList == [52, 57, 48]) = true := by rw [a4] at e4; exact e4.trans (by simp)
    clear e1 e2 e3 e4 e5 a1 a2 a3 a4
    cases V3 with
    | false =>
      have HR := Lib.hid hR
      clear hR
      go_enter Tryd.func34, Tryd.ntmps34
      go_wp2
      go_ret
      exact ⟨by rw [HR.out]; rfl, HB.out⟩
    | true =>
      cases B0 with
      | false =>
        have HR := Lib.hid hR
        clear hR
        go_enter Tryd.func34, Tryd.ntmps34
        go_wp2
        go_ret
        exact ⟨by rw [HR.out]; rfl, HB.out⟩
      | true =>
        cases Z with
        | false =>
          have HR := Lib.hid hR
          clear hR
          go_enter Tryd.func34, Tryd.ntmps34
          go_wp2
          go_ret
          exact ⟨by rw [HR.out]; rfl, HB.out⟩
        | true =>
          cases S8
          all_goals
            have HR := Lib.hid hR
            clear hR
            go_enter Tryd.func34, Tryd.ntmps34
            go_wp2_with fail
            refine H8.out.mono ?_
            rintro e w1 ⟨rfl, b1⟩
            have HB1 := Lib.hid (HB.out.bt b1)
            clear b1
            go_wp2
            go_ret
            exact ⟨by rw [HR.out]; rfl, HB1.out⟩
  rw [if_neg a4] at hR
  have b4 : (T.toList == [52, 57, 48]) = false := e4.trans (by simpa using a4)
  by_cases a5 : f.tag = t830
  · rw [if_pos a5] at hR
    have b5 : (T.toList == [56, 51, 48]) = true := by rw [a5] at e5; exact e5.trans (by simp)
    clear e1 e2 e3 e4 e5 a1 a2 a3 a4 a5
    cases V3 with
    | false =>
      have HR := Lib.hid hR
      clear hR
      go_enter Tryd.func34, Tryd.ntmps34
      go_wp2
      go_ret
      exact ⟨by rw [HR.out]; rfl, HB.out⟩
    | true =>
      cases S4
      all_goals
        have HR := Lib.hid hR
        clear hR
        go_enter Tryd.func34, Tryd.ntmps34
        go_wp2_with fail
        refine H4.out.mono ?_
        rintro e w1 ⟨rfl, b1⟩
        have HB1 := Lib.hid (HB.out.bt b1)
        clear b1
        go_wp2
        go_ret
        exact ⟨by rw [HR.out]; rfl, HB1.out⟩
  rw [if_neg a5] at hR
  have b5 : (T.toList == [56, 51, 48]) = false := e5.trans (by simpa using a5)
  have HR := Lib.hid hR
  clear hR a1 a2 a3 a4 a5 e1 e2 e3 e4 e5
  go_enter Tryd.func34, Tryd.ntmps34
  go_wp2
  go_ret
  exact ⟨by rw [HR.out]; rfl, HB.out⟩

set_option maxRecDepth 100000 in
set_option maxHeartbeats 2000000 in
theorem rMRight (r : Rec) (a : Option Addr) (n0 c : Nat) (w : World) (hv : Flds w (.slice a n0 c) r.fields) (hs : r.small) :
    Calls Tryd.prog 12 #[.agg #[.int .i64 r.id, .int .i64 r.ver, .int .i64 r.kind, .string r.lang, .slice a n0 c]] w fun e w' => e = .returned (.bool (rightM r)) ∧ Below w.heap.size w w' := by
  have hb0 : Below w.heap.size w (recW w r.id r.ver r.kind r.lang a n0 c) := (Below.refl _ _).alloc (Nat.le_refl _) _
  have hrr := rRecRight r a n0 c (recW w r.id r.ver r.kind r.lang a n0 c) (hv.below hb0 (Nat.le_refl _)) hs
  have HV : Hid (∀ W, Below (recW w r.id r.ver r.kind r.lang a n0 c).heap.size (recW w r.id r.ver r.kind r.lang a n0 c) W → Flds W (.slice a n0 c) r.fields) := Lib.hid (fun W h => hv.below (hb0.bt h) (Nat.le_refl _))
  have hl := hs.1
  obtain ⟨hn, hn2⟩ := hv.len
  have HB0 := Lib.hid hb0
  clear hb0 hv
  by_cases h0 : recErr r = 0
  · rw [rightM_ok h0]
    rw [h0] at hrr
    obtain ⟨-, -, -, -, -, hfe⟩ := recErr_ok h0
    have hind : ∀ f ∈ r.fields, f.ind.length = 2 := fun f hf => (fldsErr_ind hfe f hf).1
    have HRR := Lib.hid hrr
    clear hrr h0 hfe hs
    obtain ⟨id, ver, kind, lang, l⟩ := r
    simp only at HB0 HRR HV hind hl hn ⊢
    have HF : Hid (∀ (i : Nat) (W : World), Below (recW w id ver kind lang a n0 c).heap.size (recW w id ver kind lang a n0 c) W → i < n0 → Calls Tryd.prog 34 #[.agg #[.int .i64 id, .int .i64 ver, .int .i64 kind, .string lang, .slice a n0 c], .int .i64 (i : Int)] W fun e w' => e = .returned (.bool (fitsAt ver l i)) ∧ Below W.heap.size W w') := Lib.hid (fun i W h hi => rFits id ver kind lang l a n0 c i W (HV.out W h) hl (by omega) hind)
    obtain ⟨R, hR⟩ : ∃ R, R = conforms ver l := ⟨_, rfl⟩
    rw [← hR]
    have HR : Hid (R = (List.range n0).all (fitsAt ver l)) := Lib.hid (by rw [hR, hn]; rfl)
    have hn0 : n0 ≤ 1000000 := by omega
    have CELLS : ∀ W, Below (recW w id ver kind lang a n0 c).heap.size (recW w id ver kind lang a n0 c) W → W.cell? ⟨w.heap.size, 0, none⟩ = some (.int .i64 id) ∧ W.cell? ⟨w.heap.size, 1, none⟩ = some (.int .i64 ver) ∧ W.cell? ⟨w.heap.size, 2, none⟩ = some (.int .i64 kind) ∧ W.cell? ⟨w.heap.size, 3, none⟩ = some (.string lang) ∧ W.cell? ⟨w.heap.size, 4, none⟩ = some (.slice a n0 c) :=
      fun W h => ⟨block_cells h 0 _ rfl, block_cells h 1 _ rfl, block_cells h 2 _ rfl, block_cells h 3 _ rfl, block_cells h 4 _ rfl⟩
    have HCL := Lib.hid CELLS
    clear CELLS hR hind HV hl hn
    go_enter Tryd.func12, Tryd.ntmps12
    go_wp2_with fail
    refine HRR.out.mono ?_
    rintro e w1 ⟨rfl, b1⟩
    have HB1 := Lib.hid b1
    clear b1
    go_wp2
    go_loopw [3] (fun vk wr => ∃ k : Nat, vk = .int .i64 k ∧ k ≤ n0 ∧ Hid (∀ j, j < k → fitsAt ver l j = true) ∧ Hid (Below (recW w id ver kind lang a n0 c).heap.size (recW w id ver kind lang a n0 c) wr)) (fun vk _ => n0 - (intOf vk).toNat)
    case atStart => exact ⟨0, rfl, by omega, Lib.hid (fun j h => absurd h (Nat.not_lt_zero _)), HB1⟩
    case round =>
      obtain ⟨k, rfl, hk, HK, HB⟩ := hrel
      obtain ⟨q0, q1, q2, q3, q4⟩ := HCL.out wr HB.out
      by_cases hlt : k < n0
      · have hltz : (k : Int) < (n0 : Int) := by omega
        have hcall := HF.out k wr HB.out hlt
        obtain ⟨B, hB⟩ : ∃ B, B = fitsAt ver l k := ⟨_, rfl⟩
        rw [← hB] at hcall
        have HCALL := Lib.hid hcall
        have HBB := Lib.hid hB
        clear hcall hB
        cases B with
        | false =>
          have HT : Hid (R = false) := Lib.hid (by
            rw [HR.out]
            exact List.all_eq_false.2 ⟨k, List.mem_range.2 hlt, by rw [← HBB.out]; simp⟩)
          clear HR HK
          go_wp2_with fail
          refine HCALL.out.mono ?_
          rintro e w2 ⟨rfl, b2⟩
          have HB2 := Lib.hid (HB.out.bt b2)
          clear b2
          go_wp2
          go_ret
          exact ⟨by rw [HT.out]; rfl, HB0.out.bt HB2.out⟩
        | true =>
          have HT : Hid (∀ j, j < k + 1 → fitsAt ver l j = true) := Lib.hid (fun j h => by
            by_cases e : j = k
            · rw [e]; exact HBB.out.symm
            · exact HK.out j (by omega))
          clear HR HK
          go_wp2_with fail
          refine HCALL.out.mono ?_
          rintro e w2 ⟨rfl, b2⟩
          have HB2 := Lib.hid (HB.out.bt b2)
          clear b2
          go_wp2
          go_roundw
          case rel => exact ⟨k + 1, by go_num, by omega, HT, HB2⟩
          case measure => simp [intOf]; omega
      · have hltz : ¬ (k : Int) < (n0 : Int) := by omega
        have HT : Hid (R = true) := Lib.hid (by
          rw [HR.out]
          exact List.all_eq_true.2 (fun j h => HK.out j (by have := List.mem_range.1 h; omega)))
        clear HR HK
        go_wp2
        go_ret
        exact ⟨by rw [HT.out]; rfl, HB0.out.bt HB.out⟩
  · rw [rightM_bad h0]
    obtain ⟨x, hx⟩ : ∃ x, x = recErr r := ⟨_, rfl⟩
    rw [← hx] at hrr h0
    have hz : (x != 0) = true := by simpa using h0
    have HRR := Lib.hid hrr
    clear hrr hx h0 HV hs hn
    go_enter Tryd.func12, Tryd.ntmps12
    go_wp2_with fail
    refine HRR.out.mono ?_
    rintro e w1 ⟨rfl, b1⟩
    have HB1 := Lib.hid (HB0.out.bt b1)
    clear b1
    go_wp2
    go_ret
    exact ⟨rfl, HB1.out⟩
end Go.Proofs.YtimecccphbgdeaaDoor
