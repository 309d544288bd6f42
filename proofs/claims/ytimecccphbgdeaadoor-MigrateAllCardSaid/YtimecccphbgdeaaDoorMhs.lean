/- The walks of slices.Index, Contains at strings, IndexFunc, ContainsFunc at fields, has, indicated and their closures (layer 18). -/
import Derived.Test.YtimecccphbgdeaaDoorMrr
namespace Go.Proofs.YtimecccphbgdeaaDoor
open Go Go.RowKit

theorem lb_beq (a b : List UInt8) : ((lb a).toList == (lb b).toList) = (a == b) := by rw [lb_list, lb_list]
theorem contains_step {ts : List (List UInt8)} {k : Nat} {x t : List UInt8} (h : ts[k]? = some x) : (ts.drop k).contains t = ((t == x) || (ts.drop (k + 1)).contains t) := by
  rw [drop_step h, List.contains_cons]
theorem any_step {α : Type} {q : α → Bool} {l : List α} {k : Nat} {x : α} (h : l[k]? = some x) : (l.drop k).any q = (q x || (l.drop (k + 1)).any q) := by
  rw [drop_step h, List.any_cons]

set_option maxRecDepth 100000 in
set_option maxHeartbeats 1000000 in
theorem sIndexT (v : Value) (ts : List (List UInt8)) (t : List UInt8) (w : World) (hv : Strs w v (ts.map lb)) (hl : ts.length ≤ 1000000) :
    Calls Tryd.prog 61 #[v, .string (lb t)] w fun e w' => ∃ i : Int, e = .returned (.int .i64 i) ∧ decide (0 ≤ i) = ts.contains t ∧ w' = w := by
  obtain ⟨pa, pc, rfl, hpc, hcells⟩ := hv
  obtain ⟨R, hR⟩ : ∃ R, R = ts.contains t := ⟨_, rfl⟩
  rw [← hR]
  obtain ⟨n, hnn⟩ : ∃ n, n = ts.length := ⟨_, rfl⟩
  rw [List.length_map, ← hnn] at hpc
  rw [List.length_map, ← hnn]
  rw [← hnn] at hl
  obtain ⟨T, hT⟩ : ∃ T, T = lb t := ⟨_, rfl⟩
  rw [← hT]
  have HT := Lib.hid hT
  have HN := Lib.hid hnn
  have HC := Lib.hid hcells
  have HR := Lib.hid hR
  clear hnn hcells hR hT
  go_enter Tryd.func61, Tryd.ntmps61
  go_wp2
  go_loop [8] (fun vk => ∃ k : Nat, vk = .int .i64 k ∧ k ≤ n ∧ Hid (R = (ts.drop k).contains t)) (fun vk => n - (intOf vk).toNat)
  case atStart => exact ⟨0, rfl, by omega, Lib.hid (by rw [HR.out, List.drop_zero])⟩
  case round =>
    obtain ⟨k, rfl, hk, HK⟩ := hrel
    by_cases hlt : k < n
    · have hltz : (k : Int) < (n : Int) := by omega
      obtain ⟨x, hx⟩ : ∃ x, ts[k]? = some x := ⟨_, List.getElem?_eq_getElem (by have := HN.out; omega)⟩
      rcases HC.out with h0 | ⟨b, o, rfl, hbl, hcl⟩
      · have : ts = [] := by simpa using h0
        rw [this] at hx; cases hx
      have hcell := hcl k (lb x) (by rw [List.getElem?_map, hx]; rfl)
      have hcell0 : k = 0 → w.cell? ⟨b, o, none⟩ = some (.string (lb x)) := fun h => by subst h; simpa using hcell
      have hst := HK.out
      rw [contains_step hx] at hst
      have hbe := lb_beq t x
      rw [← HT.out] at hbe
      obtain ⟨X, hX⟩ : ∃ X, X = lb x := ⟨_, rfl⟩
      rw [← hX] at hcell hcell0 hbe
      obtain ⟨B, hB⟩ : ∃ B, B = (t == x) := ⟨_, rfl⟩
      rw [← hB] at hst hbe
      clear hcl hx HK hX hB HR
      cases B with
      | true =>
        have HF : Hid (R = true) := Lib.hid (by rw [hst]; rfl)
        clear hst
        go_wp2
        go_ret
        exact ⟨(k : Int), rfl, by rw [HF.out]; exact decide_eq_true (by omega), rfl⟩
      | false =>
        have HF : Hid (R = (ts.drop (k + 1)).contains t) := Lib.hid (by rw [hst]; rfl)
        clear hst
        go_wp2
        go_round
        case rel => exact ⟨k + 1, by go_num, by omega, HF⟩
        case measure => simp [intOf]; omega
    · have hltz : ¬ (k : Int) < (n : Int) := by omega
      have HF : Hid (R = false) := Lib.hid (by rw [HK.out, List.drop_eq_nil_of_le (by have := HN.out; omega)]; rfl)
      clear HK HR
      go_wp2
      go_ret
      exact ⟨-1, rfl, by rw [HF.out]; rfl, rfl⟩
set_option maxRecDepth 100000 in
set_option maxHeartbeats 1000000 in
theorem sContainsT (v : Value) (ts : List (List UInt8)) (t : List UInt8) (w : World) (hv : Strs w v (ts.map lb)) (hl : ts.length ≤ 1000000) :
    Calls Tryd.prog 45 #[v, .string (lb t)] w fun e w' => e = .returned (.bool (ts.contains t)) ∧ w' = w := by
  have hi := sIndexT v ts t w hv hl
  obtain ⟨pa, pc, rfl, hpc, -⟩ := hv
  rw [List.length_map] at hpc hi ⊢
  obtain ⟨n, hnn⟩ : ∃ n, n = ts.length := ⟨_, rfl⟩
  rw [← hnn] at hpc hi ⊢
  clear hnn
  obtain ⟨R, hR⟩ : ∃ R, R = ts.contains t := ⟨_, rfl⟩
  rw [← hR] at hi ⊢
  obtain ⟨T, hT⟩ : ∃ T, T = lb t := ⟨_, rfl⟩
  rw [← hT] at hi ⊢
  have HI := Lib.hid hi
  clear hi hR hT
  go_enter Tryd.func45, Tryd.ntmps45
  go_wp2_with fail
  refine HI.out.mono ?_
  rintro e w1 ⟨i, rfl, hd, rfl⟩
  have HD := Lib.hid hd
  clear hd
  go_wp2
  go_ret
  exact ⟨retb HD.out, rfl⟩

/-- A field's value as an argument. -/
def fldV (f : Fld) : Value := .agg #[.string (lb f.tag), .string (lb f.ind), .slice f.sa f.subs.length f.sc, .int .i64 f.auth]

set_option maxRecDepth 100000 in
set_option maxHeartbeats 1000000 in
theorem cHas (f : Fld) (ts : List (List UInt8)) (v : Value) (cl : Nat) (w : World) (hc : w.cell? ⟨cl, 0, none⟩ = some v) (hv : Strs w v (ts.map lb)) (hl : ts.length ≤ 1000000) :
    Calls Tryd.prog 44 #[fldV f, .pointer (some ⟨cl, 0, none⟩)] w fun e w' => e = .returned (.bool (ts.contains f.tag)) ∧ Below w.heap.size w w' := by
  unfold fldV
  have hlt := lt_of_cell hc
  have hb : Below w.heap.size w (fldW w (lb f.tag) (lb f.ind) f.sa f.subs.length f.sc f.auth) := (Below.refl _ _).alloc (Nat.le_refl _) _
  have hc2 : (fldW w (lb f.tag) (lb f.ind) f.sa f.subs.length f.sc f.auth).cell? ⟨cl, 0, none⟩ = some v := (hb.cell (p := ⟨cl, 0, none⟩) hlt).trans hc
  have hs := sContainsT v ts f.tag (fldW w (lb f.tag) (lb f.ind) f.sa f.subs.length f.sc f.auth) (hv.below hb (Nat.le_refl _)) hl
  obtain ⟨pa, pc, rfl, hpc, -⟩ := hv
  rw [List.length_map] at hpc hs hc2
  obtain ⟨n, hnn⟩ : ∃ n, n = ts.length := ⟨_, rfl⟩
  rw [← hnn] at hpc hs hc2
  clear hnn
  obtain ⟨R, hR⟩ : ∃ R, R = ts.contains f.tag := ⟨_, rfl⟩
  rw [← hR] at hs ⊢
  obtain ⟨T, hT⟩ : ∃ T, T = lb f.tag := ⟨_, rfl⟩
  obtain ⟨I, hI⟩ : ∃ I, I = lb f.ind := ⟨_, rfl⟩
  obtain ⟨sn, hsn⟩ : ∃ sn, sn = f.subs.length := ⟨_, rfl⟩
  rw [← hT, ← hI, ← hsn] at hs hb hc2 ⊢
  have HS := Lib.hid hs
  have HB := Lib.hid hb
  clear hs hb hc hR hT hI hsn
  go_enter Tryd.func44, Tryd.ntmps44
  go_wp2_with fail
  refine HS.out.mono ?_
  rintro e w1 ⟨rfl, rfl⟩
  go_wp2
  go_ret
  exact ⟨rfl, HB.out⟩

def indQ (t : List UInt8) (i : Nat) (b : UInt8) (f : Fld) : Bool := f.tag == t && !(f.ind[i]? == some b)
set_option maxRecDepth 100000 in
set_option maxHeartbeats 1000000 in
theorem cIndicated (f : Fld) (t : List UInt8) (i : Nat) (b : UInt8) (c0 c1 c2 : Nat) (w : World) (h0 : w.cell? ⟨c0, 0, none⟩ = some (.string (lb t))) (h1 : w.cell? ⟨c1, 0, none⟩ = some (.int .i64 (i : Int))) (h2 : w.cell? ⟨c2, 0, none⟩ = some (.int .u8 ((b.toNat : Nat) : Int))) (hi : i < 2) (hf : f.ind.length = 2) :
    Calls Tryd.prog 46 #[fldV f, .pointer (some ⟨c0, 0, none⟩), .pointer (some ⟨c1, 0, none⟩), .pointer (some ⟨c2, 0, none⟩)] w fun e w' => e = .returned (.bool (indQ t i b f)) ∧ Below w.heap.size w w' := by
  unfold fldV
  have hb : Below w.heap.size w (fldW w (lb f.tag) (lb f.ind) f.sa f.subs.length f.sc f.auth) := (Below.refl _ _).alloc (Nat.le_refl _) _
  have g0 : (fldW w (lb f.tag) (lb f.ind) f.sa f.subs.length f.sc f.auth).cell? ⟨c0, 0, none⟩ = some (.string (lb t)) := (hb.cell (p := ⟨c0, 0, none⟩) (lt_of_cell h0)).trans h0
  have g1 : (fldW w (lb f.tag) (lb f.ind) f.sa f.subs.length f.sc f.auth).cell? ⟨c1, 0, none⟩ = some (.int .i64 (i : Int)) := (hb.cell (p := ⟨c1, 0, none⟩) (lt_of_cell h1)).trans h1
  have g2 : (fldW w (lb f.tag) (lb f.ind) f.sa f.subs.length f.sc f.auth).cell? ⟨c2, 0, none⟩ = some (.int .u8 ((b.toNat : Nat) : Int)) := (hb.cell (p := ⟨c2, 0, none⟩) (lt_of_cell h2)).trans h2
  have hq : indQ t i b f = ((f.tag == t) && !(f.ind[i]? == some b)) := rfl
  obtain ⟨R, hR⟩ : ∃ R, R = indQ t i b f := ⟨_, rfl⟩
  rw [← hR] at hq ⊢
  have hbe := lb_beq f.tag t
  obtain ⟨I, hI⟩ : ∃ I, I = lb f.ind := ⟨_, rfl⟩
  have hId : f.ind = I.data.toList := by rw [hI, lb_data]
  have hsz : I.size = 2 := by rw [hI, lb_size, hf]
  have hii : i < I.size := by omega
  have hiz : (i : Int) < ((I.size : Nat) : Int) := by omega
  have hget : f.ind[i]? = some I[i] := by
    rw [hId, List.getElem?_eq_getElem (by rw [len_lst]; exact hii)]; rfl
  rw [hget] at hq
  have hne : (((I[i].toNat : Nat) : Int) != ((b.toNat : Nat) : Int)) = !(some I[i] == some b) := by
    rw [Bool.eq_iff_iff]
    simp only [bne_iff_ne, ne_eq, Bool.not_eq_true', beq_eq_false_iff_ne, Option.some.injEq]
    constructor
    · intro h e; exact h (by rw [e])
    · intro h e; exact h (UInt8.toNat_inj.1 (by omega))
  obtain ⟨D, hD⟩ : ∃ D, D = !(some I[i] == some b) := ⟨_, rfl⟩
  obtain ⟨E, hEE⟩ : ∃ E, E = (f.tag == t) := ⟨_, rfl⟩
  rw [← hD] at hq hne
  rw [← hEE] at hq hbe
  rw [← hI] at hb g0 g1 g2 ⊢
  obtain ⟨T, hT⟩ : ∃ T, T = lb f.tag := ⟨_, rfl⟩
  obtain ⟨T2, hT2⟩ : ∃ T, T = lb t := ⟨_, rfl⟩
  obtain ⟨sn, hsn⟩ : ∃ sn, sn = f.subs.length := ⟨_, rfl⟩
  rw [← hT, ← hT2] at hbe
  rw [← hT, ← hsn] at hb g0 g1 g2 ⊢
  rw [← hT2] at g0
  have HB := Lib.hid hb
  have HDR : Hid (∀ q, Below w.heap.size w ((fldW w T I f.sa sn f.sc f.auth).drewN q)) := Lib.hid (fun q => hb.trans (Dr.below ⟨q, rfl⟩ _))
  have HQ := Lib.hid hq
  clear hb h0 h1 h2 hR hT hI hsn hD hEE hT2 hget hId hf hq hsz
  cases E with
  | false =>
    clear hne
    go_enter Tryd.func46, Tryd.ntmps46
    go_wp2_with fail
    go_quiet (fail)
    go_wp2
    go_ret
    exact ⟨by rw [HQ.out]; rfl, HDR.out _⟩
  | true =>
    cases D
    all_goals
      go_enter Tryd.func46, Tryd.ntmps46
      go_wp2_with fail
      go_quiet (fail)
      go_wp2
      go_ret
      exact ⟨by rw [HQ.out]; rfl, HDR.out _⟩

set_option maxRecDepth 100000 in
set_option maxHeartbeats 2000000 in
theorem fIndexH (v : Value) (l : List Fld) (q : Fld → Bool) (cl : Nat) (w : World) (hv : Flds w v l) (hl : l.length ≤ 1000000)
    (hcall : ∀ W, Below w.heap.size w W → ∀ f ∈ l, Calls Tryd.prog 44 #[fldV f, .pointer (some ⟨cl, 0, none⟩)] W fun e w' => e = .returned (.bool (q f)) ∧ Below W.heap.size W w') :
    Calls Tryd.prog 60 #[v, .func (.func 44) #[] #[.pointer (some ⟨cl, 0, none⟩)]] w fun e w' => ∃ i : Int, e = .returned (.int .i64 i) ∧ decide (0 ≤ i) = l.any q ∧ Below w.heap.size w w' := by
  obtain ⟨⟨pa, pc, rfl, hpc, hcells⟩, -⟩ := hv
  obtain ⟨R, hR⟩ : ∃ R, R = l.any q := ⟨_, rfl⟩
  rw [← hR]
  obtain ⟨n, hnn⟩ : ∃ n, n = l.length := ⟨_, rfl⟩
  rw [← hnn] at hl hpc ⊢
  have HN := Lib.hid hnn
  have HC := Lib.hid hcells
  have HR := Lib.hid hR
  have HX := Lib.hid hcall
  clear hnn hcells hR hcall
  go_enter Tryd.func60, Tryd.ntmps60
  go_wp2
  go_loopw [8] (fun vk wr => ∃ k : Nat, vk = .int .i64 k ∧ k ≤ n ∧ Hid (R = (l.drop k).any q) ∧ Hid (Below w.heap.size w wr)) (fun vk _ => n - (intOf vk).toNat)
  case atStart => exact ⟨0, rfl, by omega, Lib.hid (by rw [HR.out, List.drop_zero]), Lib.hid (Below.refl _ _)⟩
  case round =>
    obtain ⟨k, rfl, hk, HK, HB⟩ := hrel
    by_cases hlt : k < n
    · have hltz : (k : Int) < (n : Int) := by omega
      obtain ⟨f, hf⟩ : ∃ f, l[k]? = some f := ⟨_, List.getElem?_eq_getElem (by have := HN.out; omega)⟩
      rcases HC.out with h0 | ⟨b, o, rfl, hbl, hcl⟩
      · rw [h0] at hf; cases hf
      have hst := HK.out
      rw [any_step hf] at hst
      obtain ⟨p0, p1, p2, p3⟩ := (four_of (hcl k f hf)).below HB.out hbl
      have hcall := HX.out wr HB.out f (List.mem_of_getElem? hf)
      unfold fldV at hcall
      obtain ⟨B, hB⟩ : ∃ B, B = q f := ⟨_, rfl⟩
      rw [← hB] at hst hcall
      obtain ⟨T, hT⟩ : ∃ T, T = lb f.tag := ⟨_, rfl⟩
      obtain ⟨I, hI⟩ : ∃ I, I = lb f.ind := ⟨_, rfl⟩
      obtain ⟨sn, hsn⟩ : ∃ sn, sn = f.subs.length := ⟨_, rfl⟩
      rw [← hT] at p0 hcall
      rw [← hI] at p1 hcall
      rw [← hsn] at p2 hcall
      have HCALL := Lib.hid hcall
      have HST := Lib.hid hst
      clear HK hcl hf hcall hst hB hT hI hsn HR
      go_wp2_with fail
      refine HCALL.out.mono ?_
      rintro e w2 ⟨rfl, b2⟩
      have HB2 : Hid (Below w.heap.size w w2) := Lib.hid (HB.out.trans (b2.mono HB.out.size))
      clear b2 HCALL
      cases B with
      | true =>
        have HF : Hid (R = true) := Lib.hid (by rw [HST.out]; rfl)
        clear HST
        go_wp2
        go_ret
        exact ⟨(k : Int), rfl, by rw [HF.out]; exact decide_eq_true (by omega), HB2.out⟩
      | false =>
        have HF : Hid (R = (l.drop (k + 1)).any q) := Lib.hid (by rw [HST.out]; rfl)
        clear HST
        go_wp2
        go_roundw
        case rel => exact ⟨k + 1, by go_num, by omega, HF, HB2⟩
        case measure => simp [intOf]; omega
    · have hltz : ¬ (k : Int) < (n : Int) := by omega
      have HF : Hid (R = false) := Lib.hid (by rw [HK.out, List.drop_eq_nil_of_le (by have := HN.out; omega)]; rfl)
      clear HK HR
      go_wp2
      go_ret
      exact ⟨-1, rfl, by rw [HF.out]; rfl, HB.out⟩
set_option maxRecDepth 100000 in
set_option maxHeartbeats 1000000 in
theorem fContainsH (v : Value) (l : List Fld) (q : Fld → Bool) (cl : Nat) (w : World) (hv : Flds w v l) (hl : l.length ≤ 1000000)
    (hcall : ∀ W, Below w.heap.size w W → ∀ f ∈ l, Calls Tryd.prog 44 #[fldV f, .pointer (some ⟨cl, 0, none⟩)] W fun e w' => e = .returned (.bool (q f)) ∧ Below W.heap.size W w') :
    Calls Tryd.prog 43 #[v, .func (.func 44) #[] #[.pointer (some ⟨cl, 0, none⟩)]] w fun e w' => e = .returned (.bool (l.any q)) ∧ Below w.heap.size w w' := by
  have hi := fIndexH v l q cl w hv hl hcall
  obtain ⟨⟨pa, pc, rfl, hpc, -⟩, -⟩ := hv
  obtain ⟨R, hR⟩ : ∃ R, R = l.any q := ⟨_, rfl⟩
  rw [← hR] at hi ⊢
  have HI := Lib.hid hi
  clear hi hR hcall
  go_enter Tryd.func43, Tryd.ntmps43
  go_wp2_with fail
  refine HI.out.mono ?_
  rintro e w1 ⟨i, rfl, hd, b1⟩
  have HD := Lib.hid hd
  clear hd
  go_wp2
  go_ret
  exact ⟨retb HD.out, b1⟩

set_option maxRecDepth 100000 in
set_option maxHeartbeats 2000000 in
theorem fIndexI (v : Value) (l : List Fld) (q : Fld → Bool) (c0 c1 c2 : Nat) (w : World) (hv : Flds w v l) (hl : l.length ≤ 1000000)
    (hcall : ∀ W, Below w.heap.size w W → ∀ f ∈ l, Calls Tryd.prog 46 #[fldV f, .pointer (some ⟨c0, 0, none⟩), .pointer (some ⟨c1, 0, none⟩), .pointer (some ⟨c2, 0, none⟩)] W fun e w' => e = .returned (.bool (q f)) ∧ Below W.heap.size W w') :
    Calls Tryd.prog 60 #[v, .func (.func 46) #[] #[.pointer (some ⟨c0, 0, none⟩), .pointer (some ⟨c1, 0, none⟩), .pointer (some ⟨c2, 0, none⟩)]] w fun e w' => ∃ i : Int, e = .returned (.int .i64 i) ∧ decide (0 ≤ i) = l.any q ∧ Below w.heap.size w w' := by
  obtain ⟨⟨pa, pc, rfl, hpc, hcells⟩, -⟩ := hv
  obtain ⟨R, hR⟩ : ∃ R, R = l.any q := ⟨_, rfl⟩
  rw [← hR]
  obtain ⟨n, hnn⟩ : ∃ n, n = l.length := ⟨_, rfl⟩
  rw [← hnn] at hl hpc ⊢
  have HN := Lib.hid hnn
  have HC := Lib.hid hcells
  have HR := Lib.hid hR
  have HX := Lib.hid hcall
  clear hnn hcells hR hcall
  go_enter Tryd.func60, Tryd.ntmps60
  go_wp2
  go_loopw [8] (fun vk wr => ∃ k : Nat, vk = .int .i64 k ∧ k ≤ n ∧ Hid (R = (l.drop k).any q) ∧ Hid (Below w.heap.size w wr)) (fun vk _ => n - (intOf vk).toNat)
  case atStart => exact ⟨0, rfl, by omega, Lib.hid (by rw [HR.out, List.drop_zero]), Lib.hid (Below.refl _ _)⟩
  case round =>
    obtain ⟨k, rfl, hk, HK, HB⟩ := hrel
    by_cases hlt : k < n
    · have hltz : (k : Int) < (n : Int) := by omega
      obtain ⟨f, hf⟩ : ∃ f, l[k]? = some f := ⟨_, List.getElem?_eq_getElem (by have := HN.out; omega)⟩
      rcases HC.out with h0 | ⟨b, o, rfl, hbl, hcl⟩
      · rw [h0] at hf; cases hf
      have hst := HK.out
      rw [any_step hf] at hst
      obtain ⟨p0, p1, p2, p3⟩ := (four_of (hcl k f hf)).below HB.out hbl
      have hcall := HX.out wr HB.out f (List.mem_of_getElem? hf)
      unfold fldV at hcall
      obtain ⟨B, hB⟩ : ∃ B, B = q f := ⟨_, rfl⟩
      rw [← hB] at hst hcall
      obtain ⟨T, hT⟩ : ∃ T, T = lb f.tag := ⟨_, rfl⟩
      obtain ⟨I, hI⟩ : ∃ I, I = lb f.ind := ⟨_, rfl⟩
      obtain ⟨sn, hsn⟩ : ∃ sn, sn = f.subs.length := ⟨_, rfl⟩
      rw [← hT] at p0 hcall
      rw [← hI] at p1 hcall
      rw [← hsn] at p2 hcall
      have HCALL := Lib.hid hcall
      have HST := Lib.hid hst
      clear HK hcl hf hcall hst hB hT hI hsn HR
      go_wp2_with fail
      refine HCALL.out.mono ?_
      rintro e w2 ⟨rfl, b2⟩
      have HB2 : Hid (Below w.heap.size w w2) := Lib.hid (HB.out.trans (b2.mono HB.out.size))
      clear b2 HCALL
      cases B with
      | true =>
        have HF : Hid (R = true) := Lib.hid (by rw [HST.out]; rfl)
        clear HST
        go_wp2
        go_ret
        exact ⟨(k : Int), rfl, by rw [HF.out]; exact decide_eq_true (by omega), HB2.out⟩
      | false =>
        have HF : Hid (R = (l.drop (k + 1)).any q) := Lib.hid (by rw [HST.out]; rfl)
        clear HST
        go_wp2
        go_roundw
        case rel => exact ⟨k + 1, by go_num, by omega, HF, HB2⟩
        case measure => simp [intOf]; omega
    · have hltz : ¬ (k : Int) < (n : Int) := by omega
      have HF : Hid (R = false) := Lib.hid (by rw [HK.out, List.drop_eq_nil_of_le (by have := HN.out; omega)]; rfl)
      clear HK HR
      go_wp2
      go_ret
      exact ⟨-1, rfl, by rw [HF.out]; rfl, HB.out⟩
set_option maxRecDepth 100000 in
set_option maxHeartbeats 1000000 in
theorem fContainsI (v : Value) (l : List Fld) (q : Fld → Bool) (c0 c1 c2 : Nat) (w : World) (hv : Flds w v l) (hl : l.length ≤ 1000000)
    (hcall : ∀ W, Below w.heap.size w W → ∀ f ∈ l, Calls Tryd.prog 46 #[fldV f, .pointer (some ⟨c0, 0, none⟩), .pointer (some ⟨c1, 0, none⟩), .pointer (some ⟨c2, 0, none⟩)] W fun e w' => e = .returned (.bool (q f)) ∧ Below W.heap.size W w') :
    Calls Tryd.prog 43 #[v, .func (.func 46) #[] #[.pointer (some ⟨c0, 0, none⟩), .pointer (some ⟨c1, 0, none⟩), .pointer (some ⟨c2, 0, none⟩)]] w fun e w' => e = .returned (.bool (l.any q)) ∧ Below w.heap.size w w' := by
  have hi := fIndexI v l q c0 c1 c2 w hv hl hcall
  obtain ⟨⟨pa, pc, rfl, hpc, -⟩, -⟩ := hv
  obtain ⟨R, hR⟩ : ∃ R, R = l.any q := ⟨_, rfl⟩
  rw [← hR] at hi ⊢
  have HI := Lib.hid hi
  clear hi hR hcall
  go_enter Tryd.func43, Tryd.ntmps43
  go_wp2_with fail
  refine HI.out.mono ?_
  rintro e w1 ⟨i, rfl, hd, b1⟩
  have HD := Lib.hid hd
  clear hd
  go_wp2
  go_ret
  exact ⟨retb HD.out, b1⟩
end Go.Proofs.YtimecccphbgdeaaDoor
