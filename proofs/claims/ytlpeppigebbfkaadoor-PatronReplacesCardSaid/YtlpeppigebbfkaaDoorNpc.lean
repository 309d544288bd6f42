/- The walks of the program's place, of its closures and of IndexFunc at patrons (layer 28). -/
import Derived.Test.YtlpeppigebbfkaaDoorNix
namespace Go.Proofs.YtlpeppigebbfkaaDoor
open Go Go.RowKit

theorem cell_lt {w : World} {a : Addr} {v : Value} (h : w.cell? a = some v) : a.block < w.heap.size := by
  unfold World.cell? at h
  split at h
  · rename_i c t f hb
    exact (Array.getElem?_eq_some_iff.1 hb).1
  · cases h
/-- What IndexFunc returns. -/
def idx64 (q : Pat → Bool) (l : List Pat) : Int := match l.findIdx? q with | some i => (i : Int) | none => -1
def idxFrom (q : Pat → Bool) (l : List Pat) (k : Nat) : Int := match (l.drop k).findIdx? q with | some i => ((k + i : Nat) : Int) | none => -1
theorem idxFrom_zero (q : Pat → Bool) (l : List Pat) : idxFrom q l 0 = idx64 q l := by
  unfold idxFrom idx64
  rw [List.drop_zero]
  split <;> simp
theorem idxFrom_step (q : Pat → Bool) (l : List Pat) (k : Nat) (p : Pat) (h : l[k]? = some p) : idxFrom q l k = if q p = true then (k : Int) else idxFrom q l (k + 1) := by
  have hd : l.drop k = p :: l.drop (k + 1) := by
    obtain ⟨h', rfl⟩ := List.getElem?_eq_some_iff.1 h
    exact List.drop_eq_getElem_cons h'
  unfold idxFrom
  rw [hd, List.findIdx?_cons]
  cases q p with
  | true => simp
  | false =>
    rw [if_neg (by simp), if_neg (by simp)]
    cases (l.drop (k + 1)).findIdx? q with
    | none => rfl
    | some i => simp; omega
theorem idxFrom_end (q : Pat → Bool) (l : List Pat) (k : Nat) (h : l.length ≤ k) : idxFrom q l k = -1 := by
  unfold idxFrom
  rw [List.drop_eq_nil_of_le h]
  rfl
def isId (x : Int) (p : Pat) : Bool := p.id == x
def isOver (x : Int) (p : Pat) : Bool := decide (x < p.id)

set_option maxRecDepth 100000 in
set_option maxHeartbeats 2000000 in
theorem cPlace (p : Pat) (x : Int) (cl : Nat) (w : World) (hc : w.cell? ⟨cl, 0, none⟩ = some (.int .i64 x)) :
    Calls Tryd.prog 53 #[.agg #[.int .i64 p.id, .int .i64 p.kind, .int .i64 p.branch, .int .i64 p.till, .bool p.stop, .string p.name], .pointer (some ⟨cl, 0, none⟩)] w fun e w' => e = .returned (.bool (isId x p)) ∧ Below w.heap.size w w' := by
  obtain ⟨id, kind, branch, till, stop, name⟩ := p
  simp only
  have hb : Below w.heap.size w (w.alloc (.cells #[.int .i64 id, .int .i64 kind, .int .i64 branch, .int .i64 till, .bool stop, .string name] 28)) := (Below.refl _ _).alloc (Nat.le_refl _) _
  have hlt := cell_lt hc
  have hc2 : (w.alloc (.cells #[.int .i64 id, .int .i64 kind, .int .i64 branch, .int .i64 till, .bool stop, .string name] 28)).cell? ⟨cl, 0, none⟩ = some (.int .i64 x) := (hb.cell (p := ⟨cl, 0, none⟩) hlt).trans hc
  clear hc
  go_enter Tryd.func53, Tryd.ntmps53
  go_wp2
  go_ret
  exact ⟨rfl, hb⟩

set_option maxRecDepth 100000 in
set_option maxHeartbeats 2000000 in
theorem cOver (p : Pat) (x : Int) (cl : Nat) (w : World) (hc : w.cell? ⟨cl, 0, none⟩ = some (.int .i64 x)) :
    Calls Tryd.prog 35 #[.agg #[.int .i64 p.id, .int .i64 p.kind, .int .i64 p.branch, .int .i64 p.till, .bool p.stop, .string p.name], .pointer (some ⟨cl, 0, none⟩)] w fun e w' => e = .returned (.bool (isOver x p)) ∧ Below w.heap.size w w' := by
  obtain ⟨id, kind, branch, till, stop, name⟩ := p
  simp only
  have hb : Below w.heap.size w (w.alloc (.cells #[.int .i64 id, .int .i64 kind, .int .i64 branch, .int .i64 till, .bool stop, .string name] 28)) := (Below.refl _ _).alloc (Nat.le_refl _) _
  have hlt := cell_lt hc
  have hc2 : (w.alloc (.cells #[.int .i64 id, .int .i64 kind, .int .i64 branch, .int .i64 till, .bool stop, .string name] 28)).cell? ⟨cl, 0, none⟩ = some (.int .i64 x) := (hb.cell (p := ⟨cl, 0, none⟩) hlt).trans hc
  clear hc
  go_enter Tryd.func35, Tryd.ntmps35
  go_wp2
  go_ret
  exact ⟨rfl, hb⟩

set_option maxRecDepth 100000 in
set_option maxHeartbeats 2000000 in
theorem pIndexId (v : Value) (l : List Pat) (x : Int) (cl : Nat) (w : World) (hv : Pats w v l) (hl : l.length ≤ 1000000) (hc : w.cell? ⟨cl, 0, none⟩ = some (.int .i64 x)) :
    Calls Tryd.prog 34 #[v, .func (.func 53) #[] #[.pointer (some ⟨cl, 0, none⟩)]] w fun e w' => e = .returned (.int .i64 (idx64 (isId x) l)) ∧ Below w.heap.size w w' := by
  obtain ⟨pa, pc, rfl, hpc, hcells⟩ := hv
  obtain ⟨R, hR⟩ : ∃ R, R = idx64 (isId x) l := ⟨_, rfl⟩
  rw [← hR]
  rw [← idxFrom_zero] at hR
  obtain ⟨n, hnn⟩ : ∃ n, n = l.length := ⟨_, rfl⟩
  rw [← hnn] at hl hpc ⊢
  have HN := Lib.hid hnn
  have HC := Lib.hid hcells
  have HR := Lib.hid hR
  have HX := Lib.hid (And.intro hc (cell_lt hc))
  clear hnn hcells hR hc
  go_enter Tryd.func34, Tryd.ntmps34
  go_wp2
  go_loopw [8] (fun vk wr => ∃ k : Nat, vk = .int .i64 k ∧ k ≤ n ∧ Hid (R = idxFrom (isId x) l k) ∧ Hid (Below w.heap.size w wr)) (fun vk _ => n - (intOf vk).toNat)
  case atStart => exact ⟨0, rfl, by omega, HR, Lib.hid (Below.refl _ _)⟩
  case round =>
    obtain ⟨k, rfl, hk, HK, HB⟩ := hrel
    by_cases hlt : k < n
    · have hltz : (k : Int) < (n : Int) := by omega
      obtain ⟨p, hp⟩ : ∃ p, l[k]? = some p := ⟨_, List.getElem?_eq_getElem (by have := HN.out; omega)⟩
      rcases HC.out with h0 | ⟨b, o, rfl, hbl, hcl⟩
      · rw [h0] at hp; cases hp
      have hst := HK.out
      rw [idxFrom_step (isId x) l k p hp] at hst
      obtain ⟨q0, q1, q2, q3, q4, q5⟩ := (six_of (hcl k p hp)).below HB.out hbl
      have hcall := cPlace p x cl wr ((HB.out.cell (p := ⟨cl, 0, none⟩) HX.out.2).trans HX.out.1)
      have HCALL := Lib.hid hcall
      have HST := Lib.hid hst
      clear HK hcl hp hcall hst
      obtain ⟨B, hB⟩ : ∃ B, B = (isId x) p := ⟨_, rfl⟩
      have HCALL2 : Hid (Calls Tryd.prog 53 #[.agg #[.int .i64 p.id, .int .i64 p.kind, .int .i64 p.branch, .int .i64 p.till, .bool p.stop, .string p.name], .pointer (some ⟨cl, 0, none⟩)] wr fun e w' => e = .returned (.bool B) ∧ Below wr.heap.size wr w') := Lib.hid (by rw [hB]; exact HCALL.out)
      have HST2 : Hid (R = if B = true then (k : Int) else idxFrom (isId x) l (k + 1)) := Lib.hid (by rw [hB]; exact HST.out)
      clear hB HCALL HST
      go_wp2_with fail
      refine HCALL2.out.mono ?_
      rintro e w2 ⟨rfl, b2⟩
      have HB2 : Hid (Below w.heap.size w w2) := Lib.hid (HB.out.trans (b2.mono HB.out.size))
      clear b2 HCALL2
      cases B with
      | true =>
        have HT : Hid (R = (k : Int)) := Lib.hid (by have := HST2.out; rwa [if_pos rfl] at this)
        clear HST2 HR
        go_wp2
        go_ret
        exact ⟨by rw [HT.out]; rfl, HB2.out⟩
      | false =>
        have HT : Hid (R = idxFrom (isId x) l (k + 1)) := Lib.hid (by have := HST2.out; rwa [if_neg (by simp)] at this)
        clear HST2 HR
        go_wp2
        go_roundw
        case rel => exact ⟨k + 1, by go_num, by omega, HT, HB2⟩
        case measure => simp [intOf]; omega
    · have hltz : ¬ (k : Int) < (n : Int) := by omega
      have HT : Hid (R = -1) := Lib.hid (by rw [HK.out]; exact idxFrom_end _ _ _ (by have := HN.out; omega))
      clear HK HR
      go_wp2
      go_ret
      exact ⟨by rw [HT.out]; rfl, HB.out⟩

set_option maxRecDepth 100000 in
set_option maxHeartbeats 2000000 in
theorem pIndexOver (v : Value) (l : List Pat) (x : Int) (cl : Nat) (w : World) (hv : Pats w v l) (hl : l.length ≤ 1000000) (hc : w.cell? ⟨cl, 0, none⟩ = some (.int .i64 x)) :
    Calls Tryd.prog 34 #[v, .func (.func 35) #[] #[.pointer (some ⟨cl, 0, none⟩)]] w fun e w' => e = .returned (.int .i64 (idx64 (isOver x) l)) ∧ Below w.heap.size w w' := by
  obtain ⟨pa, pc, rfl, hpc, hcells⟩ := hv
  obtain ⟨R, hR⟩ : ∃ R, R = idx64 (isOver x) l := ⟨_, rfl⟩
  rw [← hR]
  rw [← idxFrom_zero] at hR
  obtain ⟨n, hnn⟩ : ∃ n, n = l.length := ⟨_, rfl⟩
  rw [← hnn] at hl hpc ⊢
  have HN := Lib.hid hnn
  have HC := Lib.hid hcells
  have HR := Lib.hid hR
  have HX := Lib.hid (And.intro hc (cell_lt hc))
  clear hnn hcells hR hc
  go_enter Tryd.func34, Tryd.ntmps34
  go_wp2
  go_loopw [8] (fun vk wr => ∃ k : Nat, vk = .int .i64 k ∧ k ≤ n ∧ Hid (R = idxFrom (isOver x) l k) ∧ Hid (Below w.heap.size w wr)) (fun vk _ => n - (intOf vk).toNat)
  case atStart => exact ⟨0, rfl, by omega, HR, Lib.hid (Below.refl _ _)⟩
  case round =>
    obtain ⟨k, rfl, hk, HK, HB⟩ := hrel
    by_cases hlt : k < n
    · have hltz : (k : Int) < (n : Int) := by omega
      obtain ⟨p, hp⟩ : ∃ p, l[k]? = some p := ⟨_, List.getElem?_eq_getElem (by have := HN.out; omega)⟩
      rcases HC.out with h0 | ⟨b, o, rfl, hbl, hcl⟩
      · rw [h0] at hp; cases hp
      have hst := HK.out
      rw [idxFrom_step (isOver x) l k p hp] at hst
      obtain ⟨q0, q1, q2, q3, q4, q5⟩ := (six_of (hcl k p hp)).below HB.out hbl
      have hcall := cOver p x cl wr ((HB.out.cell (p := ⟨cl, 0, none⟩) HX.out.2).trans HX.out.1)
      have HCALL := Lib.hid hcall
      have HST := Lib.hid hst
      clear HK hcl hp hcall hst
      obtain ⟨B, hB⟩ : ∃ B, B = (isOver x) p := ⟨_, rfl⟩
      have HCALL2 : Hid (Calls Tryd.prog 35 #[.agg #[.int .i64 p.id, .int .i64 p.kind, .int .i64 p.branch, .int .i64 p.till, .bool p.stop, .string p.name], .pointer (some ⟨cl, 0, none⟩)] wr fun e w' => e = .returned (.bool B) ∧ Below wr.heap.size wr w') := Lib.hid (by rw [hB]; exact HCALL.out)
      have HST2 : Hid (R = if B = true then (k : Int) else idxFrom (isOver x) l (k + 1)) := Lib.hid (by rw [hB]; exact HST.out)
      clear hB HCALL HST
      go_wp2_with fail
      refine HCALL2.out.mono ?_
      rintro e w2 ⟨rfl, b2⟩
      have HB2 : Hid (Below w.heap.size w w2) := Lib.hid (HB.out.trans (b2.mono HB.out.size))
      clear b2 HCALL2
      cases B with
      | true =>
        have HT : Hid (R = (k : Int)) := Lib.hid (by have := HST2.out; rwa [if_pos rfl] at this)
        clear HST2 HR
        go_wp2
        go_ret
        exact ⟨by rw [HT.out]; rfl, HB2.out⟩
      | false =>
        have HT : Hid (R = idxFrom (isOver x) l (k + 1)) := Lib.hid (by have := HST2.out; rwa [if_neg (by simp)] at this)
        clear HST2 HR
        go_wp2
        go_roundw
        case rel => exact ⟨k + 1, by go_num, by omega, HT, HB2⟩
        case measure => simp [intOf]; omega
    · have hltz : ¬ (k : Int) < (n : Int) := by omega
      have HT : Hid (R = -1) := Lib.hid (by rw [HK.out]; exact idxFrom_end _ _ _ (by have := HN.out; omega))
      clear HK HR
      go_wp2
      go_ret
      exact ⟨by rw [HT.out]; rfl, HB.out⟩

theorem idx_at (l : List Pat) (x : Int) : idx64 (isId x) l = at64 l x := rfl
set_option maxRecDepth 100000 in
set_option maxHeartbeats 2000000 in
theorem pPlace (v : Value) (l : List Pat) (x : Int) (w : World) (hv : Pats w v l) (hl : l.length ≤ 1000000) :
    Calls Tryd.prog 33 #[v, .int .i64 x] w fun e w' => e = .returned (.int .i64 (at64 l x)) ∧ Below w.heap.size w w' := by
  have hb : Below w.heap.size w (w.alloc (.cells #[.int .i64 x] 3)) := (Below.refl _ _).alloc (Nat.le_refl _) _
  have hc := pIndexId v l x w.heap.size (w.alloc (.cells #[.int .i64 x] 3)) (hv.below hb (Nat.le_refl _)) hl (by rw [Lib.cell_of_heap (heap_alloc_new w _)]; rfl)
  rw [idx_at] at hc
  have HC := Lib.hid hc
  have HB := Lib.hid hb
  clear hc hb hv
  go_enter Tryd.func33, Tryd.ntmps33
  go_wp2_with fail
  refine HC.out.mono ?_
  rintro e w1 ⟨rfl, b1⟩
  go_wp2
  go_ret
  exact ⟨rfl, HB.out.bt b1⟩
end Go.Proofs.YtlpeppigebbfkaaDoor
