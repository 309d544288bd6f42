/- The walks of begins (both sides), of its closures and of ContainsFunc at strings (layer 28). -/
import Derived.Test.YtlpeppigebbfkaaDoorNpc
import Derived.Test.YtlpeppigebbfkaaDoorShelf
namespace Go.Proofs.YtlpeppigebbfkaaDoor
open Go Go.RowKit

section
variable {α : Type}
def idxA (q : α → Bool) (l : List α) : Int := match l.findIdx? q with | some i => (i : Int) | none => -1
def idxB (q : α → Bool) (l : List α) (k : Nat) : Int := match (l.drop k).findIdx? q with | some i => ((k + i : Nat) : Int) | none => -1
theorem idxB_zero (q : α → Bool) (l : List α) : idxB q l 0 = idxA q l := by
  unfold idxB idxA
  rw [List.drop_zero]
  split <;> simp
theorem idxB_step (q : α → Bool) (l : List α) (k : Nat) (p : α) (h : l[k]? = some p) : idxB q l k = if q p = true then (k : Int) else idxB q l (k + 1) := by
  have hd : l.drop k = p :: l.drop (k + 1) := by
    obtain ⟨h', rfl⟩ := List.getElem?_eq_some_iff.1 h
    exact List.drop_eq_getElem_cons h'
  unfold idxB
  rw [hd, List.findIdx?_cons]
  cases q p with
  | true => simp
  | false =>
    rw [if_neg (by simp), if_neg (by simp)]
    cases (l.drop (k + 1)).findIdx? q with
    | none => rfl
    | some i => simp; omega
theorem idxB_end (q : α → Bool) (l : List α) (k : Nat) (h : l.length ≤ k) : idxB q l k = -1 := by
  unfold idxB
  rw [List.drop_eq_nil_of_le h]
  rfl
theorem idxA_any (q : α → Bool) (l : List α) : 0 ≤ idxA q l ↔ l.any q = true := by
  unfold idxA
  cases h : l.findIdx? q with
  | none =>
    have := List.findIdx?_eq_none_iff.1 h
    constructor
    · intro h; simp at h
    · intro ha
      obtain ⟨x, hx, hq⟩ := List.any_eq_true.1 ha
      have := this x hx
      rw [hq] at this
      cases this
  | some i =>
    obtain ⟨hi, hp, -⟩ := List.findIdx?_eq_some_iff_getElem.1 h
    constructor
    · intro _; exact List.any_eq_true.2 ⟨l[i], List.getElem_mem hi, hp⟩
    · intro _; show (0 : Int) ≤ (i : Int); omega
end
/-- The word begins one of these strings. -/
def preOf (word x : ByteArray) : Bool := Lib.hasPrefix x.data.toList word.data.toList
def begW (word : ByteArray) (xs : List ByteArray) : Bool := xs.any (preOf word)
set_option maxRecDepth 100000 in
set_option maxHeartbeats 1000000 in
theorem cBegins (s word : ByteArray) (cl : Nat) (w : World) (hc : w.cell? ⟨cl, 0, none⟩ = some (.string word)) :
    Calls Tryd.prog 59 #[.string s, .pointer (some ⟨cl, 0, none⟩)] w fun e w' => e = .returned (.bool (preOf word s)) ∧ Below w.heap.size w w' := by
  have hp := Tryd.strings_HasPrefix s word w
  have HP := Lib.hid hp
  clear hp
  go_enter Tryd.func59, Tryd.ntmps59
  go_wp2_with fail
  refine HP.out.mono ?_
  rintro e w1 ⟨rfl, rfl⟩
  go_wp2
  go_ret
  exact ⟨rfl, Below.refl _ _⟩

set_option maxRecDepth 100000 in
set_option maxHeartbeats 2000000 in
theorem sIndexB (v : Value) (xs : List ByteArray) (q : ByteArray → Bool) (cl : Nat) (w : World) (hv : Strs w v xs) (hl : xs.length ≤ 1000000)
    (hcall : ∀ W, Below w.heap.size w W → ∀ x ∈ xs, Calls Tryd.prog 59 #[.string x, .pointer (some ⟨cl, 0, none⟩)] W fun e w' => e = .returned (.bool (q x)) ∧ Below W.heap.size W w') :
    Calls Tryd.prog 61 #[v, .func (.func 59) #[] #[.pointer (some ⟨cl, 0, none⟩)]] w fun e w' => e = .returned (.int .i64 (idxA q xs)) ∧ Below w.heap.size w w' := by
  obtain ⟨pa, pc, rfl, hpc, hcells⟩ := hv
  obtain ⟨R, hR⟩ : ∃ R, R = idxA q xs := ⟨_, rfl⟩
  rw [← hR]
  rw [← idxB_zero] at hR
  obtain ⟨n, hnn⟩ : ∃ n, n = xs.length := ⟨_, rfl⟩
  rw [← hnn] at hl hpc ⊢
  have HN := Lib.hid hnn
  have HC := Lib.hid hcells
  have HR := Lib.hid hR
  have HX := Lib.hid hcall
  clear hnn hcells hR hcall
  go_enter Tryd.func61, Tryd.ntmps61
  go_wp2
  go_loopw [8] (fun vk wr => ∃ k : Nat, vk = .int .i64 k ∧ k ≤ n ∧ Hid (R = idxB q xs k) ∧ Hid (Below w.heap.size w wr)) (fun vk _ => n - (intOf vk).toNat)
  case atStart => exact ⟨0, rfl, by omega, HR, Lib.hid (Below.refl _ _)⟩
  case round =>
    obtain ⟨k, rfl, hk, HK, HB⟩ := hrel
    by_cases hlt : k < n
    · have hltz : (k : Int) < (n : Int) := by omega
      obtain ⟨x, hx⟩ : ∃ x, xs[k]? = some x := ⟨_, List.getElem?_eq_getElem (by have := HN.out; omega)⟩
      rcases HC.out with h0 | ⟨b, o, rfl, hbl, hcl⟩
      · rw [h0] at hx; cases hx
      have hst := HK.out
      rw [idxB_step q xs k x hx] at hst
      have hcell : wr.cell? ⟨b, o + k, none⟩ = some (.string x) := (HB.out.cell (p := ⟨b, o + k, none⟩) hbl).trans (hcl k x hx)
      have hcall := HX.out wr HB.out x (List.mem_of_getElem? hx)
      obtain ⟨B, hB⟩ : ∃ B, B = q x := ⟨_, rfl⟩
      rw [← hB] at hst hcall
      have HCALL := Lib.hid hcall
      have HST := Lib.hid hst
      clear HK hcl hx hcall hst hB
      go_wp2_with fail
      refine HCALL.out.mono ?_
      rintro e w2 ⟨rfl, b2⟩
      have HB2 : Hid (Below w.heap.size w w2) := Lib.hid (HB.out.trans (b2.mono HB.out.size))
      clear b2 HCALL
      cases B with
      | true =>
        have HT : Hid (R = (k : Int)) := Lib.hid (by have := HST.out; rwa [if_pos rfl] at this)
        clear HST HR
        go_wp2
        go_ret
        exact ⟨by rw [HT.out]; rfl, HB2.out⟩
      | false =>
        have HT : Hid (R = idxB q xs (k + 1)) := Lib.hid (by have := HST.out; rwa [if_neg (by simp)] at this)
        clear HST HR
        go_wp2
        go_roundw
        case rel => exact ⟨k + 1, by go_num, by omega, HT, HB2⟩
        case measure => simp [intOf]; omega
    · have hltz : ¬ (k : Int) < (n : Int) := by omega
      have HT : Hid (R = -1) := Lib.hid (by rw [HK.out]; exact idxB_end _ _ _ (by have := HN.out; omega))
      clear HK HR
      go_wp2
      go_ret
      exact ⟨by rw [HT.out]; rfl, HB.out⟩
set_option maxRecDepth 100000 in
set_option maxHeartbeats 2000000 in
theorem sContainsB (v : Value) (xs : List ByteArray) (q : ByteArray → Bool) (cl : Nat) (w : World) (hv : Strs w v xs) (hl : xs.length ≤ 1000000)
    (hcall : ∀ W, Below w.heap.size w W → ∀ x ∈ xs, Calls Tryd.prog 59 #[.string x, .pointer (some ⟨cl, 0, none⟩)] W fun e w' => e = .returned (.bool (q x)) ∧ Below W.heap.size W w') :
    Calls Tryd.prog 44 #[v, .func (.func 59) #[] #[.pointer (some ⟨cl, 0, none⟩)]] w fun e w' => e = .returned (.bool (xs.any q)) ∧ Below w.heap.size w w' := by
  have hi := sIndexB v xs q cl w hv hl hcall
  have ha := idxA_any q xs
  obtain ⟨R, hR⟩ : ∃ R, R = idxA q xs := ⟨_, rfl⟩
  obtain ⟨B, hB⟩ : ∃ B, B = xs.any q := ⟨_, rfl⟩
  rw [← hR, ← hB] at ha
  rw [← hR] at hi
  rw [← hB]
  have HI := Lib.hid hi
  clear hi hR hB hv hcall
  cases B with
  | true =>
    have h0 : 0 ≤ R := ha.2 rfl
    clear ha
    go_enter Tryd.func44, Tryd.ntmps44
    go_wp2_with fail
    refine HI.out.mono ?_
    rintro e w1 ⟨rfl, b1⟩
    go_wp2
    go_ret
    exact ⟨rfl, b1⟩
  | false =>
    have h0 : R < 0 := by
      by_cases h : 0 ≤ R
      · have := ha.1 h; cases this
      · omega
    clear ha
    go_enter Tryd.func44, Tryd.ntmps44
    go_wp2_with fail
    refine HI.out.mono ?_
    rintro e w1 ⟨rfl, b1⟩
    go_wp2
    go_ret
    refine ⟨?_, b1⟩
    show Ending.returned (.bool (decide (0 ≤ R))) = _
    rw [decide_eq_false (by omega)]

set_option maxRecDepth 100000 in
set_option maxHeartbeats 2000000 in
theorem sIndexS (v : Value) (xs : List ByteArray) (q : ByteArray → Bool) (cl : Nat) (w : World) (hv : Strs w v xs) (hl : xs.length ≤ 1000000)
    (hcall : ∀ W, Below w.heap.size w W → ∀ x ∈ xs, Calls Tryd.prog 42 #[.string x, .pointer (some ⟨cl, 0, none⟩)] W fun e w' => e = .returned (.bool (q x)) ∧ Below W.heap.size W w') :
    Calls Tryd.prog 61 #[v, .func (.func 42) #[] #[.pointer (some ⟨cl, 0, none⟩)]] w fun e w' => e = .returned (.int .i64 (idxA q xs)) ∧ Below w.heap.size w w' := by
  obtain ⟨pa, pc, rfl, hpc, hcells⟩ := hv
  obtain ⟨R, hR⟩ : ∃ R, R = idxA q xs := ⟨_, rfl⟩
  rw [← hR]
  rw [← idxB_zero] at hR
  obtain ⟨n, hnn⟩ : ∃ n, n = xs.length := ⟨_, rfl⟩
  rw [← hnn] at hl hpc ⊢
  have HN := Lib.hid hnn
  have HC := Lib.hid hcells
  have HR := Lib.hid hR
  have HX := Lib.hid hcall
  clear hnn hcells hR hcall
  go_enter Tryd.func61, Tryd.ntmps61
  go_wp2
  go_loopw [8] (fun vk wr => ∃ k : Nat, vk = .int .i64 k ∧ k ≤ n ∧ Hid (R = idxB q xs k) ∧ Hid (Below w.heap.size w wr)) (fun vk _ => n - (intOf vk).toNat)
  case atStart => exact ⟨0, rfl, by omega, HR, Lib.hid (Below.refl _ _)⟩
  case round =>
    obtain ⟨k, rfl, hk, HK, HB⟩ := hrel
    by_cases hlt : k < n
    · have hltz : (k : Int) < (n : Int) := by omega
      obtain ⟨x, hx⟩ : ∃ x, xs[k]? = some x := ⟨_, List.getElem?_eq_getElem (by have := HN.out; omega)⟩
      rcases HC.out with h0 | ⟨b, o, rfl, hbl, hcl⟩
      · rw [h0] at hx; cases hx
      have hst := HK.out
      rw [idxB_step q xs k x hx] at hst
      have hcell : wr.cell? ⟨b, o + k, none⟩ = some (.string x) := (HB.out.cell (p := ⟨b, o + k, none⟩) hbl).trans (hcl k x hx)
      have hcall := HX.out wr HB.out x (List.mem_of_getElem? hx)
      obtain ⟨B, hB⟩ : ∃ B, B = q x := ⟨_, rfl⟩
      rw [← hB] at hst hcall
      have HCALL := Lib.hid hcall
      have HST := Lib.hid hst
      clear HK hcl hx hcall hst hB
      go_wp2_with fail
      refine HCALL.out.mono ?_
      rintro e w2 ⟨rfl, b2⟩
      have HB2 : Hid (Below w.heap.size w w2) := Lib.hid (HB.out.trans (b2.mono HB.out.size))
      clear b2 HCALL
      cases B with
      | true =>
        have HT : Hid (R = (k : Int)) := Lib.hid (by have := HST.out; rwa [if_pos rfl] at this)
        clear HST HR
        go_wp2
        go_ret
        exact ⟨by rw [HT.out]; rfl, HB2.out⟩
      | false =>
        have HT : Hid (R = idxB q xs (k + 1)) := Lib.hid (by have := HST.out; rwa [if_neg (by simp)] at this)
        clear HST HR
        go_wp2
        go_roundw
        case rel => exact ⟨k + 1, by go_num, by omega, HT, HB2⟩
        case measure => simp [intOf]; omega
    · have hltz : ¬ (k : Int) < (n : Int) := by omega
      have HT : Hid (R = -1) := Lib.hid (by rw [HK.out]; exact idxB_end _ _ _ (by have := HN.out; omega))
      clear HK HR
      go_wp2
      go_ret
      exact ⟨by rw [HT.out]; rfl, HB.out⟩
set_option maxRecDepth 100000 in
set_option maxHeartbeats 2000000 in
theorem sContainsS (v : Value) (xs : List ByteArray) (q : ByteArray → Bool) (cl : Nat) (w : World) (hv : Strs w v xs) (hl : xs.length ≤ 1000000)
    (hcall : ∀ W, Below w.heap.size w W → ∀ x ∈ xs, Calls Tryd.prog 42 #[.string x, .pointer (some ⟨cl, 0, none⟩)] W fun e w' => e = .returned (.bool (q x)) ∧ Below W.heap.size W w') :
    Calls Tryd.prog 44 #[v, .func (.func 42) #[] #[.pointer (some ⟨cl, 0, none⟩)]] w fun e w' => e = .returned (.bool (xs.any q)) ∧ Below w.heap.size w w' := by
  have hi := sIndexS v xs q cl w hv hl hcall
  have ha := idxA_any q xs
  obtain ⟨R, hR⟩ : ∃ R, R = idxA q xs := ⟨_, rfl⟩
  obtain ⟨B, hB⟩ : ∃ B, B = xs.any q := ⟨_, rfl⟩
  rw [← hR, ← hB] at ha
  rw [← hR] at hi
  rw [← hB]
  have HI := Lib.hid hi
  clear hi hR hB hv hcall
  cases B with
  | true =>
    have h0 : 0 ≤ R := ha.2 rfl
    clear ha
    go_enter Tryd.func44, Tryd.ntmps44
    go_wp2_with fail
    refine HI.out.mono ?_
    rintro e w1 ⟨rfl, b1⟩
    go_wp2
    go_ret
    exact ⟨rfl, b1⟩
  | false =>
    have h0 : R < 0 := by
      by_cases h : 0 ≤ R
      · have := ha.1 h; cases this
      · omega
    clear ha
    go_enter Tryd.func44, Tryd.ntmps44
    go_wp2_with fail
    refine HI.out.mono ?_
    rintro e w1 ⟨rfl, b1⟩
    go_wp2
    go_ret
    refine ⟨?_, b1⟩
    show Ending.returned (.bool (decide (0 ≤ R))) = _
    rw [decide_eq_false (by omega)]

set_option maxRecDepth 100000 in
set_option maxHeartbeats 1000000 in
theorem pBegins (word : ByteArray) (v : Value) (xs : List ByteArray) (w : World) (hv : Strs w v xs) (hl : xs.length ≤ 1000000) :
    Calls Tryd.prog 43 #[.string word, v] w fun e w' => e = .returned (.bool (begW word xs)) ∧ Below w.heap.size w w' := by
  have hb : Below w.heap.size w (w.alloc (.cells #[.string word] 9)) := (Below.refl _ _).alloc (Nat.le_refl _) _
  have hs : w.heap.size < (w.alloc (.cells #[.string word] 9)).heap.size := by rw [World.size_alloc]; exact Nat.lt_succ_self _
  have hc := sContainsB v xs (preOf word) w.heap.size (w.alloc (.cells #[.string word] 9)) (hv.below hb (Nat.le_refl _)) hl (fun W hW x _ => cBegins x word w.heap.size W (by
    rw [hW.cell (p := ⟨w.heap.size, 0, none⟩) hs, Lib.cell_of_heap (heap_alloc_new w _)]
    rfl))
  have HC := Lib.hid hc
  have HB := Lib.hid hb
  obtain ⟨pa, pc, rfl, hpc, -⟩ := hv
  clear hc hb hs
  go_enter Tryd.func43, Tryd.ntmps43
  go_wp2_with fail
  refine HC.out.mono ?_
  rintro e w1 ⟨rfl, b1⟩
  go_wp2
  go_ret
  exact ⟨rfl, HB.out.bt b1⟩
set_option maxRecDepth 100000 in
set_option maxHeartbeats 1000000 in
/-- The closure of Search: the word begins none of the name's words. -/
theorem cMissing (word : ByteArray) (v : Value) (xs : List ByteArray) (cl : Nat) (w : World) (hc : w.cell? ⟨cl, 0, none⟩ = some v) (hv : Strs w v xs) (hl : xs.length ≤ 1000000) :
    Calls Tryd.prog 42 #[.string word, .pointer (some ⟨cl, 0, none⟩)] w fun e w' => e = .returned (.bool (!begW word xs)) ∧ Below w.heap.size w w' := by
  have hp := pBegins word v xs w hv hl
  have HP := Lib.hid hp
  obtain ⟨pa, pc, rfl, hpc, -⟩ := hv
  clear hp
  go_enter Tryd.func42, Tryd.ntmps42
  go_wp2_with fail
  refine HP.out.mono ?_
  rintro e w1 ⟨rfl, b1⟩
  go_wp2
  go_ret
  exact ⟨rfl, b1⟩

set_option maxRecDepth 100000 in
set_option maxHeartbeats 1000000 in
theorem rBegins (word : ByteArray) (v : Value) (xs : List ByteArray) (w : World) (hv : Strs w v xs) (hl : xs.length ≤ 1000000) :
    Calls Tryd.prog 45 #[v, .string word] w fun e w' => e = .returned (.bool (begW word xs)) ∧ w' = w := by
  obtain ⟨pa, pc, rfl, hpc, hcells⟩ := hv
  obtain ⟨A, hA⟩ : ∃ A, A = begW word xs := ⟨_, rfl⟩
  rw [← hA]
  obtain ⟨n, hnn⟩ : ∃ n, n = xs.length := ⟨_, rfl⟩
  rw [← hnn] at hl hpc ⊢
  have HN := Lib.hid hnn
  have HC := Lib.hid hcells
  have HA := Lib.hid hA
  clear hnn hcells hA
  go_enter Tryd.func45, Tryd.ntmps45
  go_wp2
  go_loop [5] (fun vk => ∃ k : Nat, vk = .int .i64 k ∧ k ≤ n ∧ Hid (A = begW word (xs.drop k))) (fun vk => n - (intOf vk).toNat)
  case atStart => exact ⟨0, rfl, by omega, HA⟩
  case round =>
    obtain ⟨k, rfl, hk, HK⟩ := hrel
    by_cases hlt : k < n
    · have hltz : (k : Int) < (n : Int) := by omega
      obtain ⟨x, hx⟩ : ∃ x, xs[k]? = some x := ⟨_, List.getElem?_eq_getElem (by have := HN.out; omega)⟩
      rcases HC.out with h0 | ⟨b, o, rfl, hbl, hcl⟩
      · rw [h0] at hx; cases hx
      have hd : xs.drop k = x :: xs.drop (k + 1) := by
        obtain ⟨h', rfl⟩ := List.getElem?_eq_some_iff.1 hx
        exact List.drop_eq_getElem_cons h'
      have hst : A = (preOf word x || begW word (xs.drop (k + 1))) := by rw [HK.out, hd]; rfl
      have hraw := Lib.hasPrefix_raw x word
      have hcell := hcl k x hx
      have hcell0 : k = 0 → w.cell? ⟨b, o, none⟩ = some (.string x) := fun h => by subst h; simpa using hcell
      clear hcl hx hd HK
      by_cases hsz : word.size ≤ x.size
      · rw [decide_eq_true hsz, Bool.true_and] at hraw
        have hszz : (word.size : Int) ≤ (x.size : Int) := by omega
        cases he : ((x.extract 0 word.size).toList == word.toList) with
        | true =>
          have HT : Hid (A = true) := Lib.hid (by rw [hst]; unfold preOf; rw [← hraw, he]; rfl)
          clear hst HA hraw
          go_wp2
          go_ret
          exact ⟨by rw [HT.out]; rfl, rfl⟩
        | false =>
          have HT : Hid (A = begW word (xs.drop (k + 1))) := Lib.hid (by rw [hst]; unfold preOf; rw [← hraw, he]; rfl)
          clear hst HA hraw
          go_wp2
          go_round
          case rel => exact ⟨k + 1, by go_num, by omega, HT⟩
          case measure => simp [intOf]; omega
      · rw [decide_eq_false hsz, Bool.false_and] at hraw
        have hszz : ¬ (word.size : Int) ≤ (x.size : Int) := by omega
        have HT : Hid (A = begW word (xs.drop (k + 1))) := Lib.hid (by rw [hst]; unfold preOf; rw [← hraw]; rfl)
        clear hst HA hraw
        go_wp2
        go_round
        case rel => exact ⟨k + 1, by go_num, by omega, HT⟩
        case measure => simp [intOf]; omega
    · have hltz : ¬ (k : Int) < (n : Int) := by omega
      have HT : Hid (A = false) := Lib.hid (by rw [HK.out, List.drop_eq_nil_of_le (by have := HN.out; omega)]; rfl)
      clear HK HA
      go_wp2
      go_ret
      exact ⟨by rw [HT.out]; rfl, rfl⟩
end Go.Proofs.YtlpeppigebbfkaaDoor
