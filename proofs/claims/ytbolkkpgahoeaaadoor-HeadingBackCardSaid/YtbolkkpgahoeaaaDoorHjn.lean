/- The walks of Join, the program's and the reference's (layer 12). -/
import Derived.Test.YtbolkkpgahoeaaaDoorHpu
namespace Go.Proofs.YtbolkkpgahoeaaaDoor
open Go Go.RowKit

theorem partErr_step (P : ByteArray → Bool) (xs : List ByteArray) (k : Nat) (x : ByteArray) (h : xs[k]? = some x) : partErr P (xs.drop k) = if x.size = 0 then 8 else if P x = false then 3 else partErr P (xs.drop (k + 1)) := by
  obtain ⟨h', rfl⟩ := List.getElem?_eq_some_iff.1 h
  rw [List.drop_eq_getElem_cons h']
  rfl
theorem glueB_inter (xs : List ByteArray) : interB ⟨#[45, 45]⟩ xs = glueB xs := rfl
theorem size_empty {x : ByteArray} : x.toList.isEmpty = decide (x.size = 0) := by
  rw [ByteArray.toList_eq, ← len_data, Bool.eq_iff_iff]
  simp only [List.isEmpty_iff, decide_eq_true_eq]
  exact List.length_eq_zero_iff.symm
theorem glueB_size (xs : List ByteArray) (hn : xs.length ≤ 4) (hz : ∀ x ∈ xs, x.size ≤ 1000000) : (glueB xs).size ≤ 4000008 := by
  rw [← glueB_inter]
  have := interB_size ⟨#[45, 45]⟩ (by decide) 1000000 xs hz
  have h2 : xs.length * (1000000 + 2) ≤ 4 * (1000000 + 2) := Nat.mul_le_mul_right _ hn
  omega

set_option maxRecDepth 100000 in
set_option maxHeartbeats 2000000 in
theorem pJoin {P : ByteArray → Bool} (hP : ∀ s, P s = true ↔ ∃ cs, okt cs = true ∧ s = bs cs ∧ plainP cs = true) (xs : List ByteArray) (v : Value) (w : World) (hE : Env w) (hv : Strs w v xs) (hn : xs.length ≤ 1000000) (hz : ∀ x ∈ xs, x.size ≤ 1000000) :
    Calls Tryd.prog 21 #[v] w fun e w' => e = .returned (.tuple #[.string (joinR P xs).1, .int .i64 (joinR P xs).2]) ∧ Below w.heap.size w w' := by
  have hvw := hv
  obtain ⟨pa, pc, rfl, hpc, hcells⟩ := hv
  obtain ⟨n, hnn⟩ : ∃ n, n = xs.length := ⟨_, rfl⟩
  have hJ : joinR P xs = if n = 0 then (⟨#[]⟩, 8) else if 4 < n then (⟨#[]⟩, 4) else if partErr P xs ≠ 0 then (⟨#[]⟩, partErr P xs) else if 200 < (glueB xs).size then (⟨#[]⟩, 4) else (glueB xs, 0) := by rw [hnn]; rfl
  rw [← hnn] at hpc hn hvw ⊢
  have HN := Lib.hid hnn
  have HV := Lib.hid hvw
  have HC := Lib.hid hcells
  have HZ := Lib.hid hz
  have HE := Lib.hid hE
  clear hcells hvw hz hE
  by_cases h0 : n = 0
  · rw [if_pos h0] at hJ
    rw [hJ]
    subst h0
    clear hJ hnn
    go_enter Tryd.func21, Tryd.ntmps21
    go_wp2
    go_ret2
    exact ⟨rfl, Below.refl _ _⟩
  rw [if_neg h0] at hJ
  have hz0 : ((n : Int) == 0) = false := by
    have : (n : Int) ≠ 0 := by omega
    simpa using this
  by_cases h4 : 4 < n
  · rw [if_pos h4] at hJ
    rw [hJ]
    have hn4 : (4 : Int) < (n : Int) := by omega
    clear hJ hnn h0
    go_enter Tryd.func21, Tryd.ntmps21
    go_wp2
    go_ret2
    exact ⟨rfl, Below.refl _ _⟩
  rw [if_neg h4] at hJ
  have hn4 : (n : Int) ≤ 4 := by omega
  have hgz := glueB_size xs (by omega) HZ.out
  obtain ⟨J, hJ2⟩ : ∃ J, J = joinR P xs := ⟨_, rfl⟩
  rw [← hJ2] at hJ ⊢
  obtain ⟨GB, hGB⟩ : ∃ GB, GB = glueB xs := ⟨_, rfl⟩
  rw [← hGB] at hJ hgz
  have HG := Lib.hid hGB
  have HJ := Lib.hid hJ
  clear hJ hJ2 hGB hnn h0 h4
  go_enter Tryd.func21, Tryd.ntmps21
  go_wp2
  go_loopw [18] (fun vk wr => ∃ k : Nat, vk = .int .i64 k ∧ k ≤ n ∧ Hid (partErr P xs = partErr P (xs.drop k)) ∧ Hid (Below w.heap.size w wr)) (fun vk _ => n - (intOf vk).toNat)
  case atStart => exact ⟨0, rfl, by omega, Lib.hid rfl, Lib.hid (Below.refl _ _)⟩
  case round =>
    obtain ⟨k, rfl, hk, HK, HB⟩ := hrel
    by_cases hlt : k < n
    · have hltz : (k : Int) < (n : Int) := by omega
      obtain ⟨x, hx⟩ : ∃ x, xs[k]? = some x := ⟨_, List.getElem?_eq_getElem (by have := HN.out; omega)⟩
      rcases HC.out with h0 | ⟨b, o, rfl, hbl, hcl⟩
      · rw [h0] at hx; cases hx
      have hcell : wr.cell? ⟨b, o + k, none⟩ = some (.string x) := (HB.out.cell (p := ⟨b, o + k, none⟩) hbl).trans (hcl k _ hx)
      have hst := HK.out
      rw [partErr_step P xs k x hx] at hst
      have hxz := HZ.out x (List.mem_of_getElem? hx)
      have hpt := pPart hP x wr (HE.out.below HB.out) (by omega)
      obtain ⟨E, hEE⟩ : ∃ E : Int, E = if x.size = 0 then 8 else if P x = false then 3 else 0 := ⟨_, rfl⟩
      rw [← hEE] at hpt
      have HPT := Lib.hid hpt
      by_cases hE0 : E = 0
      · have HK2 : Hid (partErr P xs = partErr P (xs.drop (k + 1))) := Lib.hid (by
          rw [hst]
          by_cases hx0 : x.size = 0
          · rw [if_pos hx0] at hEE; omega
          · rw [if_neg hx0] at hEE ⊢
            by_cases hp : P x = false
            · rw [if_pos hp] at hEE; omega
            · rw [if_neg hp])
        subst hE0
        clear hpt hst hx hcl hEE HK
        go_wp2_with fail
        refine HPT.out.mono ?_
        rintro e w2 ⟨rfl, b2⟩
        have HB2 : Hid (Below w.heap.size w w2) := Lib.hid (HB.out.bt b2)
        clear b2
        go_wp2
        go_roundw
        case rel => exact ⟨k + 1, by go_num, by omega, HK2, HB2⟩
        case measure => simp [intOf]; omega
      · have HF : Hid (J = (⟨#[]⟩, E)) := Lib.hid (by
          have hpe : partErr P xs = E := by
            rw [hst]
            by_cases hx0 : x.size = 0
            · rw [if_pos hx0] at hEE ⊢; exact hEE.symm
            · rw [if_neg hx0] at hEE ⊢
              by_cases hp : P x = false
              · rw [if_pos hp] at hEE ⊢; exact hEE.symm
              · rw [if_neg hp] at hEE; exact absurd hEE hE0
          rw [HJ.out, hpe, if_pos hE0])
        have hne : (E == 0) = false := by simpa using hE0
        clear hpt hst hx hcl hEE HK
        go_wp2_with fail
        refine HPT.out.mono ?_
        rintro e w2 ⟨rfl, b2⟩
        have HB2 : Hid (Below w.heap.size w w2) := Lib.hid (HB.out.bt b2)
        clear b2
        go_wp2
        go_ret2
        exact ⟨by rw [HF.out]; rfl, HB2.out⟩
    · have hltz : ¬ (k : Int) < (n : Int) := by omega
      have hp0 : partErr P xs = 0 := by rw [HK.out, List.drop_eq_nil_of_le (by have := HN.out; omega)]; rfl
      have HJ2 : Hid (J = if 200 < GB.size then (⟨#[]⟩, 4) else (GB, 0)) := Lib.hid (by rw [HJ.out, hp0, if_neg (by simp)])
      clear HK hp0 HJ
      by_cases hbig : 200 < GB.size
      · have hbz : (200 : Int) < ((GB.size : Nat) : Int) := by omega
        have HF : Hid (J = (⟨#[]⟩, 4)) := Lib.hid (by rw [HJ2.out, if_pos hbig])
        clear hbig HJ2
        go_wp2_with fail
        refine (join_any xs ⟨#[45, 45]⟩ _ wr (HV.out.below HB.out (Nat.le_refl _)) (by rw [← HN.out]; omega) (by
          have h9 : (glueB xs).size = (Lib.join (xs.map (·.data.toList)) [45, 45]).length := by unfold glueB; simp [ByteArray.size]
          have h8 : (Lib.join (xs.map (·.data.toList)) (⟨#[45, 45]⟩ : ByteArray).data.toList).length = (glueB xs).size := h9.symm
          rw [h8, ← HG.out]; omega)).mono ?_
        rintro e w5 ⟨rfl, b5⟩
        have HB5 := Lib.hid (HB.out.bt b5)
        clear b5
        have hgb : Value.string GB = Value.string (glueB xs) := by rw [HG.out]
        first
          | rw [show (Value.string ⟨(Lib.join (xs.map (·.data.toList)) (⟨#[45, 45]⟩ : ByteArray).data.toList).toArray⟩) = Value.string GB from hgb.symm]
          | rw [show Value.string (interB ⟨#[45, 45]⟩ xs) = Value.string GB from hgb.symm]
        clear hgb
        go_wp2
        go_ret2
        exact ⟨by rw [HF.out]; rfl, HB5.out⟩
      · have hbz : ((GB.size : Nat) : Int) ≤ 200 := by omega
        have HF : Hid (J = (GB, 0)) := Lib.hid (by rw [HJ2.out, if_neg hbig])
        clear hbig HJ2
        go_wp2_with fail
        refine (join_any xs ⟨#[45, 45]⟩ _ wr (HV.out.below HB.out (Nat.le_refl _)) (by rw [← HN.out]; omega) (by
          have h9 : (glueB xs).size = (Lib.join (xs.map (·.data.toList)) [45, 45]).length := by unfold glueB; simp [ByteArray.size]
          have h8 : (Lib.join (xs.map (·.data.toList)) (⟨#[45, 45]⟩ : ByteArray).data.toList).length = (glueB xs).size := h9.symm
          rw [h8, ← HG.out]; omega)).mono ?_
        rintro e w5 ⟨rfl, b5⟩
        have HB5 := Lib.hid (HB.out.bt b5)
        clear b5
        have hgb : Value.string GB = Value.string (glueB xs) := by rw [HG.out]
        first
          | rw [show (Value.string ⟨(Lib.join (xs.map (·.data.toList)) (⟨#[45, 45]⟩ : ByteArray).data.toList).toArray⟩) = Value.string GB from hgb.symm]
          | rw [show Value.string (interB ⟨#[45, 45]⟩ xs) = Value.string GB from hgb.symm]
        clear hgb
        go_wp2
        go_ret2
        exact ⟨by rw [HF.out]; rfl, HB5.out⟩

set_option maxRecDepth 100000 in
set_option maxHeartbeats 2000000 in
theorem rJoin {P : ByteArray → Bool} (hP : ∀ s, P s = true ↔ ∃ cs, okt cs = true ∧ s = bs cs ∧ plainP cs = true) (xs : List ByteArray) (v : Value) (w : World) (hv : Strs w v xs) (hn : xs.length ≤ 1000000) (hz : ∀ x ∈ xs, x.size ≤ 1000000) :
    Calls Tryd.prog 22 #[v] w fun e w' => e = .returned (.tuple #[.string (joinR P xs).1, .int .i64 (joinR P xs).2]) ∧ Below w.heap.size w w' := by
  have hvw := hv
  obtain ⟨pa, pc, rfl, hpc, hcells⟩ := hv
  obtain ⟨n, hnn⟩ : ∃ n, n = xs.length := ⟨_, rfl⟩
  have hJ : joinR P xs = if n = 0 then (⟨#[]⟩, 8) else if 4 < n then (⟨#[]⟩, 4) else if partErr P xs ≠ 0 then (⟨#[]⟩, partErr P xs) else if 200 < (glueB xs).size then (⟨#[]⟩, 4) else (glueB xs, 0) := by rw [hnn]; rfl
  rw [← hnn] at hpc hn hvw ⊢
  have HN := Lib.hid hnn
  have HV := Lib.hid hvw
  have HC := Lib.hid hcells
  have HZ := Lib.hid hz
  skip
  clear hcells hvw hz
  by_cases h0 : n = 0
  · rw [if_pos h0] at hJ
    rw [hJ]
    subst h0
    clear hJ hnn
    go_enter Tryd.func22, Tryd.ntmps22
    go_wp2
    go_ret2
    exact ⟨rfl, Below.refl _ _⟩
  rw [if_neg h0] at hJ
  have hz0 : ((n : Int) == 0) = false := by
    have : (n : Int) ≠ 0 := by omega
    simpa using this
  by_cases h4 : 4 < n
  · rw [if_pos h4] at hJ
    rw [hJ]
    have hn4 : (4 : Int) < (n : Int) := by omega
    clear hJ hnn h0
    go_enter Tryd.func22, Tryd.ntmps22
    go_wp2
    go_ret2
    exact ⟨rfl, Below.refl _ _⟩
  rw [if_neg h4] at hJ
  have hn4 : (n : Int) ≤ 4 := by omega
  have hgz := glueB_size xs (by omega) HZ.out
  obtain ⟨J, hJ2⟩ : ∃ J, J = joinR P xs := ⟨_, rfl⟩
  rw [← hJ2] at hJ ⊢
  obtain ⟨GB, hGB⟩ : ∃ GB, GB = glueB xs := ⟨_, rfl⟩
  rw [← hGB] at hJ hgz
  have HG := Lib.hid hGB
  have HJ := Lib.hid hJ
  clear hJ hJ2 hGB hnn h0 h4
  go_enter Tryd.func22, Tryd.ntmps22
  go_wp2
  go_loopw [4] (fun vk wr => ∃ k : Nat, vk = .int .i64 k ∧ k ≤ n ∧ Hid (partErr P xs = partErr P (xs.drop k)) ∧ Hid (Below w.heap.size w wr)) (fun vk _ => n - (intOf vk).toNat)
  case atStart => exact ⟨0, rfl, by omega, Lib.hid rfl, Lib.hid (Below.refl _ _)⟩
  case round =>
    obtain ⟨k, rfl, hk, HK, HB⟩ := hrel
    by_cases hlt : k < n
    · have hltz : (k : Int) < (n : Int) := by omega
      obtain ⟨x, hx⟩ : ∃ x, xs[k]? = some x := ⟨_, List.getElem?_eq_getElem (by have := HN.out; omega)⟩
      rcases HC.out with h0 | ⟨b, o, rfl, hbl, hcl⟩
      · rw [h0] at hx; cases hx
      have hcell : wr.cell? ⟨b, o + k, none⟩ = some (.string x) := (HB.out.cell (p := ⟨b, o + k, none⟩) hbl).trans (hcl k _ hx)
      have hst := HK.out
      rw [partErr_step P xs k x hx] at hst
      have hxz := HZ.out x (List.mem_of_getElem? hx)
      cases he : x.toList.isEmpty with
      | true =>
        have hx0 : x.size = 0 := by rw [size_empty] at he; exact of_decide_eq_true he
        rw [if_pos hx0] at hst
        have HF : Hid (J = (⟨#[]⟩, 8)) := Lib.hid (by rw [HJ.out, hst, if_pos (by decide)])
        clear hst hx hcl HK hx0
        go_wp2
        go_ret2
        exact ⟨by rw [HF.out]; rfl, HB.out⟩
      | false =>
        have hx0 : ¬ x.size = 0 := by rw [size_empty] at he; exact of_decide_eq_false he
        rw [if_neg hx0] at hst
        have hpt := rPlain hP x wr hx0 (by omega)
        obtain ⟨q, hq⟩ : ∃ q, q = P x := ⟨_, rfl⟩
        rw [← hq] at hpt hst
        have HPT := Lib.hid hpt
        cases q with
        | true =>
          have HK2 : Hid (partErr P xs = partErr P (xs.drop (k + 1))) := Lib.hid (by rw [hst]; rfl)
          clear hpt hst hx hcl hq HK hx0
          go_wp2_with fail
          refine HPT.out.mono ?_
          rintro e w2 ⟨rfl, b2⟩
          have HB2 : Hid (Below w.heap.size w w2) := Lib.hid (HB.out.bt b2)
          clear b2
          go_wp2
          go_roundw
          case rel => exact ⟨k + 1, by go_num, by omega, HK2, HB2⟩
          case measure => simp [intOf]; omega
        | false =>
          have HF : Hid (J = (⟨#[]⟩, 3)) := Lib.hid (by rw [HJ.out, hst, if_pos rfl, if_pos (by decide)])
          clear hpt hst hx hcl hq HK hx0
          go_wp2_with fail
          refine HPT.out.mono ?_
          rintro e w2 ⟨rfl, b2⟩
          have HB2 : Hid (Below w.heap.size w w2) := Lib.hid (HB.out.bt b2)
          clear b2
          go_wp2
          go_ret2
          exact ⟨by rw [HF.out]; rfl, HB2.out⟩
    · have hltz : ¬ (k : Int) < (n : Int) := by omega
      have hp0 : partErr P xs = 0 := by rw [HK.out, List.drop_eq_nil_of_le (by have := HN.out; omega)]; rfl
      have HJ2 : Hid (J = if 200 < GB.size then (⟨#[]⟩, 4) else (GB, 0)) := Lib.hid (by rw [HJ.out, hp0, if_neg (by simp)])
      clear HK hp0 HJ
      by_cases hbig : 200 < GB.size
      · have hbz : (200 : Int) < ((GB.size : Nat) : Int) := by omega
        have HF : Hid (J = (⟨#[]⟩, 4)) := Lib.hid (by rw [HJ2.out, if_pos hbig])
        clear hbig HJ2
        go_wp2_with fail
        refine (rGlue xs ⟨#[45, 45]⟩ _ wr (HV.out.below HB.out (Nat.le_refl _)) (by rw [← HN.out]; omega) (fun i => by
          have h8 := take_size ⟨#[45, 45]⟩ (by decide) 1000000 xs HZ.out i
          have h9 : xs.length * (1000000 + 2) ≤ 4 * (1000000 + 2) := Nat.mul_le_mul_right _ (by rw [← HN.out]; omega)
          omega)).mono ?_
        rintro e w5 ⟨rfl, rfl⟩
        have HB5 := HB
        have hgb : Value.string GB = Value.string (glueB xs) := by rw [HG.out]
        first
          | rw [show (Value.string ⟨(Lib.join (xs.map (·.data.toList)) (⟨#[45, 45]⟩ : ByteArray).data.toList).toArray⟩) = Value.string GB from hgb.symm]
          | rw [show Value.string (interB ⟨#[45, 45]⟩ xs) = Value.string GB from hgb.symm]
        clear hgb
        go_wp2
        go_ret2
        exact ⟨by rw [HF.out]; rfl, HB5.out⟩
      · have hbz : ((GB.size : Nat) : Int) ≤ 200 := by omega
        have HF : Hid (J = (GB, 0)) := Lib.hid (by rw [HJ2.out, if_neg hbig])
        clear hbig HJ2
        go_wp2_with fail
        refine (rGlue xs ⟨#[45, 45]⟩ _ wr (HV.out.below HB.out (Nat.le_refl _)) (by rw [← HN.out]; omega) (fun i => by
          have h8 := take_size ⟨#[45, 45]⟩ (by decide) 1000000 xs HZ.out i
          have h9 : xs.length * (1000000 + 2) ≤ 4 * (1000000 + 2) := Nat.mul_le_mul_right _ (by rw [← HN.out]; omega)
          omega)).mono ?_
        rintro e w5 ⟨rfl, rfl⟩
        have HB5 := HB
        have hgb : Value.string GB = Value.string (glueB xs) := by rw [HG.out]
        first
          | rw [show (Value.string ⟨(Lib.join (xs.map (·.data.toList)) (⟨#[45, 45]⟩ : ByteArray).data.toList).toArray⟩) = Value.string GB from hgb.symm]
          | rw [show Value.string (interB ⟨#[45, 45]⟩ xs) = Value.string GB from hgb.symm]
        clear hgb
        go_wp2
        go_ret2
        exact ⟨by rw [HF.out]; rfl, HB5.out⟩

end Go.Proofs.YtbolkkpgahoeaaaDoor
