/- The walks of strings.Replace and ReplaceAll at blanks (the loader leaves out a panic of strings.Builder, so the library's contract does not lay). -/
import Derived.Test.YtkfjeolpbopcnaaGreatDoorBws
import Derived.Test.YtkfjeolpbopcnaaGreatDoorEnv
import Derived.Lib.ReplaceLaws
namespace Go.Proofs.YtkfjeolpbopcnaaGreatDoor
open Go Go.RowKit

theorem replaceAll_blank (l : List UInt8) : Lib.replaceAll l [32] [48] = Lib.replaceK [32] [48] (Lib.count l [32]) l := by
  unfold Lib.replaceAll Lib.replace
  rw [if_neg (by decide)]
  unfold Lib.replaceNum
  rw [if_pos (by omega)]
theorem cells_step (acc : List UInt8) (s : ByteArray) (start j : Nat) : Lib.byteCells acc ++ Lib.strCells (s.extract start (start + j)) ++ Lib.strCells ⟨#[48]⟩ = Lib.byteCells (acc ++ (s.data.toList.drop start).take j ++ [48]) := by
  rw [Lib.strCells_eq, Lib.strCells_eq, Lib.extract_data, Nat.add_sub_cancel_left, ← Lib.byteCells_append, ← Lib.byteCells_append]

set_option maxRecDepth 100000 in
set_option maxHeartbeats 4000000 in
theorem pReplace (s : ByteArray) (w : World) (hE : Env w) (hs : s.size ≤ 1000000) :
    Calls Tryz.prog 102 #[.string s, .string ⟨#[32]⟩, .string ⟨#[48]⟩, .int .i64 (-1)] w fun e w' => e = .returned (.string ⟨(Lib.replaceAll s.data.toList [32] [48]).toArray⟩) ∧ Below w.heap.size w w' := by
  obtain ⟨m, hm⟩ := hE.max
  have hlt := lt_of_cell hm
  have hC := Any.strings_Count_any Tryz.lays138 s ⟨#[32]⟩ m w (by omega) hm (by decide)
  rw [replaceAll_blank]
  obtain ⟨K, hK⟩ : ∃ K, K = Lib.count s.data.toList [32] := ⟨_, rfl⟩
  have hK' : Lib.countB s ⟨#[32]⟩ = K := hK.symm
  rw [hK'] at hC
  have hKs : K ≤ s.size := by
    have := Lib.countB_mul_le ⟨#[32]⟩ (by decide) s.size s (Nat.le_refl _)
    rw [hK'] at this
    have e : (⟨#[32]⟩ : ByteArray).size = 1 := rfl
    rw [e] at this
    omega
  rw [← hK]
  by_cases h0 : K = 0
  · have hz : ((K : Int) == 0) = true := by
      have : (K : Int) = 0 := by omega
      simpa using this
    have hr : (⟨(Lib.replaceK [32] [48] K s.data.toList).toArray⟩ : ByteArray) = s := by
      rw [h0]; rfl
    rw [hr]
    have HC := Lib.hid hC
    clear hC hK hK' hr h0 hE
    go_enter Tryz.func102, Tryz.ntmps102
    go_wp2_with fail
    refine HC.out.mono ?_
    rintro e w1 ⟨rfl, rfl⟩
    go_wp2
    go_ret
    exact ⟨rfl, Below.refl _ _⟩
  · have hz : ((K : Int) == 0) = false := by
      have : (K : Int) ≠ 0 := by omega
      simpa using this
    obtain ⟨A, hA⟩ : ∃ A, A = Lib.replaceK [32] [48] K s.data.toList := ⟨_, rfl⟩
    rw [← hA]
    have HC := Lib.hid hC
    have HA := Lib.hid hA
    have HK := Lib.hid hK
    have HM := Lib.hid (And.intro hm hlt)
    clear hC hK hK' h0 hE hA hm hlt
    go_enter Tryz.func102, Tryz.ntmps102
    go_wp2_with fail
    refine HC.out.mono ?_
    rintro e w1 ⟨rfl, rfl⟩
    go_wp2_with fail
    refine (Tryz.Builder_Grow_fresh w1.heap.size w1.heap.size s.size _ (Nat.le_refl _) (heap_alloc_new w1 _) (by simp) (by omega)).mono ?_
    rintro e w2 ⟨rfl, hb0, hb1⟩
    have HI : Hid (IsB w1.heap.size w1.heap.size (Lib.byteCells []) w2) := Lib.hid (Lib.IsBuilderF.of (Or.inr hb0))
    have HB := Lib.hid (((Below.refl w1.heap.size w1).alloc (Nat.le_refl _) _).trans hb1)
    clear hb0 hb1
    go_wp2_with fail
    go_loopw [11, 53] (fun v11 v53 wr => ∃ (i start : Nat) (acc : List UInt8), v53 = .int .i64 i ∧ v11 = .int .i64 start ∧ i ≤ K ∧ start ≤ s.size ∧ acc.length ≤ start ∧
      Hid (IsB w1.heap.size w1.heap.size (Lib.byteCells acc) wr) ∧ Hid (Below w1.heap.size w1 wr) ∧ Hid (A = acc ++ Lib.replaceK [32] [48] (K - i) (s.data.toList.drop start)) ∧ Hid (K - i ≤ Lib.count (s.data.toList.drop start) [32])) (fun _ v53 _ => K - (intOf v53).toNat)
    case atStart => exact ⟨0, 0, [], rfl, rfl, by omega, Nat.zero_le _, Nat.le_refl _, HI, HB, Lib.hid (by rw [HA.out]; simp), Lib.hid (by rw [HK.out]; simp)⟩
    case round =>
      obtain ⟨i, start, acc, rfl, rfl, hi, hst, hal, HI, HB, HR, HN⟩ := hrel
      have c1 : (0 : Int) ≤ (start : Int) := by omega
      have c2 : (start : Int) ≤ (s.size : Int) := by omega
      have hBw : w1.heap.size ≤ wr.heap.size := HB.out.size
      by_cases hiK : i < K
      · have hiz : (i : Int) < (K : Int) := by omega
        have hN := HN.out
        obtain ⟨g, hg⟩ : ∃ g, K - i = g + 1 := ⟨K - i - 1, by omega⟩
        obtain ⟨j, hj⟩ := Lib.index_of_count (s := s.data.toList.drop start) (old := [32]) (by omega)
        have hroom : j + 1 ≤ s.size - start := by
          have := Lib.index_room (s.data.toList.drop start) [32] (by rw [hj]; omega)
          rw [hj, List.length_drop, ← Lib.size_eq] at this
          simp only [List.length_cons, List.length_nil] at this
          omega
        have hcnt : g ≤ Lib.count (s.data.toList.drop (start + j + 1)) [32] := by
          have := Lib.count_hit (s := s.data.toList.drop start) (sub := [32]) (i := j) (by simp) hj
          rw [List.drop_drop] at this
          simp only [List.length_cons, List.length_nil] at this
          rw [show start + j + 1 = start + (j + (0 + 1)) by omega]
          omega
        have hrep : A = (acc ++ (s.data.toList.drop start).take j ++ [48]) ++ Lib.replaceK [32] [48] g (s.data.toList.drop (start + j + 1)) := by
          rw [HR.out, hg, Lib.replaceK_hit _ _ g _ j hj, List.drop_drop]
          simp only [List.append_assoc, List.length_cons, List.length_nil]
          rw [show start + (j + (0 + 1)) = start + j + 1 by omega]
        have hmr : wr.cell? ⟨0, 0, none⟩ = some (.int .i64 m) := (HB.out.cell (p := ⟨0, 0, none⟩) HM.out.2).trans HM.out.1
        have c3 : (start : Int) ≤ (start : Int) + (j : Int) := by omega
        have c4 : (start : Int) + (j : Int) ≤ (s.size : Int) := by omega
        have htl : ((s.data.toList.drop start).take j).length = j := by rw [List.length_take, List.length_drop, ← Lib.size_eq]; omega
        have HREP := Lib.hid hrep
        have HCNT := Lib.hid hcnt
        have HI2 := Lib.hid (Tryz.strings_Index (s.extract start s.size) ⟨#[32]⟩ m wr (by rw [ByteArray.size_extract]; omega) hmr)
        have HJ := Lib.hid hj
        have HG := Lib.hid hg
        clear hrep hcnt hN HR HN hj hmr hg
        go_wp2_with fail
        refine HI2.out.mono ?_
        rintro e w3 ⟨rfl, rfl⟩
        rw [Lib.extract_to_end]
        rw [HJ.out]
        go_wp2_with fail
        refine (writeString_any w1.heap.size w1.heap.size _ (s.extract start (start + j)) w3 HI.out (by rw [Lib.byteCells_length, ByteArray.size_extract]; omega) hBw).mono ?_
        rintro e w4 ⟨rfl, h4, hb4, -⟩
        have HB4 := Lib.hid (HB.out.trans hb4)
        have H4 : Hid (IsB w1.heap.size w1.heap.size _ w4) := Lib.hid (.inr h4)
        clear h4 hb4
        go_wp2_with fail
        refine (writeString_any w1.heap.size w1.heap.size _ ⟨#[48]⟩ w4 H4.out (by rw [List.length_append, Lib.byteCells_length, Lib.strCells_length, ByteArray.size_extract]; have e : (⟨#[48]⟩ : ByteArray).size = 1 := rfl; omega) HB4.out.size).mono ?_
        rintro e w5 ⟨rfl, h5, hb5, -⟩
        rw [cells_step] at h5
        have HB5 := Lib.hid (HB4.out.trans hb5)
        have H5 : Hid (IsB w1.heap.size w1.heap.size _ w5) := Lib.hid (.inr h5)
        clear h5 hb5
        go_wp2
        go_roundw
        case rel => exact ⟨i + 1, start + j + 1, _, by go_num, by go_num, by omega, by omega, by rw [List.length_append, List.length_append, htl]; simp only [List.length_cons, List.length_nil]; omega, H5, HB5, Lib.hid (by rw [HREP.out, show K - (i + 1) = g by have := HG.out; omega]), Lib.hid (by rw [show K - (i + 1) = g by have := HG.out; omega]; exact HCNT.out)⟩
        case measure => simp [intOf]; omega
      · have hiz : ¬ (i : Int) < (K : Int) := by omega
        have HF : Hid (A = acc ++ s.data.toList.drop start) := Lib.hid (by rw [HR.out, show K - i = 0 by omega]; rfl)
        clear HR HN
        go_wp2_with fail
        refine (writeString_any w1.heap.size w1.heap.size _ _ wr HI.out (by rw [Lib.byteCells_length, ByteArray.size_extract]; omega) hBw).mono ?_
        rintro e w4 ⟨rfl, h4, hb4, -⟩
        rw [Lib.strCells_eq, Lib.extract_to_end, ← Lib.byteCells_append, ← HF.out] at h4
        have HB4 := Lib.hid (HB.out.trans hb4)
        have H4 : Hid (IsB w1.heap.size w1.heap.size (Lib.byteCells A) w4) := Lib.hid (.inr h4)
        clear h4 hb4
        go_wp2_with fail
        refine (Tryz.Builder_String_any_k w1.heap.size w1.heap.size A w4 H4.out HB4.out.size).mono ?_
        rintro e w5 ⟨rfl, _, b5, _⟩
        have HB5 := Lib.hid (HB4.out.trans b5)
        clear b5
        go_wp2
        go_ret
        exact ⟨rfl, HB5.out⟩

set_option maxRecDepth 100000 in
set_option maxHeartbeats 1000000 in
theorem pReplaceAll (s : ByteArray) (w : World) (hE : Env w) (hs : s.size ≤ 1000000) :
    Calls Tryz.prog 73 #[.string s, .string ⟨#[32]⟩, .string ⟨#[48]⟩] w fun e w' => e = .returned (.string ⟨(Lib.replaceAll s.data.toList [32] [48]).toArray⟩) ∧ Below w.heap.size w w' := by
  have HC := Lib.hid (pReplace s w hE hs)
  clear hE
  go_enter Tryz.func73, Tryz.ntmps73
  go_wp2_with fail
  refine HC.out.mono ?_
  rintro e w1 ⟨rfl, b1⟩
  go_wp2
  go_ret
  exact ⟨rfl, b1⟩
end Go.Proofs.YtkfjeolpbopcnaaGreatDoor
