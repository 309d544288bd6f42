/- The walk of the program's Text (layer 12). -/
import Derived.Test.YtbolkkpgahoeaaaDoorHtx
namespace Go.Proofs.YtbolkkpgahoeaaaDoor
open Go Go.RowKit

def stageB (a b c : ByteArray) (k : Nat) : ByteArray := if k = 0 then a else if k = 1 then addB a b else textB a b c
set_option maxRecDepth 100000 in
set_option maxHeartbeats 2000000 in
theorem pText {N : ByteArray → Option (ByteArray × ByteArray × ByteArray)} (hN : NameDec N) (a b c : ByteArray) (w : World) (hE : Env w) (ha : a.size ≤ 30000) (hb : b.size ≤ 30000) (hc : c.size ≤ 30000) :
    Calls Tryd.prog 27 #[.agg #[.string a, .string b, .string c]] w fun e w' => e = .returned (.tuple #[.string (textR N a b c).1, .int .i64 (textR N a b c).2]) ∧ Below w.heap.size w w' := by
  obtain ⟨W0, hW0⟩ : ∃ W0, W0 = w.alloc (.cells #[.string a, .string b, .string c] 34) := ⟨_, rfl⟩
  obtain ⟨W1, hW1⟩ : ∃ W1, W1 = W0.alloc (.cells #[.string b, .string c] 9) := ⟨_, rfl⟩
  have hb0 : Below w.heap.size w W0 := by rw [hW0]; exact (Below.refl _ _).alloc (Nat.le_refl _) _
  have hb01 : Below W0.heap.size W0 W1 := by rw [hW1]; exact (Below.refl _ _).alloc (Nat.le_refl _) _
  have hs0 : w.heap.size < W0.heap.size := by rw [hW0, World.size_alloc]; exact Nat.lt_succ_self _
  have hg0 : W0.heap[w.heap.size]? = some (.cells #[.string a, .string b, .string c] 34) := by rw [hW0]; exact heap_alloc_new w _
  have hsz := textB_size a b c
  have hE1 : Env W1 := (hE.below hb0).below hb01
  have hnm := pName hN (textB a b c) W1 hE1 (by omega)
  obtain ⟨R, hR⟩ : ∃ R, R = textR N a b c := ⟨_, rfl⟩
  rw [← hR]
  obtain ⟨S, hS⟩ : ∃ S, S = textB a b c := ⟨_, rfl⟩
  unfold textR at hR
  rw [← hS] at hR hnm
  have HS := Lib.hid hS
  have HW : Hid (W1 = (w.alloc (.cells #[.string a, .string b, .string c] 34)).alloc (.cells #[.string b, .string c] 9)) := Lib.hid (by rw [hW1, hW0])
  have HB0 : Hid (Below w.heap.size w W1) := Lib.hid (hb0.bt hb01)
  have hs1 : w.heap.size < W1.heap.size := Nat.lt_of_lt_of_le hs0 hb01.size
  have HG : Hid (∀ W, Below W1.heap.size W1 W → W.heap[w.heap.size]? = some (.cells #[.string a, .string b, .string c] 34)) := Lib.hid (fun W hW => (hW.block _ hs1).trans ((hb01.block _ hs0).trans hg0))
  have HR := Lib.hid hR
  have HNM := Lib.hid hnm
  clear hS hsz hW0 hb0 hg0 hW1 hb01 hE hE1 hR hnm
  go_enter Tryd.func27, Tryd.ntmps27
  go_wp2
  go_loop [4, 17] (fun sv iv => ∃ k : Nat, iv = .int .i64 k ∧ k ≤ 2 ∧ sv = .string (stageB a b c k)) (fun _ iv => 2 - (intOf iv).toNat)
  case atStart => exact ⟨0, rfl, by omega, rfl⟩
  case round =>
    obtain ⟨k, rfl, hk, rfl⟩ := hrel
    have hk3 : k = 0 ∨ k = 1 ∨ k = 2 := by omega
    rcases hk3 with rfl | rfl | rfl
    · have e0 : stageB a b c 0 = a := rfl
      have HE1 : Hid (stageB a b c 1 = addB a b) := Lib.hid rfl
      rw [e0]
      clear e0
      cases he : b.toList.isEmpty with
      | true =>
        have HE2 : Hid (stageB a b c 1 = a) := Lib.hid (by rw [HE1.out]; unfold addB; rw [if_pos he])
        go_wp2
        go_round
        case rel => exact ⟨1, rfl, by omega, by rw [HE2.out]⟩
        case measure => simp [intOf]
      | false =>
        have HE2 : Hid (stageB a b c 1 = a ++ (⟨#[44, 32]⟩ ++ b)) := Lib.hid (by rw [HE1.out]; unfold addB; rw [if_neg (by rw [he]; simp)])
        go_wp2
        go_round
        case rel => exact ⟨1, rfl, by omega, by rw [HE2.out]⟩
        case measure => simp [intOf]
    · obtain ⟨s1, hs1'⟩ : ∃ s1, s1 = stageB a b c 1 := ⟨_, rfl⟩
      have hz1 : s1.size ≤ 60002 := by
        have : s1 = addB a b := hs1'
        rw [this]
        have := addB_size a b
        omega
      have HE1 : Hid (stageB a b c 2 = addB s1 c) := Lib.hid (by rw [hs1']; rfl)
      rw [← hs1']
      clear hs1'
      cases he : c.toList.isEmpty with
      | true =>
        have HE2 : Hid (stageB a b c 2 = s1) := Lib.hid (by rw [HE1.out]; unfold addB; rw [if_pos he])
        go_wp2
        go_round
        case rel => exact ⟨2, rfl, by omega, by rw [HE2.out]⟩
        case measure => simp [intOf]
      | false =>
        have HE2 : Hid (stageB a b c 2 = s1 ++ (⟨#[44, 32]⟩ ++ c)) := Lib.hid (by rw [HE1.out]; unfold addB; rw [if_neg (by rw [he]; simp)])
        go_wp2
        go_round
        case rel => exact ⟨2, rfl, by omega, by rw [HE2.out]⟩
        case measure => simp [intOf]
    · have e2 : stageB a b c 2 = S := by rw [HS.out]; rfl
      rw [e2]
      clear e2
      cases hNN : N S with
      | none =>
        have hr := HR.out
        rw [hNN, if_neg (by simp)] at hr
        have hnm := HNM.out
        rw [nameR_none hNN] at hnm
        have HRR := Lib.hid hr
        have HNN := Lib.hid hnm
        clear hr hnm hNN HR HNM
        go_wp2_with fail
        rw [← HW.out]
        refine HNN.out.mono ?_
        rintro e w1 ⟨rfl, b1⟩
        have HB1 := Lib.hid (HB0.out.bt b1)
        clear b1
        go_wp2
        go_ret2
        exact ⟨by rw [HRR.out]; rfl, HB1.out.alloc HB1.out.size _⟩
      | some q =>
        obtain ⟨x, y, z⟩ := q
        have hr := HR.out
        rw [hNN] at hr
        have hnm := HNM.out
        rw [nameR_some hNN] at hnm
        by_cases heq : (x, y, z) = (a, b, c)
        · rw [if_pos (by rw [heq])] at hr
          cases heq
          have HRR := Lib.hid hr
          have HNN := Lib.hid hnm
          clear hr hnm hNN HR HNM
          go_wp2_with fail
          rw [← HW.out]
          refine HNN.out.mono ?_
          rintro e w1 ⟨rfl, b1⟩
          obtain ⟨⟨c0, c1, c2⟩, cf0, cf1, cf2⟩ := block_cells (HG.out w1 b1)
          have hlt : w.heap.size < w1.heap.size := Nat.lt_of_lt_of_le hs1 b1.size
          have HB1 := Lib.hid (HB0.out.bt b1)
          clear b1
          go_wp2
          go_ret2
          exact ⟨by rw [HRR.out]; rfl, HB1.out.alloc HB1.out.size _⟩
        · rw [if_neg (fun e => heq (Option.some.inj e))] at hr
          have HRR := Lib.hid hr
          have HNN := Lib.hid hnm
          clear hr hnm hNN HR HNM
          have hd : (x.toList == a.toList && (y.toList == b.toList && z.toList == c.toList)) = false := by
            rw [Bool.eq_false_iff]
            intro h
            simp only [Bool.and_eq_true, beq_iff_eq] at h
            refine heq ?_
            have e1 : x = a := ba_ext (by rw [← ByteArray.toList_eq, ← ByteArray.toList_eq, h.1])
            have e2 : y = b := ba_ext (by rw [← ByteArray.toList_eq, ← ByteArray.toList_eq, h.2.1])
            have e3 : z = c := ba_ext (by rw [← ByteArray.toList_eq, ← ByteArray.toList_eq, h.2.2])
            rw [e1, e2, e3]
          go_wp2_with fail
          rw [← HW.out]
          refine HNN.out.mono ?_
          rintro e w1 ⟨rfl, b1⟩
          obtain ⟨⟨c0, c1, c2⟩, cf0, cf1, cf2⟩ := block_cells (HG.out w1 b1)
          have hlt : w.heap.size < w1.heap.size := Nat.lt_of_lt_of_le hs1 b1.size
          have HB1 := Lib.hid (HB0.out.bt b1)
          clear b1 heq
          go_wp2
          all_goals go_ret2
          all_goals first
            | exact ⟨by rw [HRR.out]; rfl, HB1.out.alloc HB1.out.size _⟩
            | (exfalso; rename_i h1 h2 h3; rw [h1, h2, h3] at hd; simp at hd)
end Go.Proofs.YtbolkkpgahoeaaaDoor
