/- The walk of the reference's Text (layer 12). -/
import Derived.Test.YtbolkkpgahoeaaaDoorHnm
namespace Go.Proofs.YtbolkkpgahoeaaaDoor
open Go Go.RowKit

def addB (s p : ByteArray) : ByteArray := if p.toList.isEmpty = true then s else s ++ (⟨#[44, 32]⟩ ++ p)
/-- What a name is written as, in bytes. -/
def textB (a b c : ByteArray) : ByteArray := addB (addB a b) c
/-- The text of a name, or refused. -/
def textR (N : ByteArray → Option (ByteArray × ByteArray × ByteArray)) (a b c : ByteArray) : ByteArray × Int := if N (textB a b c) = some (a, b, c) then (textB a b c, 0) else (⟨#[]⟩, 3)
theorem addB_size (s p : ByteArray) : (addB s p).size ≤ s.size + 2 + p.size := by
  unfold addB
  split
  · omega
  · rw [ByteArray.size_append, ByteArray.size_append]
    have : (⟨#[44, 32]⟩ : ByteArray).size = 2 := rfl
    omega
theorem textB_size (a b c : ByteArray) : (textB a b c).size ≤ a.size + b.size + c.size + 4 := by
  have h1 := addB_size (addB a b) c
  have h2 := addB_size a b
  unfold textB
  omega

set_option maxRecDepth 100000 in
set_option maxHeartbeats 2000000 in
theorem rText {N : ByteArray → Option (ByteArray × ByteArray × ByteArray)} (hname : ∀ (s : ByteArray) (W : World), s.size ≤ 100000 → Calls Tryd.prog 26 #[.string s] W fun e w' => e = .returned (.tuple #[.agg #[.string (nameR N s).1, .string (nameR N s).2.1, .string (nameR N s).2.2.1], .int .i64 (nameR N s).2.2.2]) ∧ Below W.heap.size W w')
    (a b c : ByteArray) (w : World) (ha : a.size ≤ 30000) (hb : b.size ≤ 30000) (hc : c.size ≤ 30000) :
    Calls Tryd.prog 28 #[.agg #[.string a, .string b, .string c]] w fun e w' => e = .returned (.tuple #[.string (textR N a b c).1, .int .i64 (textR N a b c).2]) ∧ Below w.heap.size w w' := by
  obtain ⟨W0, hW0⟩ : ∃ W0, W0 = w.alloc (.cells #[.string a, .string b, .string c] 34) := ⟨_, rfl⟩
  have hb0 : Below w.heap.size w W0 := by rw [hW0]; exact (Below.refl _ _).alloc (Nat.le_refl _) _
  have hs0 : w.heap.size < W0.heap.size := by rw [hW0, World.size_alloc]; exact Nat.lt_succ_self _
  have hg0 : W0.heap[w.heap.size]? = some (.cells #[.string a, .string b, .string c] 34) := by rw [hW0]; exact heap_alloc_new w _
  have hsz := textB_size a b c
  have hnm := hname (textB a b c) W0 (by omega)
  obtain ⟨R, hR⟩ : ∃ R, R = textR N a b c := ⟨_, rfl⟩
  rw [← hR]
  obtain ⟨S, hS⟩ : ∃ S, S = textB a b c := ⟨_, rfl⟩
  unfold textR at hR
  rw [← hS] at hR hnm
  have HS := Lib.hid hS
  have HW0 := Lib.hid hW0
  have HB0 := Lib.hid hb0
  have HG : Hid (∀ W, Below W0.heap.size W0 W → W.heap[w.heap.size]? = some (.cells #[.string a, .string b, .string c] 34)) := Lib.hid (fun W hW => (hW.block _ hs0).trans hg0)
  have key : ∀ be ce : Bool, b.toList.isEmpty = be → c.toList.isEmpty = ce → S = (if ce = true then (if be = true then a else a ++ (⟨#[44, 32]⟩ ++ b)) else (if be = true then a else a ++ (⟨#[44, 32]⟩ ++ b)) ++ (⟨#[44, 32]⟩ ++ c)) → Calls Tryd.prog 28 #[.agg #[.string a, .string b, .string c]] w fun e w' => e = .returned (.tuple #[.string R.1, .int .i64 R.2]) ∧ Below w.heap.size w w' := by
    intro be ce hbe hce hSS
    clear hS HS hsz hW0 hb0 hg0
    cases hNN : N S with
    | none =>
      rw [hNN, if_neg (by simp)] at hR
      rw [nameR_none hNN] at hnm
      have HR := Lib.hid hR
      have HNM := Lib.hid hnm
      have HSS := Lib.hid hSS
      clear hR hnm hSS hNN hname
      cases be <;> cases ce
      all_goals
        go_enter Tryd.func28, Tryd.ntmps28
        go_wp2_with fail
        rw [← HW0.out]
        have hq := HSS.out
        simp only [Bool.false_eq_true, if_true, if_false] at hq
        rw [← hq]
        clear hq
        refine HNM.out.mono ?_
        rintro e w1 ⟨rfl, b1⟩
        have HB1 := Lib.hid (HB0.out.bt b1)
        clear b1
        go_wp2
        go_ret2
        exact ⟨by rw [HR.out]; rfl, HB1.out.alloc HB1.out.size _⟩
    | some q =>
      obtain ⟨x, y, z⟩ := q
      rw [nameR_some hNN] at hnm
      rw [hNN] at hR
      by_cases heq : (x, y, z) = (a, b, c)
      · rw [if_pos (by rw [heq])] at hR
        cases heq
        have HR := Lib.hid hR
        have HNM := Lib.hid hnm
        have HSS := Lib.hid hSS
        clear hR hnm hSS hNN hname
        cases be <;> cases ce
        all_goals
          go_enter Tryd.func28, Tryd.ntmps28
          go_wp2_with fail
          rw [← HW0.out]
          have hq := HSS.out
          simp only [Bool.false_eq_true, if_true, if_false] at hq
          rw [← hq]
          clear hq
          refine HNM.out.mono ?_
          rintro e w1 ⟨rfl, b1⟩
          obtain ⟨⟨c0, c1, c2⟩, cf0, cf1, cf2⟩ := block_cells (HG.out w1 b1)
          have hlt : w.heap.size < w1.heap.size := Nat.lt_of_lt_of_le hs0 b1.size
          have HB1 := Lib.hid (HB0.out.bt b1)
          clear b1
          go_wp2
          go_ret2
          exact ⟨by rw [HR.out]; rfl, HB1.out.alloc HB1.out.size _⟩
      · rw [if_neg (fun e => heq (Option.some.inj e))] at hR
        have HR := Lib.hid hR
        have HNM := Lib.hid hnm
        have HSS := Lib.hid hSS
        clear hR hnm hSS hNN hname
        have hd : (x.toList == a.toList && (y.toList == b.toList && z.toList == c.toList)) = false := by
          rw [Bool.eq_false_iff]
          intro h
          simp only [Bool.and_eq_true, beq_iff_eq] at h
          refine heq ?_
          have e1 : x = a := ba_ext (by rw [← ByteArray.toList_eq, ← ByteArray.toList_eq, h.1])
          have e2 : y = b := ba_ext (by rw [← ByteArray.toList_eq, ← ByteArray.toList_eq, h.2.1])
          have e3 : z = c := ba_ext (by rw [← ByteArray.toList_eq, ← ByteArray.toList_eq, h.2.2])
          rw [e1, e2, e3]
        cases be <;> cases ce
        all_goals
          go_enter Tryd.func28, Tryd.ntmps28
          go_wp2_with fail
          rw [← HW0.out]
          have hq := HSS.out
          simp only [Bool.false_eq_true, if_true, if_false] at hq
          rw [← hq]
          clear hq
          refine HNM.out.mono ?_
          rintro e w1 ⟨rfl, b1⟩
          obtain ⟨⟨c0, c1, c2⟩, cf0, cf1, cf2⟩ := block_cells (HG.out w1 b1)
          have hlt : w.heap.size < w1.heap.size := Nat.lt_of_lt_of_le hs0 b1.size
          have HB1 := Lib.hid (HB0.out.bt b1)
          clear b1 heq
          go_wp2
          all_goals go_ret2
          all_goals first
            | exact ⟨by rw [HR.out]; rfl, HB1.out.alloc HB1.out.size _⟩
            | (exfalso; rename_i h1 h2 h3; rw [h1, h2, h3] at hd; simp at hd)
  exact key _ _ rfl rfl (by rw [HS.out]; unfold textB addB; rfl)
end Go.Proofs.YtbolkkpgahoeaaaDoor
