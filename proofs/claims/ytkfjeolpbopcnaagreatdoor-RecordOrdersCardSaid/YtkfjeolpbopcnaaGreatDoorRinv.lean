/- A region that draws its order, by an invariant: what holds of the operations that have come up, whatever their order. -/
import Derived.Test.YtkfjeolpbopcnaaGreatDoorStrs
import Derived.Deep.RegionWith
namespace Go.Proofs.YtkfjeolpbopcnaaGreatDoor
open Go Go.RowKit

theorem listed_true {listed : Array Bool} {d : Nat} (h : listed.getD d false = true) : listed.getD d true = true := by
  rcases Nat.lt_or_ge d listed.size with h' | h'
  · simp [Array.getD, h'] at h ⊢; exact h
  · simp [Array.getD, Nat.not_lt.2 h'] at h
theorem set_listed {listed : Array Bool} {i m : Nat} (h : (listed.setIfInBounds i true).getD m true = true) : m = i ∨ listed.getD m true = true := by
  by_cases hm : i = m
  · exact .inl hm.symm
  · rw [getD_set_ne true hm] at h; exact .inr h
theorem count_set {listed : Array Bool} {i : Nat} (h : listed.getD i true = false) : (listed.setIfInBounds i true).toList.countP (fun b => !b) + 1 ≤ listed.toList.countP (fun b => !b) := by
  have hlt : i < listed.size := by
    rcases Nat.lt_or_ge i listed.size with h' | h'
    · exact h'
    · simp [Array.getD, Nat.not_lt.2 h'] at h
  have hi : listed.toList[i]'(by simpa using hlt) = false := by simpa [Array.getD, hlt] using h
  rw [Array.toList_setIfInBounds, List.countP_set (by simpa using hlt), hi]
  have : 0 < listed.toList.countP (fun b => !b) := List.countP_pos_iff.2 ⟨false, by rw [← hi]; exact List.getElem_mem _, rfl⟩
  simp only [Bool.not_false, if_true, Bool.not_true, Bool.false_eq_true, if_false]
  omega
theorem count_zero {listed : Array Bool} (h : listed.toList.countP (fun b => !b) = 0) (j : Nat) : listed.getD j true = true := by
  rcases Nat.lt_or_ge j listed.size with h' | h'
  · have := List.countP_eq_zero.1 h (listed[j]) (by rw [← Array.getElem_toList]; exact List.getElem_mem _)
    simpa [Array.getD, h'] using this
  · simp [Array.getD, Nat.not_lt.2 h']
theorem wpAny_inv {P : Program} {md : Region.Mode} {ops : Array Oper} {Q : Exit → Act → World → Prop} (I : Array Bool → Act → World → Prop)
    (hstep : ∀ listed a w i, listed.size = ops.size → I listed a w → i ∈ Region.ready md ops listed → wpOp P ops Q i (fun a' w' => I (listed.setIfInBounds i true) a' w') a w)
    (hdone : ∀ listed a w, listed.size = ops.size → I listed a w → Region.ready md ops listed = [] → Q .normal a w) :
    ∀ fuel listed a w, listed.size = ops.size → listed.toList.countP (fun b => !b) ≤ fuel → I listed a w → wpAny P md ops Q fuel listed a w
  | 0, listed, a, w, hs, hc, hI => by
    have h0 : Region.ready md ops listed = [] := by
      rw [List.eq_nil_iff_forall_not_mem]
      intro j hj
      have := (mem_ready.1 hj).1
      rw [count_zero (Nat.le_zero.1 hc) j] at this
      cases this
    exact ⟨h0, hdone listed a w hs hI h0⟩
  | fuel + 1, listed, a, w, hs, hc, hI => by
    refine ⟨fun h0 => hdone listed a w hs hI h0, fun i hi => wpOp_mono (fun a' w' h => ?_) (hstep listed a w i hs hI hi)⟩
    refine wpAny_inv I hstep hdone fuel _ a' w' (by rw [Array.size_setIfInBounds]; exact hs) ?_ h
    have := count_set (mem_ready.1 hi).1
    omega
/-- The region, by an invariant. -/
theorem wp_region_inv {P : Program} {id : Nat} {ops : Array Oper} {Q : Exit → Act → World → Prop} {a : Act} {w : World} (hm : P.follows .mixedOrders = true) (I : Array Bool → Act → World → Prop)
    (h0 : I (Array.replicate ops.size false) a w.drew)
    (hstep : ∀ listed a w i, listed.size = ops.size → I listed a w → i ∈ Region.ready .any ops listed → wpOp P ops Q i (fun a' w' => I (listed.setIfInBounds i true) a' w') a w)
    (hdone : ∀ listed a w, listed.size = ops.size → I listed a w → Region.ready .any ops listed = [] → Q .normal a w) : (Code.region id ops true).wp P Q a w := by
  refine wp_region_any hm (wpAny_inv I hstep hdone _ _ _ _ (by simp) ?_ h0)
  simp [List.countP_replicate]
/-- One operation, what follows behind a variable. -/
theorem wpOp_step {P : Program} {ops : Array Oper} {Q : Exit → Act → World → Prop} {i : Nat} {o : Oper} {K : Act → World → Prop} {a : Act} {w : World} (ho : ops[i]? = some o)
    (h : ∀ K' : Act → World → Prop, (∀ a w, K a w → K' a w) → if Region.wanted o (yielded ops a.tmps) = true then Oper.wp P o a w K' Q else K' (a.put o.dst undef) w) : wpOp P ops Q i K a w := by
  have h1 := h K (fun _ _ h => h)
  unfold wpOp
  rw [ho]
  dsimp only
  split
  · rename_i hw; rw [if_pos hw] at h1; exact .inl h1
  · rename_i hw; rw [if_neg hw] at h1; exact h1
/-- Does operation j wait for operation d? -/
def waits (md : Region.Mode) (ops : Array Oper) (j d : Nat) : Bool := match ops[j]? with | some o => o.after.any fun e => e.on == d && Region.binds md e | none => false
theorem waited {md : Region.Mode} {ops : Array Oper} {listed : Array Bool} {j d : Nat} (hj : j ∈ Region.ready md ops listed) (hb : waits md ops j d = true) : listed.getD d true = true := by
  obtain ⟨-, o, ho, hall⟩ := mem_ready.1 hj
  unfold waits at hb
  rw [ho] at hb
  simp only [Array.any_eq_true', Bool.and_eq_true, beq_iff_eq] at hb
  obtain ⟨e, he, rfl, hbd⟩ := hb
  exact listed_true (hall e he hbd)
/-- Each operation waits for earlier ones alone. -/
def forward (ops : Array Oper) : Bool := (List.range ops.size).all fun j => match ops[j]? with | some o => o.after.all fun e => decide (e.on < j) | none => true
theorem all_listed {md : Region.Mode} {ops : Array Oper} {listed : Array Bool} (hf : forward ops = true) (hs : listed.size = ops.size) (h0 : Region.ready md ops listed = []) : ∀ m, listed.getD m true = true := by
  intro m
  induction m using Nat.strongRecOn with
  | _ m ih =>
    rcases Nat.lt_or_ge m listed.size with hm | hm
    · cases hl : listed.getD m true with
      | true => rfl
      | false =>
        have hmo : m < ops.size := by omega
        have : m ∈ Region.ready md ops listed := by
          refine mem_ready.2 ⟨hl, ops[m], by simp [hmo], fun e he _ => ?_⟩
          have hfm := List.all_eq_true.1 hf m (List.mem_range.2 hmo)
          simp only [Array.getElem?_eq_getElem hmo] at hfm
          have hlt : e.on < m := by
            have := Array.all_eq_true'.1 hfm e he
            simpa using this
          have h1 := ih e.on hlt
          have hin : e.on < listed.size := by omega
          simpa [Array.getD, hin] using h1
        rw [h0] at this
        cases this
    · simp [Array.getD, Nat.not_lt.2 hm]
end Go.Proofs.YtkfjeolpbopcnaaGreatDoor
