/- A region that draws its order, by an invariant: what holds of the operations that have come up, whatever their order. The walk of the statement PatronReasons (layer 28): it returns true, and what was there before stays. Its one statement draws its order: by an invariant. -/
import Derived.Test.YtlpeppigebbfkaaDoorStrs
import Derived.Deep.RegionWith
import Derived.Test.YtlpeppigebbfkaaDoorNlw
import Derived.Test.YtlpeppigebbfkaaDoorNre
namespace Go.Proofs.YtlpeppigebbfkaaDoor
open Go Go.RowKit

theorem listed_true {listed : Array Bool} {d : Nat} (h : listed.getD d false = true) : listed.getD d true = true := by
  rcases Nat.lt_or_ge d listed.size with h' | h'
  · simp [Array.getD, h'] at h ⊢; exact h
  · simp [Array.getD, Nat.not_lt.2 h'] at h
theorem set_listed {listed : Array Bool} {i m : Nat} (h : (listed.setIfInBounds i true).getD m true = true) : m = i ∨ listed.getD m true = true := by
  by_cases hm : i = m
  · exact .inl hm.symm
  · rw [getD_set_ne true hm] at h; exact .inr h
theorem count_set {listed : Array Bool} {i : Nat} (h : listed.getD i true = false) : (listed.setIfInBounds i true).toList.countP (fun b => !b) + 1 ≤ listed.toList.countP (fun b => !b) := by
  have hlt : i < listed.size := by
    rcases Nat.lt_or_ge i listed.size with h' | h'
    · exact h'
    · simp [Array.getD, Nat.not_lt.2 h'] at h
  have hi : listed.toList[i]'(by simpa using hlt) = false := by simpa [Array.getD, hlt] using h
  rw [Array.toList_setIfInBounds, List.countP_set (by simpa using hlt), hi]
  have : 0 < listed.toList.countP (fun b => !b) := List.countP_pos_iff.2 ⟨false, by rw [← hi]; exact List.getElem_mem _, rfl⟩
  simp only [Bool.not_false, if_true, Bool.not_true, Bool.false_eq_true, if_false]
  omega
theorem count_zero {listed : Array Bool} (h : listed.toList.countP (fun b => !b) = 0) (j : Nat) : listed.getD j true = true := by
  rcases Nat.lt_or_ge j listed.size with h' | h'
  · have := List.countP_eq_zero.1 h (listed[j]) (by rw [← Array.getElem_toList]; exact List.getElem_mem _)
    simpa [Array.getD, h'] using this
  · simp [Array.getD, Nat.not_lt.2 h']
theorem wpAny_inv {P : Program} {md : Region.Mode} {ops : Array Oper} {Q : Exit → Act → World → Prop} (I : Array Bool → Act → World → Prop)
    (hstep : ∀ listed a w i, listed.size = ops.size → I listed a w → i ∈ Region.ready md ops listed → wpOp P ops Q i (fun a' w' => I (listed.setIfInBounds i true) a' w') a w)
    (hdone : ∀ listed a w, listed.size = ops.size → I listed a w → Region.ready md ops listed = [] → Q .normal a w) :
    ∀ fuel listed a w, listed.size = ops.size → listed.toList.countP (fun b => !b) ≤ fuel → I listed a w → wpAny P md ops Q fuel listed a w
  | 0, listed, a, w, hs, hc, hI => by
    have h0 : Region.ready md ops listed = [] := by
      rw [List.eq_nil_iff_forall_not_mem]
      intro j hj
      have := (mem_ready.1 hj).1
      rw [count_zero (Nat.le_zero.1 hc) j] at this
      cases this
    exact ⟨h0, hdone listed a w hs hI h0⟩
  | fuel + 1, listed, a, w, hs, hc, hI => by
    refine ⟨fun h0 => hdone listed a w hs hI h0, fun i hi => wpOp_mono (fun a' w' h => ?_) (hstep listed a w i hs hI hi)⟩
    refine wpAny_inv I hstep hdone fuel _ a' w' (by rw [Array.size_setIfInBounds]; exact hs) ?_ h
    have := count_set (mem_ready.1 hi).1
    omega
/-- The region, by an invariant. -/
theorem wp_region_inv {P : Program} {id : Nat} {ops : Array Oper} {Q : Exit → Act → World → Prop} {a : Act} {w : World} (hm : P.follows .mixedOrders = true) (I : Array Bool → Act → World → Prop)
    (h0 : I (Array.replicate ops.size false) a w.drew)
    (hstep : ∀ listed a w i, listed.size = ops.size → I listed a w → i ∈ Region.ready .any ops listed → wpOp P ops Q i (fun a' w' => I (listed.setIfInBounds i true) a' w') a w)
    (hdone : ∀ listed a w, listed.size = ops.size → I listed a w → Region.ready .any ops listed = [] → Q .normal a w) : (Code.region id ops true).wp P Q a w := by
  refine wp_region_any hm (wpAny_inv I hstep hdone _ _ _ _ (by simp) ?_ h0)
  simp [List.countP_replicate]
/-- One operation, what follows behind a variable. -/
theorem wpOp_step {P : Program} {ops : Array Oper} {Q : Exit → Act → World → Prop} {i : Nat} {o : Oper} {K : Act → World → Prop} {a : Act} {w : World} (ho : ops[i]? = some o)
    (h : ∀ K' : Act → World → Prop, (∀ a w, K a w → K' a w) → if Region.wanted o (yielded ops a.tmps) = true then Oper.wp P o a w K' Q else K' (a.put o.dst undef) w) : wpOp P ops Q i K a w := by
  have h1 := h K (fun _ _ h => h)
  unfold wpOp
  rw [ho]
  dsimp only
  split
  · rename_i hw; rw [if_pos hw] at h1; exact .inl h1
  · rename_i hw; rw [if_neg hw] at h1; exact h1
/-- Does operation j wait for operation d? -/
def waits (md : Region.Mode) (ops : Array Oper) (j d : Nat) : Bool := match ops[j]? with | some o => o.after.any fun e => e.on == d && Region.binds md e | none => false
theorem waited {md : Region.Mode} {ops : Array Oper} {listed : Array Bool} {j d : Nat} (hj : j ∈ Region.ready md ops listed) (hb : waits md ops j d = true) : listed.getD d true = true := by
  obtain ⟨-, o, ho, hall⟩ := mem_ready.1 hj
  unfold waits at hb
  rw [ho] at hb
  simp only [Array.any_eq_true', Bool.and_eq_true, beq_iff_eq] at hb
  obtain ⟨e, he, rfl, hbd⟩ := hb
  exact listed_true (hall e he hbd)
/-- Each operation waits for earlier ones alone. -/
def forward (ops : Array Oper) : Bool := (List.range ops.size).all fun j => match ops[j]? with | some o => o.after.all fun e => decide (e.on < j) | none => true
theorem all_listed {md : Region.Mode} {ops : Array Oper} {listed : Array Bool} (hf : forward ops = true) (hs : listed.size = ops.size) (h0 : Region.ready md ops listed = []) : ∀ m, listed.getD m true = true := by
  intro m
  induction m using Nat.strongRecOn with
  | _ m ih =>
    rcases Nat.lt_or_ge m listed.size with hm | hm
    · cases hl : listed.getD m true with
      | true => rfl
      | false =>
        have hmo : m < ops.size := by omega
        have : m ∈ Region.ready md ops listed := by
          refine mem_ready.2 ⟨hl, ops[m], by simp [hmo], fun e he _ => ?_⟩
          have hfm := List.all_eq_true.1 hf m (List.mem_range.2 hmo)
          simp only [Array.getElem?_eq_getElem hmo] at hfm
          have hlt : e.on < m := by
            have := Array.all_eq_true'.1 hfm e he
            simpa using this
          have h1 := ih e.on hlt
          have hin : e.on < listed.size := by omega
          simpa [Array.getD, hin] using h1
        rw [h0] at this
        cases this
    · simp [Array.getD, Nat.not_lt.2 hm]
end Go.Proofs.YtlpeppigebbfkaaDoor
namespace Go.Proofs.YtlpeppigebbfkaaDoor
open Go Go.RowKit

/-- What the slots of the region hold, once they are filled. -/
def rlit (g : Nat) (p : Pat) (day owed late : Int) : Nat → Option Value
  | 2 => some (.bool true)
  | 3 => some (.bool true)
  | 4 => some (.bool true)
  | 5 => some (.pointer (some ⟨g, 0, none⟩))
  | 6 => some (.agg #[.int .i64 p.id, .int .i64 p.kind, .int .i64 p.branch, .int .i64 p.till, .bool p.stop, .string p.name])
  | 7 => some (.pointer (some ⟨g, 6, none⟩))
  | 8 => some (.int .i64 day)
  | 9 => some (.pointer (some ⟨g, 7, none⟩))
  | 10 => some (.int .i64 owed)
  | 11 => some (.pointer (some ⟨g, 8, none⟩))
  | 12 => some (.int .i64 late)
  | 14 => some (.pointer (some ⟨g, 0, none⟩))
  | 15 => some (.agg #[.int .i64 p.id, .int .i64 p.kind, .int .i64 p.branch, .int .i64 p.till, .bool p.stop, .string p.name])
  | 16 => some (.pointer (some ⟨g, 6, none⟩))
  | 17 => some (.int .i64 day)
  | 18 => some (.pointer (some ⟨g, 7, none⟩))
  | 19 => some (.int .i64 owed)
  | 20 => some (.pointer (some ⟨g, 8, none⟩))
  | 21 => some (.int .i64 late)
  | 23 => some (.bool true)
  | 24 => some (.bool true)
  | _ => none
def rdn (j : Nat) : Nat := if j = 22 then 2 else j + 3
def RFact (g : Nat) (p : Pat) (day owed late : Int) (R : List Int) (k : Nat) (v : Value) (w : World) : Prop :=
  (k = 13 ∨ k = 22 → Ints w v R) ∧ ∀ u, rlit g p day owed late k = some u → v = u
theorem RFact.keep {g : Nat} {p : Pat} {day owed late : Int} {R : List Int} {k : Nat} {v : Value} {w w' : World} (h : RFact g p day owed late R k v w) (hb : Below w.heap.size w w') : RFact g p day owed late R k v w' :=
  ⟨fun hk => (h.1 hk).below hb (Nat.le_refl _), h.2⟩
def RFr (g : Nat) (p : Pat) (day owed late : Int) (xs : Nat → Value) : Act :=
  ⟨#[.agg #[.int .i64 p.id, .int .i64 p.kind, .int .i64 p.branch, .int .i64 p.till, .bool p.stop, .string p.name, .int .i64 day, .int .i64 owed, .int .i64 late], .pointer (some ⟨g, 0, none⟩), xs 2, xs 3, xs 4, xs 5, xs 6, xs 7, xs 8, xs 9, xs 10, xs 11, xs 12, xs 13, xs 14, xs 15, xs 16, xs 17, xs 18, xs 19, xs 20, xs 21, xs 22, xs 23, xs 24], []⟩
theorem rfacts_next {g : Nat} {p : Pat} {day owed late : Int} {R : List Int} {listed : Array Bool} {xs : Nat → Value} {w w' : World} {j : Nat} {v : Value} (hF : ∀ m, m < 23 → listed.getD m true = true → RFact g p day owed late R (rdn m) (xs (rdn m)) w)
    (hj : j < 23) (hb : Below w.heap.size w w') (hv : RFact g p day owed late R (rdn j) v w') : ∀ m, m < 23 → (listed.setIfInBounds j true).getD m true = true → RFact g p day owed late R (rdn m) ((fun k => if k = rdn j then v else xs k) (rdn m)) w' := by
  intro m hm hl
  by_cases h : m = j
  · subst h
    simp only [if_true]
    exact hv
  · rcases set_listed hl with h' | h'
    · exact absurd h' h
    · have hne : rdn m ≠ rdn j := by
        unfold rdn
        split <;> split <;> omega
      simp only [hne, if_false]
      exact (hF m hm h').keep hb

set_option maxRecDepth 100000 in
set_option maxHeartbeats 4000000 in
theorem law_PatronReasons (p : Pat) (day owed late : Int) (w : World) (hE : Env w) (_ : p.fits) (_ : in64 day) (_ : in64 owed) (_ : in64 late) :
    Calls Tryd.prog 5 #[.agg #[.int .i64 p.id, .int .i64 p.kind, .int .i64 p.branch, .int .i64 p.till, .bool p.stop, .string p.name, .int .i64 day, .int .i64 owed, .int .i64 late]] w fun e w' => e = .returned (.bool true) ∧ Below w.heap.size w w' := by
  obtain ⟨W0, hW0⟩ : ∃ W0, W0 = w.alloc (.cells #[.int .i64 p.id, .int .i64 p.kind, .int .i64 p.branch, .int .i64 p.till, .bool p.stop, .string p.name, .int .i64 day, .int .i64 owed, .int .i64 late] 34) := ⟨_, rfl⟩
  have hb0 : Below w.heap.size w W0 := by rw [hW0]; exact (Below.refl _ _).alloc (Nat.le_refl _) _
  have hs0 : w.heap.size < W0.heap.size := by rw [hW0, World.size_alloc]; exact Nat.lt_succ_self _
  have hc : ∀ j u, [.int .i64 p.id, .int .i64 p.kind, .int .i64 p.branch, .int .i64 p.till, .bool p.stop, .string p.name, .int .i64 day, .int .i64 owed, .int .i64 late][j]? = some u → W0.cell? ⟨w.heap.size, j, none⟩ = some u := by
    intro j u hj
    rw [hW0, Lib.cell_of_heap (heap_alloc_new w _), List.getElem?_toArray]
    exact hj
  have hE0 := hE.below hb0
  obtain ⟨g, hg⟩ : ∃ g, g = w.heap.size := ⟨_, rfl⟩
  have hgs : g < W0.heap.size := by rw [hg]; exact hs0
  have hcell : ∀ W, Below W0.heap.size W0 W → ∀ j u, [.int .i64 p.id, .int .i64 p.kind, .int .i64 p.branch, .int .i64 p.till, .bool p.stop, .string p.name, .int .i64 day, .int .i64 owed, .int .i64 late][j]? = some u → W.cell? ⟨g, j, none⟩ = some u := fun W hW j u hj => (hW.cell (p := ⟨g, j, none⟩) hgs).trans (by rw [hg]; exact hc j u hj)
  have HW0 := Lib.hid hW0
  have HE0 := Lib.hid hE0
  have HB0 := Lib.hid hb0
  have HC := Lib.hid hcell
  obtain ⟨R, hR⟩ : ∃ R, R = reasons p day owed late := ⟨_, rfl⟩
  have HR := Lib.hid hR
  have hrl : R.length ≤ 1000000 := by rw [hR]; unfold reasons rsFrom rsFrom rsFrom rsFrom rsFrom; (repeat' split) <;> simp
  have HRL := Lib.hid hrl
  clear hW0 hb0 hs0 hc hE0 hcell hE hR hrl
  go_enter Tryd.func5, Tryd.ntmps5
  go_wp2_with fail
  rw [← HW0.out, ← hg]
  clear HW0
  have HG := Lib.hid hg
  clear hg
  refine wp_region_inv (by kernel_rfl) (fun listed a w' => ∃ xs : Nat → Value, a = RFr g p day owed late xs ∧ Below W0.heap.size W0 w' ∧ ∀ m, m < 23 → listed.getD m true = true → RFact g p day owed late R (rdn m) (xs (rdn m)) w') ?start ?step ?done
  case start =>
    refine ⟨fun k => if k = 2 then .bool false else undef, rfl, (Below.refl _ _).drew, fun m hm hl => ?_⟩
    have : (Array.replicate 23 false).getD m true = false := by simp [Array.getD, hm]
    exact absurd hl (by rw [show (_ : Array Oper).size = 23 from rfl, this]; decide)
  case done =>
    rintro listed a w' hs ⟨xs, rfl, hB, hF⟩ h0
    have hall := all_listed (by kernel_rfl) hs h0
    have f2 : xs 2 = .bool true := (hF 22 (by decide) (hall 22)).2 _ rfl
    unfold RFr
    rw [f2]
    go_wp2
    go_ret
    exact ⟨rfl, HB0.out.bt hB⟩
  case step =>
    rintro listed a w' i hs ⟨xs, rfl, hB, hF⟩ hi
    have hi23 : i < 23 := by
      obtain ⟨-, o, ho, -⟩ := mem_ready.1 hi
      exact (Array.getElem?_eq_some_iff.1 ho).1
    have HF := Lib.hid hF
    have HB := Lib.hid hB
    have hcs := HC.out w' hB
    have q0 : w'.cell? ⟨g, 0, none⟩ = some (.int .i64 p.id) := hcs 0 _ rfl
    have q1 : w'.cell? ⟨g, 1, none⟩ = some (.int .i64 p.kind) := hcs 1 _ rfl
    have q2 : w'.cell? ⟨g, 2, none⟩ = some (.int .i64 p.branch) := hcs 2 _ rfl
    have q3 : w'.cell? ⟨g, 3, none⟩ = some (.int .i64 p.till) := hcs 3 _ rfl
    have q4 : w'.cell? ⟨g, 4, none⟩ = some (.bool p.stop) := hcs 4 _ rfl
    have q5 : w'.cell? ⟨g, 5, none⟩ = some (.string p.name) := hcs 5 _ rfl
    have q6 : w'.cell? ⟨g, 6, none⟩ = some (.int .i64 day) := hcs 6 _ rfl
    have q7 : w'.cell? ⟨g, 7, none⟩ = some (.int .i64 owed) := hcs 7 _ rfl
    have q8 : w'.cell? ⟨g, 8, none⟩ = some (.int .i64 late) := hcs 8 _ rfl
    clear hF hB hcs
    have hcases : i = 0 ∨ i = 1 ∨ i = 2 ∨ i = 3 ∨ i = 4 ∨ i = 5 ∨ i = 6 ∨ i = 7 ∨ i = 8 ∨ i = 9 ∨ i = 10 ∨ i = 11 ∨ i = 12 ∨ i = 13 ∨ i = 14 ∨ i = 15 ∨ i = 16 ∨ i = 17 ∨ i = 18 ∨ i = 19 ∨ i = 20 ∨ i = 21 ∨ i = 22 := by omega
    rcases hcases with rfl | rfl | rfl | rfl | rfl | rfl | rfl | rfl | rfl | rfl | rfl | rfl | rfl | rfl | rfl | rfl | rfl | rfl | rfl | rfl | rfl | rfl | rfl
    · refine wpOp_step rfl (fun K hK => ?_)
      unfold RFr
      go_simp
      refine (alive_any w' (HE0.out.below HB.out)).mono ?_
      rintro e w'' ⟨rfl, b⟩
      exact hK _ _ ⟨fun k => if k = 3 then .bool true else xs k, by simp [RFr], HB.out.bt b, rfacts_next HF.out (j := 0) (by decide) b ⟨(fun h => by rcases h with h | h <;> cases h), (fun u h => by cases h; rfl)⟩⟩
    · have f3 : xs 3 = .bool true := (HF.out 0 (by decide) (waited hi (by kernel_rfl))).2 _ rfl
      refine wpOp_step rfl (fun K hK => ?_)
      unfold RFr
      simp only [f3]
      go_simp
      exact hK _ _ ⟨fun k => if k = 4 then .bool true else xs k, by simp [RFr, f3], HB.out, rfacts_next HF.out (j := 1) (by decide) (Below.refl _ _) ⟨(fun h => by rcases h with h | h <;> cases h), (fun u h => by cases h; rfl)⟩⟩
    · have f4 : xs 4 = .bool true := (HF.out 1 (by decide) (waited hi (by kernel_rfl))).2 _ rfl
      refine wpOp_step rfl (fun K hK => ?_)
      unfold RFr
      simp only [f4]
      go_simp
      exact hK _ _ ⟨fun k => if k = 5 then .pointer (some ⟨g, 0, none⟩) else xs k, by simp [RFr, f4], HB.out, rfacts_next HF.out (j := 2) (by decide) (Below.refl _ _) ⟨(fun h => by rcases h with h | h <;> cases h), (fun u h => by cases h; rfl)⟩⟩
    · have f4 : xs 4 = .bool true := (HF.out 1 (by decide) (waited hi (by kernel_rfl))).2 _ rfl
      have f5 : xs 5 = .pointer (some ⟨g, 0, none⟩) := (HF.out 2 (by decide) (waited hi (by kernel_rfl))).2 _ rfl
      refine wpOp_step rfl (fun K hK => ?_)
      unfold RFr
      simp only [f4, f5]
      go_simp
      exact hK _ _ ⟨fun k => if k = 6 then .agg #[.int .i64 p.id, .int .i64 p.kind, .int .i64 p.branch, .int .i64 p.till, .bool p.stop, .string p.name] else xs k, by simp [RFr, f4, f5], HB.out, rfacts_next HF.out (j := 3) (by decide) (Below.refl _ _) ⟨(fun h => by rcases h with h | h <;> cases h), (fun u h => by cases h; rfl)⟩⟩
    · have f4 : xs 4 = .bool true := (HF.out 1 (by decide) (waited hi (by kernel_rfl))).2 _ rfl
      refine wpOp_step rfl (fun K hK => ?_)
      unfold RFr
      simp only [f4]
      go_simp
      exact hK _ _ ⟨fun k => if k = 7 then .pointer (some ⟨g, 6, none⟩) else xs k, by simp [RFr, f4], HB.out, rfacts_next HF.out (j := 4) (by decide) (Below.refl _ _) ⟨(fun h => by rcases h with h | h <;> cases h), (fun u h => by cases h; rfl)⟩⟩
    · have f4 : xs 4 = .bool true := (HF.out 1 (by decide) (waited hi (by kernel_rfl))).2 _ rfl
      have f7 : xs 7 = .pointer (some ⟨g, 6, none⟩) := (HF.out 4 (by decide) (waited hi (by kernel_rfl))).2 _ rfl
      refine wpOp_step rfl (fun K hK => ?_)
      unfold RFr
      simp only [f4, f7]
      go_simp
      exact hK _ _ ⟨fun k => if k = 8 then .int .i64 day else xs k, by simp [RFr, f4, f7], HB.out, rfacts_next HF.out (j := 5) (by decide) (Below.refl _ _) ⟨(fun h => by rcases h with h | h <;> cases h), (fun u h => by cases h; rfl)⟩⟩
    · have f4 : xs 4 = .bool true := (HF.out 1 (by decide) (waited hi (by kernel_rfl))).2 _ rfl
      refine wpOp_step rfl (fun K hK => ?_)
      unfold RFr
      simp only [f4]
      go_simp
      exact hK _ _ ⟨fun k => if k = 9 then .pointer (some ⟨g, 7, none⟩) else xs k, by simp [RFr, f4], HB.out, rfacts_next HF.out (j := 6) (by decide) (Below.refl _ _) ⟨(fun h => by rcases h with h | h <;> cases h), (fun u h => by cases h; rfl)⟩⟩
    · have f4 : xs 4 = .bool true := (HF.out 1 (by decide) (waited hi (by kernel_rfl))).2 _ rfl
      have f9 : xs 9 = .pointer (some ⟨g, 7, none⟩) := (HF.out 6 (by decide) (waited hi (by kernel_rfl))).2 _ rfl
      refine wpOp_step rfl (fun K hK => ?_)
      unfold RFr
      simp only [f4, f9]
      go_simp
      exact hK _ _ ⟨fun k => if k = 10 then .int .i64 owed else xs k, by simp [RFr, f4, f9], HB.out, rfacts_next HF.out (j := 7) (by decide) (Below.refl _ _) ⟨(fun h => by rcases h with h | h <;> cases h), (fun u h => by cases h; rfl)⟩⟩
    · have f4 : xs 4 = .bool true := (HF.out 1 (by decide) (waited hi (by kernel_rfl))).2 _ rfl
      refine wpOp_step rfl (fun K hK => ?_)
      unfold RFr
      simp only [f4]
      go_simp
      exact hK _ _ ⟨fun k => if k = 11 then .pointer (some ⟨g, 8, none⟩) else xs k, by simp [RFr, f4], HB.out, rfacts_next HF.out (j := 8) (by decide) (Below.refl _ _) ⟨(fun h => by rcases h with h | h <;> cases h), (fun u h => by cases h; rfl)⟩⟩
    · have f4 : xs 4 = .bool true := (HF.out 1 (by decide) (waited hi (by kernel_rfl))).2 _ rfl
      have f11 : xs 11 = .pointer (some ⟨g, 8, none⟩) := (HF.out 8 (by decide) (waited hi (by kernel_rfl))).2 _ rfl
      refine wpOp_step rfl (fun K hK => ?_)
      unfold RFr
      simp only [f4, f11]
      go_simp
      exact hK _ _ ⟨fun k => if k = 12 then .int .i64 late else xs k, by simp [RFr, f4, f11], HB.out, rfacts_next HF.out (j := 9) (by decide) (Below.refl _ _) ⟨(fun h => by rcases h with h | h <;> cases h), (fun u h => by cases h; rfl)⟩⟩
    · have f4 : xs 4 = .bool true := (HF.out 1 (by decide) (waited hi (by kernel_rfl))).2 _ rfl
      have f6 : xs 6 = .agg #[.int .i64 p.id, .int .i64 p.kind, .int .i64 p.branch, .int .i64 p.till, .bool p.stop, .string p.name] := (HF.out 3 (by decide) (waited hi (by kernel_rfl))).2 _ rfl
      have f8 : xs 8 = .int .i64 day := (HF.out 5 (by decide) (waited hi (by kernel_rfl))).2 _ rfl
      have f10 : xs 10 = .int .i64 owed := (HF.out 7 (by decide) (waited hi (by kernel_rfl))).2 _ rfl
      have f12 : xs 12 = .int .i64 late := (HF.out 9 (by decide) (waited hi (by kernel_rfl))).2 _ rfl
      refine wpOp_step rfl (fun K hK => ?_)
      unfold RFr
      simp only [f4, f6, f8, f10, f12]
      go_simp
      refine (pReasons p day owed late w').mono ?_
      rintro e w'' ⟨vr, rfl, hi2, b⟩
      rw [← HR.out] at hi2
      exact hK _ _ ⟨fun k => if k = 13 then vr else xs k, by simp [RFr, f4, f6, f8, f10, f12], HB.out.bt b, rfacts_next HF.out (j := 10) (by decide) b ⟨fun _ => hi2, fun u h => by cases h⟩⟩
    · have f4 : xs 4 = .bool true := (HF.out 1 (by decide) (waited hi (by kernel_rfl))).2 _ rfl
      refine wpOp_step rfl (fun K hK => ?_)
      unfold RFr
      simp only [f4]
      go_simp
      exact hK _ _ ⟨fun k => if k = 14 then .pointer (some ⟨g, 0, none⟩) else xs k, by simp [RFr, f4], HB.out, rfacts_next HF.out (j := 11) (by decide) (Below.refl _ _) ⟨(fun h => by rcases h with h | h <;> cases h), (fun u h => by cases h; rfl)⟩⟩
    · have f4 : xs 4 = .bool true := (HF.out 1 (by decide) (waited hi (by kernel_rfl))).2 _ rfl
      have f14 : xs 14 = .pointer (some ⟨g, 0, none⟩) := (HF.out 11 (by decide) (waited hi (by kernel_rfl))).2 _ rfl
      refine wpOp_step rfl (fun K hK => ?_)
      unfold RFr
      simp only [f4, f14]
      go_simp
      exact hK _ _ ⟨fun k => if k = 15 then .agg #[.int .i64 p.id, .int .i64 p.kind, .int .i64 p.branch, .int .i64 p.till, .bool p.stop, .string p.name] else xs k, by simp [RFr, f4, f14], HB.out, rfacts_next HF.out (j := 12) (by decide) (Below.refl _ _) ⟨(fun h => by rcases h with h | h <;> cases h), (fun u h => by cases h; rfl)⟩⟩
    · have f4 : xs 4 = .bool true := (HF.out 1 (by decide) (waited hi (by kernel_rfl))).2 _ rfl
      refine wpOp_step rfl (fun K hK => ?_)
      unfold RFr
      simp only [f4]
      go_simp
      exact hK _ _ ⟨fun k => if k = 16 then .pointer (some ⟨g, 6, none⟩) else xs k, by simp [RFr, f4], HB.out, rfacts_next HF.out (j := 13) (by decide) (Below.refl _ _) ⟨(fun h => by rcases h with h | h <;> cases h), (fun u h => by cases h; rfl)⟩⟩
    · have f4 : xs 4 = .bool true := (HF.out 1 (by decide) (waited hi (by kernel_rfl))).2 _ rfl
      have f16 : xs 16 = .pointer (some ⟨g, 6, none⟩) := (HF.out 13 (by decide) (waited hi (by kernel_rfl))).2 _ rfl
      refine wpOp_step rfl (fun K hK => ?_)
      unfold RFr
      simp only [f4, f16]
      go_simp
      exact hK _ _ ⟨fun k => if k = 17 then .int .i64 day else xs k, by simp [RFr, f4, f16], HB.out, rfacts_next HF.out (j := 14) (by decide) (Below.refl _ _) ⟨(fun h => by rcases h with h | h <;> cases h), (fun u h => by cases h; rfl)⟩⟩
    · have f4 : xs 4 = .bool true := (HF.out 1 (by decide) (waited hi (by kernel_rfl))).2 _ rfl
      refine wpOp_step rfl (fun K hK => ?_)
      unfold RFr
      simp only [f4]
      go_simp
      exact hK _ _ ⟨fun k => if k = 18 then .pointer (some ⟨g, 7, none⟩) else xs k, by simp [RFr, f4], HB.out, rfacts_next HF.out (j := 15) (by decide) (Below.refl _ _) ⟨(fun h => by rcases h with h | h <;> cases h), (fun u h => by cases h; rfl)⟩⟩
    · have f4 : xs 4 = .bool true := (HF.out 1 (by decide) (waited hi (by kernel_rfl))).2 _ rfl
      have f18 : xs 18 = .pointer (some ⟨g, 7, none⟩) := (HF.out 15 (by decide) (waited hi (by kernel_rfl))).2 _ rfl
      refine wpOp_step rfl (fun K hK => ?_)
      unfold RFr
      simp only [f4, f18]
      go_simp
      exact hK _ _ ⟨fun k => if k = 19 then .int .i64 owed else xs k, by simp [RFr, f4, f18], HB.out, rfacts_next HF.out (j := 16) (by decide) (Below.refl _ _) ⟨(fun h => by rcases h with h | h <;> cases h), (fun u h => by cases h; rfl)⟩⟩
    · have f4 : xs 4 = .bool true := (HF.out 1 (by decide) (waited hi (by kernel_rfl))).2 _ rfl
      refine wpOp_step rfl (fun K hK => ?_)
      unfold RFr
      simp only [f4]
      go_simp
      exact hK _ _ ⟨fun k => if k = 20 then .pointer (some ⟨g, 8, none⟩) else xs k, by simp [RFr, f4], HB.out, rfacts_next HF.out (j := 17) (by decide) (Below.refl _ _) ⟨(fun h => by rcases h with h | h <;> cases h), (fun u h => by cases h; rfl)⟩⟩
    · have f4 : xs 4 = .bool true := (HF.out 1 (by decide) (waited hi (by kernel_rfl))).2 _ rfl
      have f20 : xs 20 = .pointer (some ⟨g, 8, none⟩) := (HF.out 17 (by decide) (waited hi (by kernel_rfl))).2 _ rfl
      refine wpOp_step rfl (fun K hK => ?_)
      unfold RFr
      simp only [f4, f20]
      go_simp
      exact hK _ _ ⟨fun k => if k = 21 then .int .i64 late else xs k, by simp [RFr, f4, f20], HB.out, rfacts_next HF.out (j := 18) (by decide) (Below.refl _ _) ⟨(fun h => by rcases h with h | h <;> cases h), (fun u h => by cases h; rfl)⟩⟩
    · have f4 : xs 4 = .bool true := (HF.out 1 (by decide) (waited hi (by kernel_rfl))).2 _ rfl
      have f15 : xs 15 = .agg #[.int .i64 p.id, .int .i64 p.kind, .int .i64 p.branch, .int .i64 p.till, .bool p.stop, .string p.name] := (HF.out 12 (by decide) (waited hi (by kernel_rfl))).2 _ rfl
      have f17 : xs 17 = .int .i64 day := (HF.out 14 (by decide) (waited hi (by kernel_rfl))).2 _ rfl
      have f19 : xs 19 = .int .i64 owed := (HF.out 16 (by decide) (waited hi (by kernel_rfl))).2 _ rfl
      have f21 : xs 21 = .int .i64 late := (HF.out 18 (by decide) (waited hi (by kernel_rfl))).2 _ rfl
      refine wpOp_step rfl (fun K hK => ?_)
      unfold RFr
      simp only [f4, f15, f17, f19, f21]
      go_simp
      refine (rReasons p day owed late w').mono ?_
      rintro e w'' ⟨vr, rfl, hi2, b⟩
      rw [← HR.out] at hi2
      exact hK _ _ ⟨fun k => if k = 22 then vr else xs k, by simp [RFr, f4, f15, f17, f19, f21], HB.out.bt b, rfacts_next HF.out (j := 19) (by decide) b ⟨fun _ => hi2, fun u h => by cases h⟩⟩
    · have f4 : xs 4 = .bool true := (HF.out 1 (by decide) (waited hi (by kernel_rfl))).2 _ rfl
      have i13 : Ints w' (xs 13) R := (HF.out 10 (by decide) (waited hi (by kernel_rfl))).1 (by decide)
      have i22 : Ints w' (xs 22) R := (HF.out 19 (by decide) (waited hi (by kernel_rfl))).1 (by decide)
      refine wpOp_step rfl (fun K hK => ?_)
      unfold RFr
      simp only [f4]
      go_simp
      refine (rSameInts _ _ R w' i13 i22 HRL.out).mono ?_
      rintro e w'' ⟨rfl, d⟩
      exact hK _ _ ⟨fun k => if k = 23 then .bool true else xs k, by simp [RFr, f4], HB.out.bt (d.below _), rfacts_next HF.out (j := 20) (by decide) (d.below _) ⟨(fun h => by rcases h with h | h <;> cases h), (fun u h => by cases h; rfl)⟩⟩
    · have f4 : xs 4 = .bool true := (HF.out 1 (by decide) (waited hi (by kernel_rfl))).2 _ rfl
      have f23 : xs 23 = .bool true := (HF.out 20 (by decide) (waited hi (by kernel_rfl))).2 _ rfl
      refine wpOp_step rfl (fun K hK => ?_)
      unfold RFr
      simp only [f4, f23]
      go_simp
      exact hK _ _ ⟨fun k => if k = 24 then .bool true else xs k, by simp [RFr, f4, f23], HB.out, rfacts_next HF.out (j := 21) (by decide) (Below.refl _ _) ⟨(fun h => by rcases h with h | h <;> cases h), (fun u h => by cases h; rfl)⟩⟩
    · have f24 : xs 24 = .bool true := (HF.out 21 (by decide) (waited hi (by kernel_rfl))).2 _ rfl
      refine wpOp_step rfl (fun K hK => ?_)
      unfold RFr
      simp only [f24]
      go_simp
      exact hK _ _ ⟨fun k => if k = 2 then .bool true else xs k, by simp [RFr, f24], HB.out, rfacts_next HF.out (j := 22) (by decide) (Below.refl _ _) ⟨(fun h => by rcases h with h | h <;> cases h), (fun u h => by cases h; rfl)⟩⟩
end Go.Proofs.YtlpeppigebbfkaaDoor
