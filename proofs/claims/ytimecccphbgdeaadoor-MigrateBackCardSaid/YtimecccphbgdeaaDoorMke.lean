/- The walk of kept, where its answer is true (layer 18). -/
import Derived.Test.YtimecccphbgdeaaDoorMre
import Derived.Test.YtimecccphbgdeaaDoorRinv
import Derived.Test.YtimecccphbgdeaaDoorMrg
namespace Go.Proofs.YtimecccphbgdeaaDoor
open Go Go.RowKit

def keptDst (m : Nat) : Nat := if m = 30 then 4 else 5 + m
/-- What holds, whatever operations of the statement have come up. -/
structure KeptI (w1 : World) (vals : List Value) (L : List Fld) (listed : Array Bool) (xs : Nat → Value) (w' : World) : Prop where
  bel : Below w1.heap.size w1 w'
  val : ∀ m, m < 31 → m ≠ 25 → m ≠ 27 → listed.getD m true = true → xs (keptDst m) = vals.getD m undef
  ra : listed.getD 25 true = true → Flds w' (xs 30) L
  rb : listed.getD 27 true = true → Flds w' (xs 32) L
theorem KeptI.next {w1 : World} {vals : List Value} {L : List Fld} {listed : Array Bool} {xs : Nat → Value} {w' w'' : World} (h : KeptI w1 vals L listed xs w') (i d : Nat) (hd : d = keptDst i) (v : Value) (hb : Below w'.heap.size w' w'') (h1 : i ≠ 25 → i ≠ 27 → v = vals.getD i undef) (h2 : i = 25 ∨ i = 27 → Flds w'' v L) :
    KeptI w1 vals L (listed.setIfInBounds i true) (fun k => if k = d then v else xs k) w'' where
  bel := h.bel.trans (hb.mono h.bel.size)
  val := fun m hm h25 h27 hl => by
    by_cases e : m = i
    · subst e
      rw [if_pos hd.symm]
      exact h1 h25 h27
    · rw [if_neg (by rw [hd]; unfold keptDst; split <;> split <;> omega)]
      rcases set_listed hl with h3 | h3
      · exact absurd h3 e
      · exact h.val m hm h25 h27 h3
  ra := fun hl => by
    by_cases e : i = 25
    · subst e
      rw [if_pos (by rw [hd]; rfl)]
      exact h2 (.inl rfl)
    · rw [if_neg (by rw [hd]; unfold keptDst; split <;> omega)]
      rcases set_listed hl with h3 | h3
      · exact absurd h3.symm e
      · exact (h.ra h3).below hb (Nat.le_refl _)
  rb := fun hl => by
    by_cases e : i = 27
    · subst e
      rw [if_pos (by rw [hd]; rfl)]
      exact h2 (.inr rfl)
    · rw [if_neg (by rw [hd]; unfold keptDst; split <;> omega)]
      rcases set_listed hl with h3 | h3
      · exact absurd h3.symm e
      · exact (h.rb h3).below hb (Nat.le_refl _)

set_option maxRecDepth 100000 in
set_option maxHeartbeats 8000000 in
theorem sKept (p r : Rec) (a a2 : Option Addr) (n c n2 c2 : Nat) (w : World) (hE : Env w) (ha : Flds w (.slice a n c) p.fields) (hb : Flds w (.slice a2 n2 c2) r.fields) (hp : p.small) (hr : r.small) (hk : Kept p r) :
    Calls Tryd.prog 20 #[.agg #[.int .i64 p.id, .int .i64 p.ver, .int .i64 p.kind, .string p.lang, .slice a n c], .agg #[.int .i64 r.id, .int .i64 r.ver, .int .i64 r.kind, .string r.lang, .slice a2 n2 c2]] w fun e w' => e = .returned (.bool true) ∧ Below w.heap.size w w' := by
  obtain ⟨k1, k2, k3, k4, k5⟩ := hk
  have hri : ∀ W, Below w.heap.size w W → Calls Tryd.prog 11 #[.agg #[.int .i64 p.id, .int .i64 p.ver, .int .i64 p.kind, .string p.lang, .slice a n c]] W fun e w' => e = .returned (.bool true) ∧ Below W.heap.size W w' := fun W hW => by
    have := pMRight p a n c W (hE.below hW) (ha.below hW (Nat.le_refl _)) hp
    rw [k1] at this
    exact this
  have hra : ∀ W, Below w.heap.size w W → Calls Tryd.prog 40 #[.agg #[.int .i64 p.id, .int .i64 p.ver, .int .i64 p.kind, .string p.lang, .slice a n c]] W fun e w' => ∃ v, e = .returned v ∧ Flds w' v (restL r.fields) ∧ Below W.heap.size W w' := fun W hW => by
    have := sRest p a n c W (ha.below hW (Nat.le_refl _)) (by have := hp.1; omega)
    rw [k5] at this
    exact this
  have hrb : ∀ W, Below w.heap.size w W → Calls Tryd.prog 40 #[.agg #[.int .i64 r.id, .int .i64 r.ver, .int .i64 r.kind, .string r.lang, .slice a2 n2 c2]] W fun e w' => ∃ v, e = .returned v ∧ Flds w' v (restL r.fields) ∧ Below W.heap.size W w' := fun W hW => sRest r a2 n2 c2 W (hb.below hW (Nat.le_refl _)) (by have := hr.1; omega)
  have hsub : ∀ f ∈ restL r.fields, f.subs.length ≤ 1000000 := fun f hf => (hr.2 f (List.mem_filter.1 hf).1).subs
  have hlen : (restL r.fields).length ≤ 1000000 := by have := List.length_filter_le (fun f : Fld => !([t260, t264, t440, t490, t830].contains f.tag)) r.fields; have := hr.1; unfold restL; omega
  have hsf : ∀ W va vb, Flds W va (restL r.fields) → Flds W vb (restL r.fields) → Calls Tryd.prog 37 #[va, vb] W fun e w' => e = .returned (.bool true) ∧ Below W.heap.size W w' := fun W va vb h1 h2 => rSameFlds va vb _ _ W h1 h2 rfl hlen hsub hsub
  obtain ⟨id, ver, kind, lang, l⟩ := p
  obtain ⟨id2, ver2, kind2, lang2, l2⟩ := r
  simp only at k2 k3 k4 hri hra hrb hsf ⊢
  subst k2; subst k3; subst k4
  obtain ⟨L, hL⟩ : ∃ L, L = restL l2 := ⟨_, rfl⟩
  rw [← hL] at hra hrb hsf
  have hb0 : Below w.heap.size w ((recW w id ver kind lang a n c).alloc (.cells #[.int .i64 id, .int .i64 ver2, .int .i64 kind, .string lang, .slice a2 n2 c2] 24)) := ((Below.refl _ _).alloc (Nat.le_refl _) _).alloc (by simp) _
  have h01 : Below (recW w id ver kind lang a n c).heap.size (recW w id ver kind lang a n c) ((recW w id ver kind lang a n c).alloc (.cells #[.int .i64 id, .int .i64 ver2, .int .i64 kind, .string lang, .slice a2 n2 c2] 24)) := (Below.refl _ _).alloc (Nat.le_refl _) _
  have hs1 : (recW w id ver kind lang a n c).heap.size = w.heap.size + 1 := World.size_alloc _ _
  have CELLS : ∀ W, Below ((recW w id ver kind lang a n c).alloc (.cells #[.int .i64 id, .int .i64 ver2, .int .i64 kind, .string lang, .slice a2 n2 c2] 24)).heap.size ((recW w id ver kind lang a n c).alloc (.cells #[.int .i64 id, .int .i64 ver2, .int .i64 kind, .string lang, .slice a2 n2 c2] 24)) W → (∀ j u, (#[.int .i64 id, .int .i64 ver, .int .i64 kind, .string lang, .slice a n c] : Array Value)[j]? = some u → W.cell? ⟨w.heap.size, j, none⟩ = some u) ∧ (∀ j u, (#[.int .i64 id, .int .i64 ver2, .int .i64 kind, .string lang, .slice a2 n2 c2] : Array Value)[j]? = some u → W.cell? ⟨w.heap.size + 1, j, none⟩ = some u) := fun W h =>
    ⟨fun j u hu => block_cells (h01.bt h) j u hu, fun j u hu => by have := block_cells h j u hu; rwa [hs1] at this⟩
  have HCE := Lib.hid CELLS
  have HRI := Lib.hid hri
  have HRA := Lib.hid hra
  have HRB := Lib.hid hrb
  have HSF := Lib.hid hsf
  have HB0 := Lib.hid hb0
  have hll : (lang.toList == lang.toList) = true := by simp
  clear hE ha hb hp hr k1 k5 hri hra hrb hsf hsub hlen hL hb0 h01 hs1 CELLS
  go_enter Tryd.func20, Tryd.ntmps20
  go_wp2_with fail
  refine wp_region_inv (by kernel_rfl) (fun listed a' w' => ∃ xs : Nat → Value, a' = ⟨#[.agg #[.int .i64 id, .int .i64 ver, .int .i64 kind, .string lang, .slice a n c], .agg #[.int .i64 id, .int .i64 ver2, .int .i64 kind, .string lang, .slice a2 n2 c2], .pointer (some ⟨w.heap.size, 0, none⟩), .pointer (some ⟨w.heap.size + 1, 0, none⟩), xs 4, xs 5, xs 6, xs 7, xs 8, xs 9, xs 10, xs 11, xs 12, xs 13, xs 14, xs 15, xs 16, xs 17, xs 18, xs 19, xs 20, xs 21, xs 22, xs 23, xs 24, xs 25, xs 26, xs 27, xs 28, xs 29, xs 30, xs 31, xs 32, xs 33, xs 34], []⟩ ∧ KeptI ((recW w id ver kind lang a n c).alloc (.cells #[.int .i64 id, .int .i64 ver2, .int .i64 kind, .string lang, .slice a2 n2 c2] 24)) [.agg #[.int .i64 id, .int .i64 ver, .int .i64 kind, .string lang, .slice a n c], .bool true, .bool true, .pointer (some ⟨w.heap.size, 0, none⟩), .int .i64 id, .pointer (some ⟨w.heap.size + 1, 0, none⟩), .int .i64 id, .bool true, .bool true, .bool true, .pointer (some ⟨w.heap.size, 2, none⟩), .int .i64 kind, .pointer (some ⟨w.heap.size + 1, 2, none⟩), .int .i64 kind, .bool true, .bool true, .bool true, .pointer (some ⟨w.heap.size, 3, none⟩), .string lang, .pointer (some ⟨w.heap.size + 1, 3, none⟩), .string lang, .bool true, .bool true, .bool true, .agg #[.int .i64 id, .int .i64 ver, .int .i64 kind, .string lang, .slice a n c], undef, .agg #[.int .i64 id, .int .i64 ver2, .int .i64 kind, .string lang, .slice a2 n2 c2], undef, .bool true, .bool true, .bool true] L listed xs w') ?start ?step ?done
  case start =>
    have no : ∀ m, m < 31 → (Array.replicate 31 false).getD m true = false := fun m hm => by simp [Array.getD, hm]
    exact ⟨fun k => if k = 4 then .bool false else undef, rfl, (Below.refl _ _).drew, fun m hm _ _ h => Bool.noConfusion ((no m hm).symm.trans h), fun h => Bool.noConfusion ((no 25 (by decide)).symm.trans h), fun h => Bool.noConfusion ((no 27 (by decide)).symm.trans h)⟩
  case done =>
    rintro listed a' w4 hs ⟨xs, rfl, R⟩ h0
    have hall := all_listed (by kernel_rfl) hs h0
    have e4 : xs 4 = .bool true := R.val 30 (by decide) (by decide) (by decide) (hall 30)
    have HB4 := Lib.hid (HB0.out.bt R.bel)
    clear R hs hall h0
    simp only [e4]
    go_wp2
    go_ret
    exact ⟨rfl, HB4.out⟩
  case step =>
    rintro listed a' w' i hs ⟨xs, rfl, R⟩ hi
    have hi31 : i < 31 := by
      obtain ⟨-, o, ho, -⟩ := mem_ready.1 hi
      exact (Array.getElem?_eq_some_iff.1 ho).1
    have RR := Lib.hid R
    obtain ⟨qa, qb⟩ := HCE.out w' R.bel
    have q0 := qa 0 _ rfl
    have q1 := qa 1 _ rfl
    have q2 := qa 2 _ rfl
    have q3 := qa 3 _ rfl
    have q4 := qa 4 _ rfl
    have r0 := qb 0 _ rfl
    have r1 := qb 1 _ rfl
    have r2 := qb 2 _ rfl
    have r3 := qb 3 _ rfl
    have r4 := qb 4 _ rfl
    clear R qa qb
    have hcases : i = 0 ∨ i = 1 ∨ i = 2 ∨ i = 3 ∨ i = 4 ∨ i = 5 ∨ i = 6 ∨ i = 7 ∨ i = 8 ∨ i = 9 ∨ i = 10 ∨ i = 11 ∨ i = 12 ∨ i = 13 ∨ i = 14 ∨ i = 15 ∨ i = 16 ∨ i = 17 ∨ i = 18 ∨ i = 19 ∨ i = 20 ∨ i = 21 ∨ i = 22 ∨ i = 23 ∨ i = 24 ∨ i = 25 ∨ i = 26 ∨ i = 27 ∨ i = 28 ∨ i = 29 ∨ i = 30 := by omega
    rcases hcases with rfl | rfl | rfl | rfl | rfl | rfl | rfl | rfl | rfl | rfl | rfl | rfl | rfl | rfl | rfl | rfl | rfl | rfl | rfl | rfl | rfl | rfl | rfl | rfl | rfl | rfl | rfl | rfl | rfl | rfl | rfl
    · refine wpOp_step rfl (fun K hK => ?_)
      go_simp
      exact hK _ _ ⟨fun k => if k = 5 then .agg #[.int .i64 id, .int .i64 ver, .int .i64 kind, .string lang, .slice a n c] else xs k, by simp, RR.out.next 0 5 rfl (.agg #[.int .i64 id, .int .i64 ver, .int .i64 kind, .string lang, .slice a n c]) (Below.refl _ _) (fun _ _ => rfl) (fun h => by rcases h with h | h <;> cases h)⟩
    · have f5 : xs 5 = .agg #[.int .i64 id, .int .i64 ver, .int .i64 kind, .string lang, .slice a n c] := RR.out.val 0 (by decide) (by decide) (by decide) (waited hi (by kernel_rfl))
      refine wpOp_step rfl (fun K hK => ?_)
      simp only [f5]
      go_simp
      refine (HRI.out w' (HB0.out.bt RR.out.bel)).mono ?_
      rintro e w'' ⟨rfl, b⟩
      exact hK _ _ ⟨fun k => if k = 6 then .bool true else xs k, by simp [f5], RR.out.next 1 6 rfl (.bool true) b (fun _ _ => rfl) (fun h => by rcases h with h | h <;> cases h)⟩
    · have f6 : xs 6 = .bool true := RR.out.val 1 (by decide) (by decide) (by decide) (waited hi (by kernel_rfl))
      refine wpOp_step rfl (fun K hK => ?_)
      simp only [f6]
      go_simp
      exact hK _ _ ⟨fun k => if k = 7 then .bool true else xs k, by simp [f6], RR.out.next 2 7 rfl (.bool true) (Below.refl _ _) (fun _ _ => rfl) (fun h => by rcases h with h | h <;> cases h)⟩
    · have f7 : xs 7 = .bool true := RR.out.val 2 (by decide) (by decide) (by decide) (waited hi (by kernel_rfl))
      refine wpOp_step rfl (fun K hK => ?_)
      simp only [f7]
      go_simp
      exact hK _ _ ⟨fun k => if k = 8 then .pointer (some ⟨w.heap.size, 0, none⟩) else xs k, by simp [f7], RR.out.next 3 8 rfl (.pointer (some ⟨w.heap.size, 0, none⟩)) (Below.refl _ _) (fun _ _ => rfl) (fun h => by rcases h with h | h <;> cases h)⟩
    · have f7 : xs 7 = .bool true := RR.out.val 2 (by decide) (by decide) (by decide) (waited hi (by kernel_rfl))
      have f8 : xs 8 = .pointer (some ⟨w.heap.size, 0, none⟩) := RR.out.val 3 (by decide) (by decide) (by decide) (waited hi (by kernel_rfl))
      refine wpOp_step rfl (fun K hK => ?_)
      simp only [f7, f8]
      go_simp
      exact hK _ _ ⟨fun k => if k = 9 then .int .i64 id else xs k, by simp [f7, f8], RR.out.next 4 9 rfl (.int .i64 id) (Below.refl _ _) (fun _ _ => rfl) (fun h => by rcases h with h | h <;> cases h)⟩
    · have f7 : xs 7 = .bool true := RR.out.val 2 (by decide) (by decide) (by decide) (waited hi (by kernel_rfl))
      refine wpOp_step rfl (fun K hK => ?_)
      simp only [f7]
      go_simp
      exact hK _ _ ⟨fun k => if k = 10 then .pointer (some ⟨w.heap.size + 1, 0, none⟩) else xs k, by simp [f7], RR.out.next 5 10 rfl (.pointer (some ⟨w.heap.size + 1, 0, none⟩)) (Below.refl _ _) (fun _ _ => rfl) (fun h => by rcases h with h | h <;> cases h)⟩
    · have f7 : xs 7 = .bool true := RR.out.val 2 (by decide) (by decide) (by decide) (waited hi (by kernel_rfl))
      have f10 : xs 10 = .pointer (some ⟨w.heap.size + 1, 0, none⟩) := RR.out.val 5 (by decide) (by decide) (by decide) (waited hi (by kernel_rfl))
      refine wpOp_step rfl (fun K hK => ?_)
      simp only [f7, f10]
      go_simp
      exact hK _ _ ⟨fun k => if k = 11 then .int .i64 id else xs k, by simp [f7, f10], RR.out.next 6 11 rfl (.int .i64 id) (Below.refl _ _) (fun _ _ => rfl) (fun h => by rcases h with h | h <;> cases h)⟩
    · have f7 : xs 7 = .bool true := RR.out.val 2 (by decide) (by decide) (by decide) (waited hi (by kernel_rfl))
      have f9 : xs 9 = .int .i64 id := RR.out.val 4 (by decide) (by decide) (by decide) (waited hi (by kernel_rfl))
      have f11 : xs 11 = .int .i64 id := RR.out.val 6 (by decide) (by decide) (by decide) (waited hi (by kernel_rfl))
      refine wpOp_step rfl (fun K hK => ?_)
      simp only [f7, f9, f11]
      go_simp
      exact hK _ _ ⟨fun k => if k = 12 then .bool true else xs k, by simp [f7, f9, f11], RR.out.next 7 12 rfl (.bool true) (Below.refl _ _) (fun _ _ => rfl) (fun h => by rcases h with h | h <;> cases h)⟩
    · have f7 : xs 7 = .bool true := RR.out.val 2 (by decide) (by decide) (by decide) (waited hi (by kernel_rfl))
      have f12 : xs 12 = .bool true := RR.out.val 7 (by decide) (by decide) (by decide) (waited hi (by kernel_rfl))
      refine wpOp_step rfl (fun K hK => ?_)
      simp only [f7, f12]
      go_simp
      exact hK _ _ ⟨fun k => if k = 13 then .bool true else xs k, by simp [f7, f12], RR.out.next 8 13 rfl (.bool true) (Below.refl _ _) (fun _ _ => rfl) (fun h => by rcases h with h | h <;> cases h)⟩
    · have f13 : xs 13 = .bool true := RR.out.val 8 (by decide) (by decide) (by decide) (waited hi (by kernel_rfl))
      refine wpOp_step rfl (fun K hK => ?_)
      simp only [f13]
      go_simp
      exact hK _ _ ⟨fun k => if k = 14 then .bool true else xs k, by simp [f13], RR.out.next 9 14 rfl (.bool true) (Below.refl _ _) (fun _ _ => rfl) (fun h => by rcases h with h | h <;> cases h)⟩
    · have f14 : xs 14 = .bool true := RR.out.val 9 (by decide) (by decide) (by decide) (waited hi (by kernel_rfl))
      refine wpOp_step rfl (fun K hK => ?_)
      simp only [f14]
      go_simp
      exact hK _ _ ⟨fun k => if k = 15 then .pointer (some ⟨w.heap.size, 2, none⟩) else xs k, by simp [f14], RR.out.next 10 15 rfl (.pointer (some ⟨w.heap.size, 2, none⟩)) (Below.refl _ _) (fun _ _ => rfl) (fun h => by rcases h with h | h <;> cases h)⟩
    · have f14 : xs 14 = .bool true := RR.out.val 9 (by decide) (by decide) (by decide) (waited hi (by kernel_rfl))
      have f15 : xs 15 = .pointer (some ⟨w.heap.size, 2, none⟩) := RR.out.val 10 (by decide) (by decide) (by decide) (waited hi (by kernel_rfl))
      refine wpOp_step rfl (fun K hK => ?_)
      simp only [f14, f15]
      go_simp
      exact hK _ _ ⟨fun k => if k = 16 then .int .i64 kind else xs k, by simp [f14, f15], RR.out.next 11 16 rfl (.int .i64 kind) (Below.refl _ _) (fun _ _ => rfl) (fun h => by rcases h with h | h <;> cases h)⟩
    · have f14 : xs 14 = .bool true := RR.out.val 9 (by decide) (by decide) (by decide) (waited hi (by kernel_rfl))
      refine wpOp_step rfl (fun K hK => ?_)
      simp only [f14]
      go_simp
      exact hK _ _ ⟨fun k => if k = 17 then .pointer (some ⟨w.heap.size + 1, 2, none⟩) else xs k, by simp [f14], RR.out.next 12 17 rfl (.pointer (some ⟨w.heap.size + 1, 2, none⟩)) (Below.refl _ _) (fun _ _ => rfl) (fun h => by rcases h with h | h <;> cases h)⟩
    · have f14 : xs 14 = .bool true := RR.out.val 9 (by decide) (by decide) (by decide) (waited hi (by kernel_rfl))
      have f17 : xs 17 = .pointer (some ⟨w.heap.size + 1, 2, none⟩) := RR.out.val 12 (by decide) (by decide) (by decide) (waited hi (by kernel_rfl))
      refine wpOp_step rfl (fun K hK => ?_)
      simp only [f14, f17]
      go_simp
      exact hK _ _ ⟨fun k => if k = 18 then .int .i64 kind else xs k, by simp [f14, f17], RR.out.next 13 18 rfl (.int .i64 kind) (Below.refl _ _) (fun _ _ => rfl) (fun h => by rcases h with h | h <;> cases h)⟩
    · have f14 : xs 14 = .bool true := RR.out.val 9 (by decide) (by decide) (by decide) (waited hi (by kernel_rfl))
      have f16 : xs 16 = .int .i64 kind := RR.out.val 11 (by decide) (by decide) (by decide) (waited hi (by kernel_rfl))
      have f18 : xs 18 = .int .i64 kind := RR.out.val 13 (by decide) (by decide) (by decide) (waited hi (by kernel_rfl))
      refine wpOp_step rfl (fun K hK => ?_)
      simp only [f14, f16, f18]
      go_simp
      exact hK _ _ ⟨fun k => if k = 19 then .bool true else xs k, by simp [f14, f16, f18], RR.out.next 14 19 rfl (.bool true) (Below.refl _ _) (fun _ _ => rfl) (fun h => by rcases h with h | h <;> cases h)⟩
    · have f14 : xs 14 = .bool true := RR.out.val 9 (by decide) (by decide) (by decide) (waited hi (by kernel_rfl))
      have f19 : xs 19 = .bool true := RR.out.val 14 (by decide) (by decide) (by decide) (waited hi (by kernel_rfl))
      refine wpOp_step rfl (fun K hK => ?_)
      simp only [f14, f19]
      go_simp
      exact hK _ _ ⟨fun k => if k = 20 then .bool true else xs k, by simp [f14, f19], RR.out.next 15 20 rfl (.bool true) (Below.refl _ _) (fun _ _ => rfl) (fun h => by rcases h with h | h <;> cases h)⟩
    · have f20 : xs 20 = .bool true := RR.out.val 15 (by decide) (by decide) (by decide) (waited hi (by kernel_rfl))
      refine wpOp_step rfl (fun K hK => ?_)
      simp only [f20]
      go_simp
      exact hK _ _ ⟨fun k => if k = 21 then .bool true else xs k, by simp [f20], RR.out.next 16 21 rfl (.bool true) (Below.refl _ _) (fun _ _ => rfl) (fun h => by rcases h with h | h <;> cases h)⟩
    · have f21 : xs 21 = .bool true := RR.out.val 16 (by decide) (by decide) (by decide) (waited hi (by kernel_rfl))
      refine wpOp_step rfl (fun K hK => ?_)
      simp only [f21]
      go_simp
      exact hK _ _ ⟨fun k => if k = 22 then .pointer (some ⟨w.heap.size, 3, none⟩) else xs k, by simp [f21], RR.out.next 17 22 rfl (.pointer (some ⟨w.heap.size, 3, none⟩)) (Below.refl _ _) (fun _ _ => rfl) (fun h => by rcases h with h | h <;> cases h)⟩
    · have f21 : xs 21 = .bool true := RR.out.val 16 (by decide) (by decide) (by decide) (waited hi (by kernel_rfl))
      have f22 : xs 22 = .pointer (some ⟨w.heap.size, 3, none⟩) := RR.out.val 17 (by decide) (by decide) (by decide) (waited hi (by kernel_rfl))
      refine wpOp_step rfl (fun K hK => ?_)
      simp only [f21, f22]
      go_simp
      exact hK _ _ ⟨fun k => if k = 23 then .string lang else xs k, by simp [f21, f22], RR.out.next 18 23 rfl (.string lang) (Below.refl _ _) (fun _ _ => rfl) (fun h => by rcases h with h | h <;> cases h)⟩
    · have f21 : xs 21 = .bool true := RR.out.val 16 (by decide) (by decide) (by decide) (waited hi (by kernel_rfl))
      refine wpOp_step rfl (fun K hK => ?_)
      simp only [f21]
      go_simp
      exact hK _ _ ⟨fun k => if k = 24 then .pointer (some ⟨w.heap.size + 1, 3, none⟩) else xs k, by simp [f21], RR.out.next 19 24 rfl (.pointer (some ⟨w.heap.size + 1, 3, none⟩)) (Below.refl _ _) (fun _ _ => rfl) (fun h => by rcases h with h | h <;> cases h)⟩
    · have f21 : xs 21 = .bool true := RR.out.val 16 (by decide) (by decide) (by decide) (waited hi (by kernel_rfl))
      have f24 : xs 24 = .pointer (some ⟨w.heap.size + 1, 3, none⟩) := RR.out.val 19 (by decide) (by decide) (by decide) (waited hi (by kernel_rfl))
      refine wpOp_step rfl (fun K hK => ?_)
      simp only [f21, f24]
      go_simp
      exact hK _ _ ⟨fun k => if k = 25 then .string lang else xs k, by simp [f21, f24], RR.out.next 20 25 rfl (.string lang) (Below.refl _ _) (fun _ _ => rfl) (fun h => by rcases h with h | h <;> cases h)⟩
    · have f21 : xs 21 = .bool true := RR.out.val 16 (by decide) (by decide) (by decide) (waited hi (by kernel_rfl))
      have f23 : xs 23 = .string lang := RR.out.val 18 (by decide) (by decide) (by decide) (waited hi (by kernel_rfl))
      have f25 : xs 25 = .string lang := RR.out.val 20 (by decide) (by decide) (by decide) (waited hi (by kernel_rfl))
      refine wpOp_step rfl (fun K hK => ?_)
      simp only [f21, f23, f25]
      go_simp
      exact hK _ _ ⟨fun k => if k = 26 then .bool true else xs k, by simp [f21, f23, f25], RR.out.next 21 26 rfl (.bool true) (Below.refl _ _) (fun _ _ => rfl) (fun h => by rcases h with h | h <;> cases h)⟩
    · have f21 : xs 21 = .bool true := RR.out.val 16 (by decide) (by decide) (by decide) (waited hi (by kernel_rfl))
      have f26 : xs 26 = .bool true := RR.out.val 21 (by decide) (by decide) (by decide) (waited hi (by kernel_rfl))
      refine wpOp_step rfl (fun K hK => ?_)
      simp only [f21, f26]
      go_simp
      exact hK _ _ ⟨fun k => if k = 27 then .bool true else xs k, by simp [f21, f26], RR.out.next 22 27 rfl (.bool true) (Below.refl _ _) (fun _ _ => rfl) (fun h => by rcases h with h | h <;> cases h)⟩
    · have f27 : xs 27 = .bool true := RR.out.val 22 (by decide) (by decide) (by decide) (waited hi (by kernel_rfl))
      refine wpOp_step rfl (fun K hK => ?_)
      simp only [f27]
      go_simp
      exact hK _ _ ⟨fun k => if k = 28 then .bool true else xs k, by simp [f27], RR.out.next 23 28 rfl (.bool true) (Below.refl _ _) (fun _ _ => rfl) (fun h => by rcases h with h | h <;> cases h)⟩
    · have f28 : xs 28 = .bool true := RR.out.val 23 (by decide) (by decide) (by decide) (waited hi (by kernel_rfl))
      refine wpOp_step rfl (fun K hK => ?_)
      simp only [f28]
      go_simp
      exact hK _ _ ⟨fun k => if k = 29 then .agg #[.int .i64 id, .int .i64 ver, .int .i64 kind, .string lang, .slice a n c] else xs k, by simp [f28], RR.out.next 24 29 rfl (.agg #[.int .i64 id, .int .i64 ver, .int .i64 kind, .string lang, .slice a n c]) (Below.refl _ _) (fun _ _ => rfl) (fun h => by rcases h with h | h <;> cases h)⟩
    · have f28 : xs 28 = .bool true := RR.out.val 23 (by decide) (by decide) (by decide) (waited hi (by kernel_rfl))
      have f29 : xs 29 = .agg #[.int .i64 id, .int .i64 ver, .int .i64 kind, .string lang, .slice a n c] := RR.out.val 24 (by decide) (by decide) (by decide) (waited hi (by kernel_rfl))
      refine wpOp_step rfl (fun K hK => ?_)
      simp only [f28, f29]
      go_simp
      refine (HRA.out w' (HB0.out.bt RR.out.bel)).mono ?_
      rintro e w'' ⟨v, rfl, hf, b⟩
      exact hK _ _ ⟨fun k => if k = 30 then v else xs k, by simp [f28, f29], RR.out.next 25 30 rfl v b (fun h1 h2 => by first | exact absurd rfl h1 | exact absurd rfl h2) (fun _ => hf)⟩
    · have f28 : xs 28 = .bool true := RR.out.val 23 (by decide) (by decide) (by decide) (waited hi (by kernel_rfl))
      refine wpOp_step rfl (fun K hK => ?_)
      simp only [f28]
      go_simp
      exact hK _ _ ⟨fun k => if k = 31 then .agg #[.int .i64 id, .int .i64 ver2, .int .i64 kind, .string lang, .slice a2 n2 c2] else xs k, by simp [f28], RR.out.next 26 31 rfl (.agg #[.int .i64 id, .int .i64 ver2, .int .i64 kind, .string lang, .slice a2 n2 c2]) (Below.refl _ _) (fun _ _ => rfl) (fun h => by rcases h with h | h <;> cases h)⟩
    · have f28 : xs 28 = .bool true := RR.out.val 23 (by decide) (by decide) (by decide) (waited hi (by kernel_rfl))
      have f31 : xs 31 = .agg #[.int .i64 id, .int .i64 ver2, .int .i64 kind, .string lang, .slice a2 n2 c2] := RR.out.val 26 (by decide) (by decide) (by decide) (waited hi (by kernel_rfl))
      refine wpOp_step rfl (fun K hK => ?_)
      simp only [f28, f31]
      go_simp
      refine (HRB.out w' (HB0.out.bt RR.out.bel)).mono ?_
      rintro e w'' ⟨v, rfl, hf, b⟩
      exact hK _ _ ⟨fun k => if k = 32 then v else xs k, by simp [f28, f31], RR.out.next 27 32 rfl v b (fun h1 h2 => by first | exact absurd rfl h1 | exact absurd rfl h2) (fun _ => hf)⟩
    · have f28 : xs 28 = .bool true := RR.out.val 23 (by decide) (by decide) (by decide) (waited hi (by kernel_rfl))
      refine wpOp_step rfl (fun K hK => ?_)
      simp only [f28]
      go_simp
      refine (HSF.out w' _ _ (RR.out.ra (waited hi (by kernel_rfl))) (RR.out.rb (waited hi (by kernel_rfl)))).mono ?_
      rintro e w'' ⟨rfl, b⟩
      exact hK _ _ ⟨fun k => if k = 33 then .bool true else xs k, by simp [f28], RR.out.next 28 33 rfl (.bool true) b (fun _ _ => rfl) (fun h => by rcases h with h | h <;> cases h)⟩
    · have f28 : xs 28 = .bool true := RR.out.val 23 (by decide) (by decide) (by decide) (waited hi (by kernel_rfl))
      have f33 : xs 33 = .bool true := RR.out.val 28 (by decide) (by decide) (by decide) (waited hi (by kernel_rfl))
      refine wpOp_step rfl (fun K hK => ?_)
      simp only [f28, f33]
      go_simp
      exact hK _ _ ⟨fun k => if k = 34 then .bool true else xs k, by simp [f28, f33], RR.out.next 29 34 rfl (.bool true) (Below.refl _ _) (fun _ _ => rfl) (fun h => by rcases h with h | h <;> cases h)⟩
    · have f34 : xs 34 = .bool true := RR.out.val 29 (by decide) (by decide) (by decide) (waited hi (by kernel_rfl))
      refine wpOp_step rfl (fun K hK => ?_)
      simp only [f34]
      go_simp
      exact hK _ _ ⟨fun k => if k = 4 then .bool true else xs k, by simp [f34], RR.out.next 30 4 rfl (.bool true) (Below.refl _ _) (fun _ _ => rfl) (fun h => by rcases h with h | h <;> cases h)⟩
end Go.Proofs.YtimecccphbgdeaaDoor
