/- The examples (alive) of the statements about layer 28: what each call answers. The walk of the examples (alive) of the statements about layer 28. -/
import Derived.Test.YtlpeppigebbfkaaDoorNpa
import Derived.Test.YtlpeppigebbfkaaDoorNrm
import Derived.Test.YtlpeppigebbfkaaDoorNre
import Derived.Test.YtlpeppigebbfkaaDoorNsm
import Derived.Test.YtlpeppigebbfkaaDoorNsr
namespace Go.Proofs.YtlpeppigebbfkaaDoor
open Go Go.RowKit

def pA : Pat := ⟨1, 1, 1, 5, false, ⟨#[65, 100, 97, 32, 66, 121, 114, 111, 110]⟩⟩
def pB : Pat := ⟨3, 1, 1, 5, false, ⟨#[66, 121, 114, 111, 110, 44, 32, 76, 111, 114, 100]⟩⟩
def pC : Pat := ⟨2, 9, 4, 5, false, ⟨#[120]⟩⟩
theorem chkA {F : ByteArray → Bool} (hF : ∀ n, F n = true ↔ formOk n) : chk F pA = 0 := by
  have h : F pA.name = true := (hF _).2 ⟨by decide, [65, 100, 97, 32, 66, 121, 114, 111, 110], by decide, by decide +kernel, by decide +kernel⟩
  unfold chk
  rw [if_neg (by decide), if_neg (by decide), if_neg (by rw [h]; decide), if_neg (by decide)]
theorem chkB {F : ByteArray → Bool} (hF : ∀ n, F n = true ↔ formOk n) : chk F pB = 0 := by
  have h : F pB.name = true := (hF _).2 ⟨by decide, [66, 121, 114, 111, 110, 44, 32, 76, 111, 114, 100], by decide, by decide +kernel, by decide +kernel⟩
  unfold chk
  rw [if_neg (by decide), if_neg (by decide), if_neg (by rw [h]; decide), if_neg (by decide)]
theorem chkC {F : ByteArray → Bool} (hF : ∀ n, F n = true ↔ formOk n) : chk F pC = 0 := by
  have h : F pC.name = true := (hF _).2 ⟨by decide, [120], by decide, by decide +kernel, by decide +kernel⟩
  unfold chk
  rw [if_neg (by decide), if_neg (by decide), if_neg (by rw [h]; decide), if_neg (by decide)]
theorem rightFrom_cons {F : ByteArray → Bool} {last : Int} {p : Pat} {r : List Pat} (h1 : ¬ (p.id < 1 ∨ 9999 < p.id)) (h2 : ¬ p.id ≤ last) (h3 : chk F p = 0) : rightFrom F last (p :: r) = rightFrom F p.id r := by
  rw [rightFrom, if_neg h1, if_neg h2, if_neg (by rw [h3]; decide)]
theorem addC {F : ByteArray → Bool} (hF : ∀ n, F n = true ↔ formOk n) : addL F [pA, pB] pC = ([pA, pC, pB], 0) := by
  have hr : right F [pA, pC, pB] = 0 := by
    unfold right
    rw [if_neg (by decide), rightFrom_cons (by decide) (by decide) (chkA hF), rightFrom_cons (by decide) (by decide) (chkC hF), rightFrom_cons (by decide) (by decide) (chkB hF)]
    rfl
  have hi : insP pC [pA, pB] = [pA, pC, pB] := by
    rw [insP, if_neg (by decide), insP, if_pos (by decide)]
  unfold addL
  rw [if_neg (by decide), hi, hr, if_pos rfl]
theorem addB {F : ByteArray → Bool} : addL F [pA, pB] pB = ([], 7) := by
  unfold addL
  rw [if_pos (by decide)]
theorem remN : removeL [pA, pB] 2 = ([], 9) := by
  have : [pA, pB].findIdx? (fun p => p.id == 2) = none := by decide +kernel
  unfold removeL
  rw [this]
theorem sea1 {G : ByteArray → List ByteArray} (hG : ∀ cs, okt cs = true → G (bs cs) = (words cs).map bs) (W : List ByteArray) (R : List Int)
    (h : ([([[97, 100, 97], [98, 121, 114, 111, 110]].map bs, (1 : Int)), ([[98, 121, 114, 111, 110], [108, 111, 114, 100]].map bs, 3)].filter fun q => !W.isEmpty && !(W.any fun word => !begW word q.1)).map Prod.snd = R) : searchL G W [pA, pB] = R := by
  have hA : G pA.name = [[97, 100, 97], [98, 121, 114, 111, 110]].map bs := by
    have := hG [65, 100, 97, 32, 66, 121, 114, 111, 110] (by decide)
    rw [show words [65, 100, 97, 32, 66, 121, 114, 111, 110] = [[97, 100, 97], [98, 121, 114, 111, 110]] by decide +kernel] at this
    exact this
  have hB : G pB.name = [[98, 121, 114, 111, 110], [108, 111, 114, 100]].map bs := by
    have := hG [66, 121, 114, 111, 110, 44, 32, 76, 111, 114, 100] (by decide)
    rw [show words [66, 121, 114, 111, 110, 44, 32, 76, 111, 114, 100] = [[98, 121, 114, 111, 110], [108, 111, 114, 100]] by decide +kernel] at this
    exact this
  rw [← h]
  unfold searchL hit
  rw [List.filter_cons, List.filter_cons, List.filter_cons, List.filter_cons]
  simp only [hA, hB, List.filter_nil]
  split <;> split <;> rfl
theorem names_ab : ∀ p ∈ [pA, pB], p.name.size ≤ 1000 ∧ ∃ cs, okt cs = true ∧ p.name = bs cs := by
  intro p hp
  simp only [List.mem_cons, List.not_mem_nil, or_false] at hp
  rcases hp with rfl | rfl
  · exact ⟨by decide, [65, 100, 97, 32, 66, 121, 114, 111, 110], by decide, by decide +kernel⟩
  · exact ⟨by decide, [66, 121, 114, 111, 110, 44, 32, 76, 111, 114, 100], by decide, by decide +kernel⟩
theorem names_le : ∀ p ∈ [pA, pB], p.name.size ≤ 1000000 := fun p hp => Nat.le_trans (names_ab p hp).1 (by decide)

theorem kn_search {G : ByteArray → List ByteArray} (hG : ∀ cs, okt cs = true → G (bs cs) = (words cs).map bs) (ss : List Nat) (ws : List (List Nat)) (R : List Int) (hok : okt ss = true) (hs : (bs ss).size ≤ 1000) (hw : words ss = ws)
    (h : ([([[97, 100, 97], [98, 121, 114, 111, 110]].map bs, (1 : Int)), ([[98, 121, 114, 111, 110], [108, 111, 114, 100]].map bs, 3)].filter fun q => !(ws.map bs).isEmpty && !((ws.map bs).any fun word => !begW word q.1)).map Prod.snd = R)
    (v : Value) (w : World) (hE : Env w) (hv : Pats w v [pA, pB]) : Calls Tryd.prog 22 #[v, .string (bs ss)] w (RetInts w R) := by
  have := pSearch hG v [pA, pB] ss w hE hv (by decide) names_ab hok hs
  rw [hw, sea1 hG _ R h] at this
  exact this
theorem kn1 {G : ByteArray → List ByteArray} (hG : ∀ cs, okt cs = true → G (bs cs) = (words cs).map bs) (v : Value) (w : World) (hE : Env w) (hv : Pats w v [pA, pB]) : Calls Tryd.prog 22 #[v, .string ⟨#[98, 121, 114]⟩] w (RetInts w [1, 3]) :=
  kn_search hG [98, 121, 114] [[98, 121, 114]] [1, 3] (by decide) (by decide +kernel) (by decide +kernel) (by decide +kernel) v w hE hv
theorem kn2 {G : ByteArray → List ByteArray} (hG : ∀ cs, okt cs = true → G (bs cs) = (words cs).map bs) (v : Value) (w : World) (hE : Env w) (hv : Pats w v [pA, pB]) : Calls Tryd.prog 22 #[v, .string ⟨#[98, 32, 97, 100]⟩] w (RetInts w [1]) :=
  kn_search hG [98, 32, 97, 100] [[98], [97, 100]] [1] (by decide) (by decide +kernel) (by decide +kernel) (by decide +kernel) v w hE hv
theorem kn3 {G : ByteArray → List ByteArray} (hG : ∀ cs, okt cs = true → G (bs cs) = (words cs).map bs) (v : Value) (w : World) (hE : Env w) (hv : Pats w v [pA, pB]) : Calls Tryd.prog 22 #[v, .string ⟨#[45]⟩] w (RetInts w []) :=
  kn_search hG [45] [] [] (by decide) (by decide +kernel) (by decide +kernel) (by decide +kernel) v w hE hv
theorem kn4 {F : ByteArray → Bool} (hF : ∀ n, F n = true ↔ formOk n) (v : Value) (w : World) (hE : Env w) (hv : Pats w v [pA, pB]) :
    Calls Tryd.prog 15 #[v, .agg #[.int .i64 2, .int .i64 9, .int .i64 4, .int .i64 5, .bool false, .string ⟨#[120]⟩]] w (RetPats w [pA, pC, pB] 0) := by
  have := pAdd hF v [pA, pB] pC w hE hv (by decide) names_le (by decide)
  rw [addC hF] at this
  exact this
theorem kn5 {F : ByteArray → Bool} (hF : ∀ n, F n = true ↔ formOk n) (v : Value) (w : World) (hE : Env w) (hv : Pats w v [pA, pB]) :
    Calls Tryd.prog 15 #[v, .agg #[.int .i64 3, .int .i64 1, .int .i64 1, .int .i64 5, .bool false, .string ⟨#[66, 121, 114, 111, 110, 44, 32, 76, 111, 114, 100]⟩]] w (RetPats w [] 7) := by
  have := pAdd hF v [pA, pB] pB w hE hv (by decide) names_le (by decide)
  rw [addB] at this
  exact this
theorem kn6 (v : Value) (w : World) (hv : Pats w v [pA, pB]) : Calls Tryd.prog 26 #[v, .int .i64 2] w (RetPats w [] 9) := by
  have := pRemove v [pA, pB] 2 w hv (by decide)
  rw [remN] at this
  exact this
theorem kn7 (w : World) : Calls Tryd.prog 19 #[.agg #[.int .i64 1, .int .i64 1, .int .i64 1, .int .i64 5, .bool true, .string ⟨#[65, 100, 97, 32, 66, 121, 114, 111, 110]⟩], .int .i64 6, .int .i64 1001, .int .i64 3] w (RetInts w [1, 2, 3, 4]) := by
  have := pReasons { pA with stop := true } 6 1001 3 w
  rw [show reasons { pA with stop := true } 6 1001 3 = [1, 2, 3, 4] by decide +kernel] at this
  exact this
theorem kn8 (w : World) : Calls Tryd.prog 19 #[.agg #[.int .i64 1, .int .i64 1, .int .i64 1, .int .i64 5, .bool false, .string ⟨#[65, 100, 97, 32, 66, 121, 114, 111, 110]⟩], .int .i64 5, .int .i64 1000, .int .i64 2] w (RetInts w []) := by
  have := pReasons pA 5 1000 2 w
  rw [show reasons pA 5 1000 2 = [] by decide +kernel] at this
  exact this
end Go.Proofs.YtlpeppigebbfkaaDoor
namespace Go.Proofs.YtlpeppigebbfkaaDoor
open Go Go.RowKit

theorem ints_new (w : World) (xs : List Int) (T : TypeId) (n : Nat) (hn : n = xs.length) : Ints (w.alloc (.cells (xs.map (Value.int .i64)).toArray T)) (.slice (some ⟨w.heap.size, 0, none⟩) n n) xs := by
  subst hn
  refine ⟨_, xs.length, rfl, Nat.le_refl _, .inr ⟨_, 0, rfl, by rw [World.size_alloc]; exact Nat.lt_succ_self _, fun j x hj => ?_⟩⟩
  rw [Lib.cell_of_heap (heap_alloc_new w _), Nat.zero_add, List.getElem?_toArray, List.getElem?_map, hj]
  rfl
theorem pats_new (w : World) (l : List Pat) (T : TypeId) (n : Nat) (hn : n = l.length) : Pats (w.alloc (.cells (pcells l).toArray T)) (.slice (some ⟨w.heap.size, 0, none⟩) n n) l := by
  refine Pats.mk_cells hn (Nat.le_refl _) (by rw [World.size_alloc]; exact Nat.lt_succ_self _) fun t u hu => ?_
  rw [Lib.cell_of_heap (heap_alloc_new w _), List.getElem?_toArray]
  exact hu
theorem six_new (w : World) (p : Pat) (T : TypeId) : Six (w.alloc (.cells #[.int .i64 p.id, .int .i64 p.kind, .int .i64 p.branch, .int .i64 p.till, .bool p.stop, .string p.name] T)) w.heap.size 0 p := by
  refine ⟨?_, ?_, ?_, ?_, ?_, ?_⟩ <;> (rw [Lib.cell_of_heap (heap_alloc_new w _)]; rfl)
/-- What the examples keep while they run. -/
structure AliveAt (w wk : World) : Prop where
  env : Env wk
  bel : Below w.heap.size w wk
  size : w.heap.size + 1 + 1 + 1 + 1 ≤ wk.heap.size
  l : Pats wk (.slice (some ⟨w.heap.size + 1 + 1 + 1, 0, none⟩) 2 2) [pA, pB]
  a : Six wk w.heap.size 0 pA
  b : Six wk (w.heap.size + 1) 0 pB
  c : Six wk (w.heap.size + 1 + 1) 0 pC
theorem AliveAt.next {w wk wn : World} (h : AliveAt w wk) (hb : Below wk.heap.size wk wn) : AliveAt w wn := by
  have hs := h.size
  exact ⟨h.env.below hb, h.bel.bt hb, Nat.le_trans h.size hb.size, h.l.below hb (Nat.le_refl _), h.a.below hb (by omega), h.b.below hb (by omega), h.c.below hb (by omega)⟩
theorem alive_start (w : World) (hE : Env w) :
    AliveAt w ((((w.alloc (.cells #[.int .i64 1, .int .i64 1, .int .i64 1, .int .i64 5, .bool false, .string ⟨#[65, 100, 97, 32, 66, 121, 114, 111, 110]⟩] 28)).alloc
      (.cells #[.int .i64 3, .int .i64 1, .int .i64 1, .int .i64 5, .bool false, .string ⟨#[66, 121, 114, 111, 110, 44, 32, 76, 111, 114, 100]⟩] 28)).alloc
      (.cells #[.int .i64 2, .int .i64 9, .int .i64 4, .int .i64 5, .bool false, .string ⟨#[120]⟩] 28)).alloc
      (.cells #[.int .i64 1, .int .i64 1, .int .i64 1, .int .i64 5, .bool false, .string ⟨#[65, 100, 97, 32, 66, 121, 114, 111, 110]⟩, .int .i64 3, .int .i64 1, .int .i64 1, .int .i64 5, .bool false, .string ⟨#[66, 121, 114, 111, 110, 44, 32, 76, 111, 114, 100]⟩] 28)) := by
  obtain ⟨w1, h1⟩ : ∃ w1, w1 = w.alloc (.cells #[.int .i64 1, .int .i64 1, .int .i64 1, .int .i64 5, .bool false, .string ⟨#[65, 100, 97, 32, 66, 121, 114, 111, 110]⟩] 28) := ⟨_, rfl⟩
  rw [← h1]
  have a1 : Six w1 w.heap.size 0 pA := by rw [h1]; exact six_new w pA _
  have s1 : w1.heap.size = w.heap.size + 1 := by rw [h1, World.size_alloc]
  have b1 : Below w.heap.size w w1 := by rw [h1]; exact (Below.refl _ _).alloc (Nat.le_refl _) _
  clear h1
  obtain ⟨w2, h2⟩ : ∃ w2, w2 = w1.alloc (.cells #[.int .i64 3, .int .i64 1, .int .i64 1, .int .i64 5, .bool false, .string ⟨#[66, 121, 114, 111, 110, 44, 32, 76, 111, 114, 100]⟩] 28) := ⟨_, rfl⟩
  rw [← h2]
  have a2 : Six w2 w1.heap.size 0 pB := by rw [h2]; exact six_new w1 pB _
  have s2 : w2.heap.size = w1.heap.size + 1 := by rw [h2, World.size_alloc]
  have b2 : Below w1.heap.size w1 w2 := by rw [h2]; exact (Below.refl _ _).alloc (Nat.le_refl _) _
  clear h2
  obtain ⟨w3, h3⟩ : ∃ w3, w3 = w2.alloc (.cells #[.int .i64 2, .int .i64 9, .int .i64 4, .int .i64 5, .bool false, .string ⟨#[120]⟩] 28) := ⟨_, rfl⟩
  rw [← h3]
  have a3 : Six w3 w2.heap.size 0 pC := by rw [h3]; exact six_new w2 pC _
  have s3 : w3.heap.size = w2.heap.size + 1 := by rw [h3, World.size_alloc]
  have b3 : Below w2.heap.size w2 w3 := by rw [h3]; exact (Below.refl _ _).alloc (Nat.le_refl _) _
  clear h3
  have b4 := ((Below.refl w3.heap.size w3).alloc (Nat.le_refl _) (.cells #[.int .i64 1, .int .i64 1, .int .i64 1, .int .i64 5, .bool false, .string ⟨#[65, 100, 97, 32, 66, 121, 114, 111, 110]⟩, .int .i64 3, .int .i64 1, .int .i64 1, .int .i64 5, .bool false, .string ⟨#[66, 121, 114, 111, 110, 44, 32, 76, 111, 114, 100]⟩] 28))
  have p4 := pats_new w3 [pA, pB] 28 2 rfl
  have e3 : w3.heap.size = w.heap.size + 1 + 1 + 1 := by rw [s3, s2, s1]
  have e2 : w2.heap.size = w.heap.size + 1 + 1 := by rw [s2, s1]
  rw [e3] at p4
  have b12 : Below w.heap.size w w2 := b1.bt b2
  have b13 : Below w.heap.size w w3 := b12.bt b3
  have b14 := b13.bt b4
  refine ⟨hE.below b14, b14, by rw [World.size_alloc, e3]; exact Nat.le_refl _, p4, ?_, ?_, ?_⟩
  · exact ((a1.below b2 (by omega)).below b3 (by omega)).below b4 (by omega)
  · rw [s1] at a2; exact (a2.below b3 (by omega)).below b4 (by omega)
  · rw [e2] at a3; exact a3.below b4 (by omega)

set_option maxRecDepth 100000 in
set_option maxHeartbeats 4000000 in
theorem alive_any (w : World) (hE : Env w) :
    Calls Tryd.prog 10 #[] w fun e w' => e = .returned (.bool true) ∧ Below w.heap.size w w' := by
  obtain ⟨F, hF⟩ := form_dec
  obtain ⟨G, hG⟩ := words_dec
  have A1 := alive_start w hE
  obtain ⟨W1, hW1⟩ : ∃ W1, W1 = ((((w.alloc (.cells #[.int .i64 1, .int .i64 1, .int .i64 1, .int .i64 5, .bool false, .string ⟨#[65, 100, 97, 32, 66, 121, 114, 111, 110]⟩] 28)).alloc
      (.cells #[.int .i64 3, .int .i64 1, .int .i64 1, .int .i64 5, .bool false, .string ⟨#[66, 121, 114, 111, 110, 44, 32, 76, 111, 114, 100]⟩] 28)).alloc
      (.cells #[.int .i64 2, .int .i64 9, .int .i64 4, .int .i64 5, .bool false, .string ⟨#[120]⟩] 28)).alloc
      (.cells #[.int .i64 1, .int .i64 1, .int .i64 1, .int .i64 5, .bool false, .string ⟨#[65, 100, 97, 32, 66, 121, 114, 111, 110]⟩, .int .i64 3, .int .i64 1, .int .i64 1, .int .i64 5, .bool false, .string ⟨#[66, 121, 114, 111, 110, 44, 32, 76, 111, 114, 100]⟩] 28)) := ⟨_, rfl⟩
  rw [← hW1] at A1
  have HW1 := Lib.hid hW1
  have HF := Lib.hid hF
  have HG := Lib.hid hG
  have H1 := Lib.hid A1
  clear hW1 hF hG A1 hE
  go_enter Tryd.func10, Tryd.ntmps10
  go_wp2_with fail
  rw [← HW1.out]
  clear HW1
  refine (kn4 HF.out _ W1 H1.out.env H1.out.l).mono ?_
  rintro e w2 ⟨v2, rfl, p2, b2⟩
  have H2 := Lib.hid (H1.out.next b2)
  have HM2 := Lib.hid p2
  obtain ⟨q0, q1, q2, q3, q4, q5⟩ := H2.out.b
  simp only [pB, Nat.zero_add] at q0 q1 q2 q3 q4 q5
  clear b2 p2
  go_wp2_with fail
  refine (kn5 HF.out _ w2 H2.out.env H2.out.l).mono ?_
  rintro e w3 ⟨v3, rfl, -, b3⟩
  have H3 := Lib.hid (H2.out.next b3)
  have HM3 := Lib.hid (HM2.out.below b3 (Nat.le_refl _))
  clear b3 q0 q1 q2 q3 q4 q5
  go_wp2_with fail
  refine (kn6 _ w3 H3.out.l).mono ?_
  rintro e w4 ⟨v4, rfl, -, b4⟩
  have H4 := Lib.hid (H3.out.next b4)
  have HM4 := Lib.hid (HM3.out.below b4 (Nat.le_refl _))
  obtain ⟨q0, q1, q2, q3, q4, q5⟩ := H4.out.a
  simp only [pA, Nat.zero_add] at q0 q1 q2 q3 q4 q5
  clear b4
  go_wp2_with fail
  have b5 := ((Below.refl w4.heap.size w4).alloc (Nat.le_refl _) (.cells #[.int .i64 1, .int .i64 1, .int .i64 1, .int .i64 5, .bool true, .string ⟨#[65, 100, 97, 32, 66, 121, 114, 111, 110]⟩] 28))
  have d5 := six_new w4 { pA with stop := true } 28
  obtain ⟨w5, hw5⟩ : ∃ w5, w5 = w4.alloc (.cells #[.int .i64 1, .int .i64 1, .int .i64 1, .int .i64 5, .bool true, .string ⟨#[65, 100, 97, 32, 66, 121, 114, 111, 110]⟩] 28) := ⟨_, rfl⟩
  rw [← hw5]
  rw [← hw5] at b5
  have HD5 : Hid (Six w5 w4.heap.size 0 { pA with stop := true } ∧ w4.heap.size < w5.heap.size) := Lib.hid ⟨by rw [hw5]; exact d5, by rw [hw5, World.size_alloc]; exact Nat.lt_succ_self _⟩
  clear d5 hw5
  have H5 := Lib.hid (H4.out.next b5)
  have HM5 := Lib.hid (HM4.out.below b5 (Nat.le_refl _))
  obtain ⟨gd, hgd⟩ : ∃ gd, gd = w4.heap.size := ⟨_, rfl⟩
  rw [← hgd] at HD5 ⊢
  clear b5 q0 q1 q2 q3 q4 q5 hgd
  refine (kn1 HG.out _ w5 H5.out.env H5.out.l).mono ?_
  rintro e w6 ⟨v6, rfl, i6, b6⟩
  have H6 := Lib.hid (H5.out.next b6)
  have HM6 := Lib.hid (HM5.out.below b6 (Nat.le_refl _))
  have HD6 := Lib.hid (And.intro (HD5.out.1.below b6 HD5.out.2) (Nat.lt_of_lt_of_le HD5.out.2 b6.size))
  have HI6 := Lib.hid i6
  clear b6 i6
  go_wp2_with fail
  have b7 := (Below.refl w6.heap.size w6).alloc (Nat.le_refl _) (.cells #[.int .i64 1, .int .i64 3] 3)
  have i7 := ints_new w6 [1, 3] 3 2 rfl
  obtain ⟨w7, hw7⟩ : ∃ w7, w7 = w6.alloc (.cells #[.int .i64 1, .int .i64 3] 3) := ⟨_, rfl⟩
  rw [← hw7]
  rw [← hw7] at b7
  have j7 : Ints w7 (.slice (some ⟨w6.heap.size, 0, none⟩) 2 2) [1, 3] := by rw [hw7]; exact i7
  clear i7 hw7
  have H7 := Lib.hid (H6.out.next b7)
  have HM7 := Lib.hid (HM6.out.below b7 (Nat.le_refl _))
  have HD7 := Lib.hid (And.intro (HD6.out.1.below b7 HD6.out.2) (Nat.lt_of_lt_of_le HD6.out.2 b7.size))
  refine (rSameInts _ _ [1, 3] w7 (HI6.out.below b7 (Nat.le_refl _)) j7 (by decide)).mono ?_
  rintro e w8 ⟨rfl, d8⟩
  have b8 := d8.below w7.heap.size
  have H8 := Lib.hid (H7.out.next b8)
  have HM8 := Lib.hid (HM7.out.below b8 (Nat.le_refl _))
  have HD8 := Lib.hid (And.intro (HD7.out.1.below b8 HD7.out.2) (Nat.lt_of_lt_of_le HD7.out.2 b8.size))
  clear b7 j7 d8 b8 HI6
  go_wp2_with fail
  refine (kn2 HG.out _ w8 H8.out.env H8.out.l).mono ?_
  rintro e w9 ⟨v9, rfl, i9, b9⟩
  have H9 := Lib.hid (H8.out.next b9)
  have HM9 := Lib.hid (HM8.out.below b9 (Nat.le_refl _))
  have HD9 := Lib.hid (And.intro (HD8.out.1.below b9 HD8.out.2) (Nat.lt_of_lt_of_le HD8.out.2 b9.size))
  have HI9 := Lib.hid i9
  clear b9 i9
  go_wp2_with fail
  have b10 := (Below.refl w9.heap.size w9).alloc (Nat.le_refl _) (.cells #[.int .i64 1] 3)
  have i10 := ints_new w9 [1] 3 1 rfl
  obtain ⟨w10, hw10⟩ : ∃ w10, w10 = w9.alloc (.cells #[.int .i64 1] 3) := ⟨_, rfl⟩
  rw [← hw10]
  rw [← hw10] at b10
  have j10 : Ints w10 (.slice (some ⟨w9.heap.size, 0, none⟩) 1 1) [1] := by rw [hw10]; exact i10
  clear i10 hw10
  have H10 := Lib.hid (H9.out.next b10)
  have HM10 := Lib.hid (HM9.out.below b10 (Nat.le_refl _))
  have HD10 := Lib.hid (And.intro (HD9.out.1.below b10 HD9.out.2) (Nat.lt_of_lt_of_le HD9.out.2 b10.size))
  refine (rSameInts _ _ [1] w10 (HI9.out.below b10 (Nat.le_refl _)) j10 (by decide)).mono ?_
  rintro e w11 ⟨rfl, d11⟩
  have b11 := d11.below w10.heap.size
  have H11 := Lib.hid (H10.out.next b11)
  have HM11 := Lib.hid (HM10.out.below b11 (Nat.le_refl _))
  have HD11 := Lib.hid (And.intro (HD10.out.1.below b11 HD10.out.2) (Nat.lt_of_lt_of_le HD10.out.2 b11.size))
  clear b10 j10 d11 b11 HI9
  go_wp2_with fail
  refine (kn3 HG.out _ w11 H11.out.env H11.out.l).mono ?_
  rintro e w12 ⟨v12, rfl, i12, b12⟩
  have H12 := Lib.hid (H11.out.next b12)
  have HM12 := Lib.hid (HM11.out.below b12 (Nat.le_refl _))
  have HD12 := Lib.hid (And.intro (HD11.out.1.below b12 HD11.out.2) (Nat.lt_of_lt_of_le HD11.out.2 b12.size))
  have HI12 := Lib.hid i12
  clear b12 i12
  obtain ⟨pa, pc, rfl, -, -⟩ := HI12.out
  simp only [List.length_nil]
  obtain ⟨qa0, qa1, qa2, qa3, qa4, qa5⟩ := H12.out.a
  simp only [pA, Nat.zero_add] at qa0 qa1 qa2 qa3 qa4 qa5
  obtain ⟨qb0, qb1, qb2, qb3, qb4, qb5⟩ := H12.out.b
  simp only [pB, Nat.zero_add] at qb0 qb1 qb2 qb3 qb4 qb5
  obtain ⟨qc0, qc1, qc2, qc3, qc4, qc5⟩ := H12.out.c
  simp only [pC, Nat.zero_add] at qc0 qc1 qc2 qc3 qc4 qc5
  go_wp2_with fail
  have b13 := (Below.refl w12.heap.size w12).alloc (Nat.le_refl _) (.cells #[.int .i64 1, .int .i64 1, .int .i64 1, .int .i64 5, .bool false, .string ⟨#[65, 100, 97, 32, 66, 121, 114, 111, 110]⟩, .int .i64 2, .int .i64 9, .int .i64 4, .int .i64 5, .bool false, .string ⟨#[120]⟩, .int .i64 3, .int .i64 1, .int .i64 1, .int .i64 5, .bool false, .string ⟨#[66, 121, 114, 111, 110, 44, 32, 76, 111, 114, 100]⟩] 28)
  have i13 := pats_new w12 [pA, pC, pB] 28 3 rfl
  obtain ⟨w13, hw13⟩ : ∃ w13, w13 = w12.alloc (.cells #[.int .i64 1, .int .i64 1, .int .i64 1, .int .i64 5, .bool false, .string ⟨#[65, 100, 97, 32, 66, 121, 114, 111, 110]⟩, .int .i64 2, .int .i64 9, .int .i64 4, .int .i64 5, .bool false, .string ⟨#[120]⟩, .int .i64 3, .int .i64 1, .int .i64 1, .int .i64 5, .bool false, .string ⟨#[66, 121, 114, 111, 110, 44, 32, 76, 111, 114, 100]⟩] 28) := ⟨_, rfl⟩
  rw [← hw13]
  rw [← hw13] at b13
  have j13 : Pats w13 (.slice (some ⟨w12.heap.size, 0, none⟩) 3 3) [pA, pC, pB] := by rw [hw13]; exact i13
  clear i13 hw13
  have H13 := Lib.hid (H12.out.next b13)
  have HM13 := Lib.hid (HM12.out.below b13 (Nat.le_refl _))
  have HD13 := Lib.hid (And.intro (HD12.out.1.below b13 HD12.out.2) (Nat.lt_of_lt_of_le HD12.out.2 b13.size))
  refine (rSameP _ _ [pA, pC, pB] w13 HM13.out j13 (by decide)).mono ?_
  rintro e w14 ⟨rfl, d14⟩
  have b14 := d14.below w13.heap.size
  have H14 := Lib.hid (H13.out.next b14)
  have HM14 := Lib.hid (HM13.out.below b14 (Nat.le_refl _))
  have HD14 := Lib.hid (And.intro (HD13.out.1.below b14 HD13.out.2) (Nat.lt_of_lt_of_le HD13.out.2 b14.size))
  clear b13 j13 d14 b14 HI12 qa0 qa1 qa2 qa3 qa4 qa5 qb0 qb1 qb2 qb3 qb4 qb5 qc0 qc1 qc2 qc3 qc4 qc5
  obtain ⟨q0, q1, q2, q3, q4, q5⟩ := HD14.out.1
  simp only [pA, Nat.zero_add] at q0 q1 q2 q3 q4 q5
  go_wp2_with fail
  refine (kn7 w14).mono ?_
  rintro e w15 ⟨v15, rfl, i15, b15⟩
  have H15 := Lib.hid (H14.out.next b15)
  have HM15 := Lib.hid (HM14.out.below b15 (Nat.le_refl _))
  have HD15 := Lib.hid (And.intro (HD14.out.1.below b15 HD14.out.2) (Nat.lt_of_lt_of_le HD14.out.2 b15.size))
  have HI15 := Lib.hid i15
  clear b15 i15 q0 q1 q2 q3 q4 q5
  go_wp2_with fail
  have b16 := (Below.refl w15.heap.size w15).alloc (Nat.le_refl _) (.cells #[.int .i64 1, .int .i64 2, .int .i64 3, .int .i64 4] 3)
  have i16 := ints_new w15 [1, 2, 3, 4] 3 4 rfl
  obtain ⟨w16, hw16⟩ : ∃ w16, w16 = w15.alloc (.cells #[.int .i64 1, .int .i64 2, .int .i64 3, .int .i64 4] 3) := ⟨_, rfl⟩
  rw [← hw16]
  rw [← hw16] at b16
  have j16 : Ints w16 (.slice (some ⟨w15.heap.size, 0, none⟩) 4 4) [1, 2, 3, 4] := by rw [hw16]; exact i16
  clear i16 hw16
  have H16 := Lib.hid (H15.out.next b16)
  have HM16 := Lib.hid (HM15.out.below b16 (Nat.le_refl _))
  have HD16 := Lib.hid (And.intro (HD15.out.1.below b16 HD15.out.2) (Nat.lt_of_lt_of_le HD15.out.2 b16.size))
  refine (rSameInts _ _ [1, 2, 3, 4] w16 (HI15.out.below b16 (Nat.le_refl _)) j16 (by decide)).mono ?_
  rintro e w17 ⟨rfl, d17⟩
  have b17 := d17.below w16.heap.size
  have H17 := Lib.hid (H16.out.next b17)
  have HM17 := Lib.hid (HM16.out.below b17 (Nat.le_refl _))
  have HD17 := Lib.hid (And.intro (HD16.out.1.below b17 HD16.out.2) (Nat.lt_of_lt_of_le HD16.out.2 b17.size))
  clear b16 j16 d17 b17 HI15
  obtain ⟨q0, q1, q2, q3, q4, q5⟩ := H17.out.a
  simp only [pA, Nat.zero_add] at q0 q1 q2 q3 q4 q5
  go_wp2_with fail
  refine (kn8 w17).mono ?_
  rintro e w18 ⟨v18, rfl, i18, b18⟩
  have H18 := Lib.hid (H17.out.next b18)
  have HM18 := Lib.hid (HM17.out.below b18 (Nat.le_refl _))
  have HD18 := Lib.hid (And.intro (HD17.out.1.below b18 HD17.out.2) (Nat.lt_of_lt_of_le HD17.out.2 b18.size))
  obtain ⟨pa2, pc2, rfl, -, -⟩ := i18
  simp only [List.length_nil]
  clear b18 q0 q1 q2 q3 q4 q5
  go_wp2
  go_ret
  exact ⟨rfl, H18.out.bel⟩
end Go.Proofs.YtlpeppigebbfkaaDoor
