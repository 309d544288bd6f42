/- The examples (alive) of the statements about layer 28: what each call answers. -/
import Derived.Test.YtlpeppigebbfkaaDoorNpa
import Derived.Test.YtlpeppigebbfkaaDoorNrm
import Derived.Test.YtlpeppigebbfkaaDoorNre
namespace Go.Proofs.YtlpeppigebbfkaaDoor
open Go Go.RowKit

def pA : Pat := ⟨1, 1, 1, 5, false, ⟨#[65, 100, 97, 32, 66, 121, 114, 111, 110]⟩⟩
def pB : Pat := ⟨3, 1, 1, 5, false, ⟨#[66, 121, 114, 111, 110, 44, 32, 76, 111, 114, 100]⟩⟩
def pC : Pat := ⟨2, 9, 4, 5, false, ⟨#[120]⟩⟩
theorem chkA {F : ByteArray → Bool} (hF : ∀ n, F n = true ↔ formOk n) : chk F pA = 0 := by
  have h : F pA.name = true := (hF _).2 ⟨by decide, [65, 100, 97, 32, 66, 121, 114, 111, 110], by decide, by decide +kernel, by decide +kernel⟩
  unfold chk
  rw [if_neg (by decide), if_neg (by decide), if_neg (by rw [h]; decide), if_neg (by decide)]
theorem chkB {F : ByteArray → Bool} (hF : ∀ n, F n = true ↔ formOk n) : chk F pB = 0 := by
  have h : F pB.name = true := (hF _).2 ⟨by decide, [66, 121, 114, 111, 110, 44, 32, 76, 111, 114, 100], by decide, by decide +kernel, by decide +kernel⟩
  unfold chk
  rw [if_neg (by decide), if_neg (by decide), if_neg (by rw [h]; decide), if_neg (by decide)]
theorem chkC {F : ByteArray → Bool} (hF : ∀ n, F n = true ↔ formOk n) : chk F pC = 0 := by
  have h : F pC.name = true := (hF _).2 ⟨by decide, [120], by decide, by decide +kernel, by decide +kernel⟩
  unfold chk
  rw [if_neg (by decide), if_neg (by decide), if_neg (by rw [h]; decide), if_neg (by decide)]
theorem rightFrom_cons {F : ByteArray → Bool} {last : Int} {p : Pat} {r : List Pat} (h1 : ¬ (p.id < 1 ∨ 9999 < p.id)) (h2 : ¬ p.id ≤ last) (h3 : chk F p = 0) : rightFrom F last (p :: r) = rightFrom F p.id r := by
  rw [rightFrom, if_neg h1, if_neg h2, if_neg (by rw [h3]; decide)]
theorem addC {F : ByteArray → Bool} (hF : ∀ n, F n = true ↔ formOk n) : addL F [pA, pB] pC = ([pA, pC, pB], 0) := by
  have hr : right F [pA, pC, pB] = 0 := by
    unfold right
    rw [if_neg (by decide), rightFrom_cons (by decide) (by decide) (chkA hF), rightFrom_cons (by decide) (by decide) (chkC hF), rightFrom_cons (by decide) (by decide) (chkB hF)]
    rfl
  have hi : insP pC [pA, pB] = [pA, pC, pB] := by
    rw [insP, if_neg (by decide), insP, if_pos (by decide)]
  unfold addL
  rw [if_neg (by decide), hi, hr, if_pos rfl]
theorem addB {F : ByteArray → Bool} : addL F [pA, pB] pB = ([], 7) := by
  unfold addL
  rw [if_pos (by decide)]
theorem remN : removeL [pA, pB] 2 = ([], 9) := by
  have : [pA, pB].findIdx? (fun p => p.id == 2) = none := by decide +kernel
  unfold removeL
  rw [this]
theorem sea1 {G : ByteArray → List ByteArray} (hG : ∀ cs, okt cs = true → G (bs cs) = (words cs).map bs) (W : List ByteArray) (R : List Int)
    (h : ([([[97, 100, 97], [98, 121, 114, 111, 110]].map bs, (1 : Int)), ([[98, 121, 114, 111, 110], [108, 111, 114, 100]].map bs, 3)].filter fun q => !W.isEmpty && !(W.any fun word => !begW word q.1)).map Prod.snd = R) : searchL G W [pA, pB] = R := by
  have hA : G pA.name = [[97, 100, 97], [98, 121, 114, 111, 110]].map bs := by
    have := hG [65, 100, 97, 32, 66, 121, 114, 111, 110] (by decide)
    rw [show words [65, 100, 97, 32, 66, 121, 114, 111, 110] = [[97, 100, 97], [98, 121, 114, 111, 110]] by decide +kernel] at this
    exact this
  have hB : G pB.name = [[98, 121, 114, 111, 110], [108, 111, 114, 100]].map bs := by
    have := hG [66, 121, 114, 111, 110, 44, 32, 76, 111, 114, 100] (by decide)
    rw [show words [66, 121, 114, 111, 110, 44, 32, 76, 111, 114, 100] = [[98, 121, 114, 111, 110], [108, 111, 114, 100]] by decide +kernel] at this
    exact this
  rw [← h]
  unfold searchL hit
  rw [List.filter_cons, List.filter_cons, List.filter_cons, List.filter_cons]
  simp only [hA, hB, List.filter_nil]
  split <;> split <;> rfl
theorem names_ab : ∀ p ∈ [pA, pB], p.name.size ≤ 1000 ∧ ∃ cs, okt cs = true ∧ p.name = bs cs := by
  intro p hp
  simp only [List.mem_cons, List.not_mem_nil, or_false] at hp
  rcases hp with rfl | rfl
  · exact ⟨by decide, [65, 100, 97, 32, 66, 121, 114, 111, 110], by decide, by decide +kernel⟩
  · exact ⟨by decide, [66, 121, 114, 111, 110, 44, 32, 76, 111, 114, 100], by decide, by decide +kernel⟩
theorem names_le : ∀ p ∈ [pA, pB], p.name.size ≤ 1000000 := fun p hp => Nat.le_trans (names_ab p hp).1 (by decide)

theorem kn_search {G : ByteArray → List ByteArray} (hG : ∀ cs, okt cs = true → G (bs cs) = (words cs).map bs) (ss : List Nat) (ws : List (List Nat)) (R : List Int) (hok : okt ss = true) (hs : (bs ss).size ≤ 1000) (hw : words ss = ws)
    (h : ([([[97, 100, 97], [98, 121, 114, 111, 110]].map bs, (1 : Int)), ([[98, 121, 114, 111, 110], [108, 111, 114, 100]].map bs, 3)].filter fun q => !(ws.map bs).isEmpty && !((ws.map bs).any fun word => !begW word q.1)).map Prod.snd = R)
    (v : Value) (w : World) (hE : Env w) (hv : Pats w v [pA, pB]) : Calls Tryd.prog 22 #[v, .string (bs ss)] w (RetInts w R) := by
  have := pSearch hG v [pA, pB] ss w hE hv (by decide) names_ab hok hs
  rw [hw, sea1 hG _ R h] at this
  exact this
theorem kn1 {G : ByteArray → List ByteArray} (hG : ∀ cs, okt cs = true → G (bs cs) = (words cs).map bs) (v : Value) (w : World) (hE : Env w) (hv : Pats w v [pA, pB]) : Calls Tryd.prog 22 #[v, .string ⟨#[98, 121, 114]⟩] w (RetInts w [1, 3]) :=
  kn_search hG [98, 121, 114] [[98, 121, 114]] [1, 3] (by decide) (by decide +kernel) (by decide +kernel) (by decide +kernel) v w hE hv
theorem kn2 {G : ByteArray → List ByteArray} (hG : ∀ cs, okt cs = true → G (bs cs) = (words cs).map bs) (v : Value) (w : World) (hE : Env w) (hv : Pats w v [pA, pB]) : Calls Tryd.prog 22 #[v, .string ⟨#[98, 32, 97, 100]⟩] w (RetInts w [1]) :=
  kn_search hG [98, 32, 97, 100] [[98], [97, 100]] [1] (by decide) (by decide +kernel) (by decide +kernel) (by decide +kernel) v w hE hv
theorem kn3 {G : ByteArray → List ByteArray} (hG : ∀ cs, okt cs = true → G (bs cs) = (words cs).map bs) (v : Value) (w : World) (hE : Env w) (hv : Pats w v [pA, pB]) : Calls Tryd.prog 22 #[v, .string ⟨#[45]⟩] w (RetInts w []) :=
  kn_search hG [45] [] [] (by decide) (by decide +kernel) (by decide +kernel) (by decide +kernel) v w hE hv
theorem kn4 {F : ByteArray → Bool} (hF : ∀ n, F n = true ↔ formOk n) (v : Value) (w : World) (hE : Env w) (hv : Pats w v [pA, pB]) :
    Calls Tryd.prog 15 #[v, .agg #[.int .i64 2, .int .i64 9, .int .i64 4, .int .i64 5, .bool false, .string ⟨#[120]⟩]] w (RetPats w [pA, pC, pB] 0) := by
  have := pAdd hF v [pA, pB] pC w hE hv (by decide) names_le (by decide)
  rw [addC hF] at this
  exact this
theorem kn5 {F : ByteArray → Bool} (hF : ∀ n, F n = true ↔ formOk n) (v : Value) (w : World) (hE : Env w) (hv : Pats w v [pA, pB]) :
    Calls Tryd.prog 15 #[v, .agg #[.int .i64 3, .int .i64 1, .int .i64 1, .int .i64 5, .bool false, .string ⟨#[66, 121, 114, 111, 110, 44, 32, 76, 111, 114, 100]⟩]] w (RetPats w [] 7) := by
  have := pAdd hF v [pA, pB] pB w hE hv (by decide) names_le (by decide)
  rw [addB] at this
  exact this
theorem kn6 (v : Value) (w : World) (hv : Pats w v [pA, pB]) : Calls Tryd.prog 26 #[v, .int .i64 2] w (RetPats w [] 9) := by
  have := pRemove v [pA, pB] 2 w hv (by decide)
  rw [remN] at this
  exact this
theorem kn7 (w : World) : Calls Tryd.prog 19 #[.agg #[.int .i64 1, .int .i64 1, .int .i64 1, .int .i64 5, .bool true, .string ⟨#[65, 100, 97, 32, 66, 121, 114, 111, 110]⟩], .int .i64 6, .int .i64 1001, .int .i64 3] w (RetInts w [1, 2, 3, 4]) := by
  have := pReasons { pA with stop := true } 6 1001 3 w
  rw [show reasons { pA with stop := true } 6 1001 3 = [1, 2, 3, 4] by decide +kernel] at this
  exact this
theorem kn8 (w : World) : Calls Tryd.prog 19 #[.agg #[.int .i64 1, .int .i64 1, .int .i64 1, .int .i64 5, .bool false, .string ⟨#[65, 100, 97, 32, 66, 121, 114, 111, 110]⟩], .int .i64 5, .int .i64 1000, .int .i64 2] w (RetInts w []) := by
  have := pReasons pA 5 1000 2 w
  rw [show reasons pA 5 1000 2 = [] by decide +kernel] at this
  exact this
end Go.Proofs.YtlpeppigebbfkaaDoor
