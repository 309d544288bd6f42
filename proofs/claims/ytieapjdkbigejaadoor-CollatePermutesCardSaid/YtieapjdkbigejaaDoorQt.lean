/- Sorting (layer 2): the walks of stableCmpFunc (of at most forty texts), SortStableFunc, Clone and Sort. -/
import Derived.Test.YtieapjdkbigejaaDoorQn
import Derived.Test.YtieapjdkbigejaaDoorKsm
import Derived.LoopN
import Derived.Laws.AppendOwnNone
namespace Go.Proofs.YtieapjdkbigejaaDoor
open Go Go.RowKit

set_option maxRecDepth 100000 in
set_option maxHeartbeats 2000000 in
theorem sIns0 (v fv : Value) (a : Nat) (ha : a ≤ 1000) (w : World) : Calls Tryd.prog 70 #[v, .int .i64 a, .int .i64 a, fv] w fun e w' => e = .returned (.tuple #[]) ∧ w' = w := by
  go_enter Tryd.func70, Tryd.ntmps70
  go_wp2
  refine wp_loop_rounds 1 ?_
  rw [rounds_succ]
  go_wp2
  go_end0
  exact ⟨rfl, rfl⟩
set_option maxRecDepth 100000 in
set_option maxHeartbeats 2000000 in
theorem sStable0 (v fv : Value) (w : World) : Calls Tryd.prog 61 #[v, .int .i64 0, fv] w fun e w' => e = .returned (.tuple #[]) ∧ w' = w := by
  have h0 := sIns0 v fv 0 (by omega) w
  have H0 := Lib.hid h0
  clear h0
  go_enter Tryd.func61, Tryd.ntmps61
  go_wp2
  refine wp_loop_rounds 1 ?_
  rw [rounds_succ]
  go_wp2_with fail
  refine H0.out.mono ?_
  rintro e w1 ⟨rfl, rfl⟩
  go_wp2
  refine wp_loop_rounds 1 ?_
  rw [rounds_succ]
  go_wp2
  go_end0
  exact ⟨rfl, rfl⟩

section
variable {w0 w : World} {blk cl : Nat} {lang : ByteArray} {l : List (List Nat)}
set_option maxRecDepth 100000 in
set_option maxHeartbeats 2000000 in
theorem sStableA (h : SInv w0 blk cl lang w l) (hE : Env w0) (n cap : Nat) (hn : n = l.length) (h20 : n < 20) :
    Calls Tryd.prog 61 #[.slice (some ⟨blk, 0, none⟩) n cap, .int .i64 n, .func (.func 44) #[] #[.pointer (some ⟨cl, 0, none⟩)]] w fun e w' =>
      e = .returned (.tuple #[]) ∧ ∃ l', SInv w0 blk cl lang w' l' ∧ l'.Perm l ∧ SortedK (lcode lang) l' := by
  have hi := sInsertion (p := []) (x := l) (s := []) (h.eq (by simp)) hE n cap 0 n (by simpa using hn) (by omega) rfl (by omega)
  have HI := Lib.hid hi
  clear hi hn h hE
  go_enter Tryd.func61, Tryd.ntmps61
  go_wp2
  refine wp_loop_rounds 1 ?_
  rw [rounds_succ]
  go_wp2_with fail
  refine HI.out.mono ?_
  rintro e w1 ⟨rfl, x, h1, h2, h3⟩
  have HX := Lib.hid (And.intro h1 (And.intro h2 h3))
  clear h1 h2 h3
  go_wp2
  refine wp_loop_rounds 1 ?_
  rw [rounds_succ]
  go_wp2
  go_end0
  exact ⟨rfl, x, HX.out.1.eq (by simp), HX.out.2.1, HX.out.2.2⟩

set_option maxRecDepth 100000 in
set_option maxHeartbeats 2000000 in
theorem sStableB (h : SInv w0 blk cl lang w l) (hE : Env w0) (n cap : Nat) (hn : n = l.length) (h20 : 20 ≤ n) (h40 : n < 40) :
    Calls Tryd.prog 61 #[.slice (some ⟨blk, 0, none⟩) n cap, .int .i64 n, .func (.func 44) #[] #[.pointer (some ⟨cl, 0, none⟩)]] w fun e w' =>
      e = .returned (.tuple #[]) ∧ ∃ l', SInv w0 blk cl lang w' l' ∧ l'.Perm l ∧ SortedK (lcode lang) l' := by
  have hi := sInsertion (p := []) (x := l.take 20) (s := l.drop 20) (h.eq (by simp)) hE n cap 0 20 (by simp; omega) (by omega) rfl (by simp; omega)
  have HI := Lib.hid hi
  have HN := Lib.hid hn
  have HE := Lib.hid hE
  clear hi hn h hE
  go_enter Tryd.func61, Tryd.ntmps61
  go_wp2
  refine wp_loop_rounds 2 ?_
  rw [rounds_succ]
  go_wp2_with fail
  refine HI.out.mono ?_
  rintro e w1 ⟨rfl, x1, h1, h2, h3⟩
  have hl1 : x1.length = 20 := by have := h2.length_eq; have := HN.out; simp at *; omega
  have hi2 := sInsertion (p := x1) (x := l.drop 20) (s := []) (h1.eq (by simp)) HE.out n cap 20 n (by simp; have := HN.out; omega) (by omega) hl1.symm (by simp; have := HN.out; omega)
  have HI2 := Lib.hid hi2
  have HX1 := Lib.hid (And.intro h2 (And.intro h3 hl1))
  clear h1 h2 h3 hl1 hi2
  go_wp2
  rw [rounds_succ]
  go_wp2_with fail
  refine HI2.out.mono ?_
  rintro e w2 ⟨rfl, x2, h1, h2, h3⟩
  have hl2 : x2.length + 20 = n := by have := h2.length_eq; have := HN.out; simp at *; omega
  have HX2 := Lib.hid (And.intro h1 (And.intro h2 (And.intro h3 hl2)))
  clear h1 h2 h3 hl2
  by_cases hgt : 20 < n
  · have hm := sMerge (w0 := w0) (blk := blk) (cl := cl) (lang := lang) HE.out 1000 w2 [] x1 x2 [] (by have := HX1.out.2.2; have := HX2.out.2.2.2; omega) (by intro e; have := HX1.out.2.2; rw [e] at this; simp at this) (by intro e; have := HX2.out.2.2.2; rw [e] at this; simp at this; omega) (HX2.out.1.eq (by simp)) HX1.out.2.1 HX2.out.2.2.1 n cap 0 20 n (by simp; have := HX1.out.2.2; have := HX2.out.2.2.2; omega) (by omega) rfl (by have := HX1.out.2.2; omega) (by have := HX2.out.2.2.2; omega)
    have HM := Lib.hid hm
    clear hm
    go_wp2
    refine wp_loop_rounds 2 ?_
    rw [rounds_succ]
    go_wp2
    refine wp_loop_rounds 1 ?_
    rw [rounds_succ]
    go_wp2_with fail
    refine HM.out.mono ?_
    rintro e w3 ⟨rfl, x3, h1, h2, h3⟩
    have HX3 := Lib.hid (And.intro h1 (And.intro h2 h3))
    clear h1 h2 h3
    go_wp2
    rw [rounds_succ]
    go_wp2
    go_end0
    refine ⟨rfl, x3, HX3.out.1.eq (by simp), ?_, HX3.out.2.2⟩
    refine (HX3.out.2.1.trans (HX1.out.1.append HX2.out.2.1)).trans ?_
    rw [List.take_append_drop]
  · have hm0 : x2 = [] := List.length_eq_zero_iff.1 (by have := HX2.out.2.2.2; omega)
    have HM0 := Lib.hid hm0
    clear hm0
    go_wp2
    refine wp_loop_rounds 1 ?_
    rw [rounds_succ]
    go_wp2
    go_end0
    refine ⟨rfl, x1, HX2.out.1.eq (by rw [HM0.out]; simp), ?_, HX1.out.2.1⟩
    have := HX1.out.1
    rwa [List.take_of_length_le (by have := HN.out; omega)] at this

set_option maxRecDepth 100000 in
set_option maxHeartbeats 2000000 in
theorem sStableC (h : SInv w0 blk cl lang w l) (hE : Env w0) (cap : Nat) (hn : 40 = l.length) :
    Calls Tryd.prog 61 #[.slice (some ⟨blk, 0, none⟩) 40 cap, .int .i64 40, .func (.func 44) #[] #[.pointer (some ⟨cl, 0, none⟩)]] w fun e w' =>
      e = .returned (.tuple #[]) ∧ ∃ l', SInv w0 blk cl lang w' l' ∧ l'.Perm l ∧ SortedK (lcode lang) l' := by
  have hi := sInsertion (p := []) (x := l.take 20) (s := l.drop 20) (h.eq (by simp)) hE 40 cap 0 20 (by simp; omega) (by omega) rfl (by simp; omega)
  have HI := Lib.hid hi
  have HN := Lib.hid hn
  have HE := Lib.hid hE
  clear hi hn h hE
  go_enter Tryd.func61, Tryd.ntmps61
  go_wp2
  refine wp_loop_rounds 3 ?_
  rw [rounds_succ]
  go_wp2_with fail
  refine HI.out.mono ?_
  rintro e w1 ⟨rfl, x1, h1, h2, h3⟩
  have hl1 : x1.length = 20 := by have := h2.length_eq; have := HN.out; simp at *; omega
  have hi2 := sInsertion (p := x1) (x := l.drop 20) (s := []) (h1.eq (by simp)) HE.out 40 cap 20 40 (by simp; have := HN.out; omega) (by omega) hl1.symm (by simp; have := HN.out; omega)
  have HI2 := Lib.hid hi2
  have HX1 := Lib.hid (And.intro h2 (And.intro h3 hl1))
  clear h1 h2 h3 hl1 hi2
  go_wp2
  rw [rounds_succ]
  go_wp2_with fail
  refine HI2.out.mono ?_
  rintro e w2 ⟨rfl, x2, h1, h2, h3⟩
  have hl2 : x2.length + 20 = 40 := by have := h2.length_eq; have := HN.out; simp at *; omega
  have HX2 := Lib.hid (And.intro h1 (And.intro h2 (And.intro h3 hl2)))
  clear h1 h2 h3 hl2
  go_wp2
  rw [rounds_succ]
  have H0 := Lib.hid (sIns0 (.slice (some ⟨blk, 0, none⟩) 40 cap) (.func (.func 44) #[] #[.pointer (some ⟨cl, 0, none⟩)]) 40 (by omega) w2)
  go_wp2_with fail
  refine H0.out.mono ?_
  rintro e w2' ⟨rfl, rfl⟩
  have hm := sMerge (w0 := w0) (blk := blk) (cl := cl) (lang := lang) HE.out 1000 w2' [] x1 x2 [] (by have := HX1.out.2.2; have := HX2.out.2.2.2; omega) (by intro e; have := HX1.out.2.2; rw [e] at this; simp at this) (by intro e; have := HX2.out.2.2.2; rw [e] at this; simp at this) (HX2.out.1.eq (by simp)) HX1.out.2.1 HX2.out.2.2.1 40 cap 0 20 40 (by simp; have := HX1.out.2.2; have := HX2.out.2.2.2; omega) (by omega) rfl (by have := HX1.out.2.2; omega) (by have := HX2.out.2.2.2; omega)
  have HM := Lib.hid hm
  clear hm H0
  go_wp2
  refine wp_loop_rounds 2 ?_
  rw [rounds_succ]
  go_wp2
  refine wp_loop_rounds 2 ?_
  rw [rounds_succ]
  go_wp2_with fail
  refine HM.out.mono ?_
  rintro e w3 ⟨rfl, x3, h1, h2, h3⟩
  have HX3 := Lib.hid (And.intro h1 (And.intro h2 h3))
  clear h1 h2 h3
  go_wp2
  rw [rounds_succ]
  go_wp2
  rw [rounds_succ]
  go_wp2
  go_end0
  refine ⟨rfl, x3, HX3.out.1.eq (by simp), ?_, HX3.out.2.2⟩
  refine (HX3.out.2.1.trans (HX1.out.1.append HX2.out.2.1)).trans ?_
  rw [List.take_append_drop]

theorem sStable (h : SInv w0 blk cl lang w l) (hE : Env w0) (n cap : Nat) (hn : n = l.length) (h40 : n ≤ 40) :
    Calls Tryd.prog 61 #[.slice (some ⟨blk, 0, none⟩) n cap, .int .i64 n, .func (.func 44) #[] #[.pointer (some ⟨cl, 0, none⟩)]] w fun e w' =>
      e = .returned (.tuple #[]) ∧ ∃ l', SInv w0 blk cl lang w' l' ∧ l'.Perm l ∧ SortedK (lcode lang) l' := by
  by_cases h1 : n < 20
  · exact sStableA h hE n cap hn h1
  · by_cases h2 : n < 40
    · exact sStableB h hE n cap hn (by omega) h2
    · obtain rfl : n = 40 := by omega
      exact sStableC h hE cap hn
end
end Go.Proofs.YtieapjdkbigejaaDoor
