/- The regions of RecordOrders that draw their order (layer 08). -/
import Derived.Test.YtkfjeolpbopcnaaGreatDoorEf
import Derived.Test.YtkfjeolpbopcnaaGreatDoorEg
import Derived.Test.YtkfjeolpbopcnaaGreatDoorDrp
import Derived.Deep.Quiet
namespace Go.Proofs.YtkfjeolpbopcnaaGreatDoor
open Go Go.RowKit

theorem facts_set {n i d : Nat} {slot : Nat → Nat} {F : Nat → World → Value → Prop} {listed : Array Bool} {xs : Nat → Value} {W W' : World} {v : Value} (hinj : ∀ j, j < n → j ≠ i → slot j ≠ d) (hd : slot i = d)
    (hm : ∀ j v, Below W.heap.size W W' → F j W v → F j W' v) (h : ∀ j, j < n → listed.getD j true = true → F j W (xs (slot j))) (b : Below W.heap.size W W') (hv : F i W' v) :
    ∀ j, j < n → (listed.setIfInBounds i true).getD j true = true → F j W' ((fun k => if k = d then v else xs k) (slot j)) := by
  intro j hj hl
  by_cases hji : j = i
  · subst hji
    simp only [hd, if_true]
    exact hv
  · simp only [if_neg (hinj j hj hji)]
    exact hm j _ b (h j hj ((set_listed hl).resolve_left hji))

def or_fourS (j : Nat) : Nat := #[11, 12, 13, 14, 15, 16, 17, 18, 19, 20, 21, 22, 23, 24, 25, 26, 27, 28, 29].getD j 0
/-- What each operation yields. -/
def or_fourF (n0 : Nat) (n1 : Nat) (rid : Int) (ver : Int) (kind : Int) (lang : ByteArray) (ra : Option Addr) (n : Nat) (rc : Nat) (sa : Option Addr) (sc : Nat) (SR : Rec) (j : Nat) (W : World) (v : Value) : Prop := match j with
  | 0 => v = .pointer (some ⟨n1, 4, none⟩)
  | 1 => v = .slice sa n sc
  | 2 => v = .int .i64 (n : Int)
  | 3 => v = .pointer (some ⟨n0, 4, none⟩)
  | 4 => v = .slice ra n rc
  | 5 => v = .int .i64 (n : Int)
  | 6 => v = .bool false
  | 7 => v = .bool false
  | 8 => v = .agg #[.int .i64 rid, .int .i64 ver, .int .i64 kind, .string lang, .slice sa n sc]
  | 9 => v = .int .i64 0
  | 10 => v = .bool false
  | 11 => v = .bool false
  | 12 => v = .bool false
  | 13 => v = .agg #[.int .i64 rid, .int .i64 ver, .int .i64 kind, .string lang, .slice sa n sc]
  | 14 => ∃ (a : Option Addr) (c : Nat), v = recV5 ⟨SR, a, c⟩ ∧ RcdAt W ⟨SR, a, c⟩
  | 15 => v = .agg #[.int .i64 rid, .int .i64 ver, .int .i64 kind, .string lang, .slice sa n sc]
  | 16 => v = .bool true
  | 17 => v = .bool false
  | 18 => v = .bool false
  | _ => True
theorem or_four_mono (n0 : Nat) (n1 : Nat) (rid : Int) (ver : Int) (kind : Int) (lang : ByteArray) (ra : Option Addr) (n : Nat) (rc : Nat) (sa : Option Addr) (sc : Nat) (SR : Rec) {W W' : World} (j : Nat) (v : Value) (b : Below W.heap.size W W') (h : or_fourF n0 n1 rid ver kind lang ra n rc sa sc SR j W v) : or_fourF n0 n1 rid ver kind lang ra n rc sa sc SR j W' v := by
  unfold or_fourF at h ⊢
  split <;> simp only at h
  · exact h
  · exact h
  · exact h
  · exact h
  · exact h
  · exact h
  · exact h
  · exact h
  · exact h
  · exact h
  · exact h
  · exact h
  · exact h
  · exact h
  · obtain ⟨a, c, h1, h2⟩ := h; exact ⟨a, c, h1, RcdAt.below h2 b (Nat.le_refl _)⟩
  · exact h
  · exact h
  · exact h
  · exact h
  · trivial

set_option maxRecDepth 100000 in
set_option maxHeartbeats 4000000 in
theorem or_four {id0 : Nat} {ty0 : TypeId} {po0 : String} {af0 : Array Edge} {ty1 : TypeId} {po1 : String} {af1 : Array Edge} {ty2 : TypeId} {po2 : String} {af2 : Array Edge} {ty3 : TypeId} {po3 : String} {af3 : Array Edge} {ty4 : TypeId} {po4 : String} {af4 : Array Edge} {ty5 : TypeId} {po5 : String} {af5 : Array Edge} {ty6 : TypeId} {po6 : String} {af6 : Array Edge} {ty7 : TypeId} {po7 : String} {af7 : Array Edge} {ty8 : TypeId} {po8 : String} {af8 : Array Edge} {ty9 : TypeId} {po9 : String} {af9 : Array Edge} {ty10 : TypeId} {po10 : String} {af10 : Array Edge} {ty11 : TypeId} {po11 : String} {af11 : Array Edge} {ty12 : TypeId} {po12 : String} {af12 : Array Edge} {ty13 : TypeId} {po13 : String} {af13 : Array Edge} {ty14 : TypeId} {po14 : String} {af14 : Array Edge} {ty15 : TypeId} {po15 : String} {af15 : Array Edge} {ty16 : TypeId} {po16 : String} {af16 : Array Edge} {ty17 : TypeId} {po17 : String} {af17 : Array Edge} {ty18 : TypeId} {po18 : String} {af18 : Array Edge} {Q : Exit → Act → World → Prop} {A : World} {OPS0 : Array Oper} {v0 v2 v4 v5 v6 v7 v8 v9 v10 v30 v31 v32 v33 v34 v35 v36 v37 v38 v39 v40 v41 v42 v43 v44 v45 v46 v47 v48 v49 v50 v51 v52 v53 v54 v55 v56 v57 v58 v59 v60 v61 v62 v63 v64 v65 v66 v67 v68 v69 v70 v71 v72 v73 v74 v75 v76 v77 v78 v79 v80 v81 v82 v83 v84 v85 v86 v87 v88 v89 v90 v91 v92 v93 v94 v95 v96 v97 v98 v99 v100 v101 v102 v103 : Value} {u11 u12 u13 u14 u15 u16 u17 u18 u19 u20 u21 u22 u23 u24 u25 u26 u27 u28 u29 : Value} (n0 : Nat) (n1 : Nat) (rid : Int) (ver : Int) (kind : Int) (lang : ByteArray) (ra : Option Addr) (n : Nat) (rc : Nat) (sa : Option Addr) (sc : Nat) (SR : Rec)
    (hn0 : A.heap[n0]? = some (recO rid ver kind lang ra n rc)) (hn1 : A.heap[n1]? = some (recO rid ver kind lang sa n sc))
    (yRI : Hid (∀ W, Below A.heap.size A W → Calls Tryz.prog 12 #[.agg #[.int .i64 rid, .int .i64 ver, .int .i64 kind, .string lang, .slice sa n sc]] W (fun e w' => e = .returned (.int .i64 0) ∧ Below W.heap.size W w')))
    (ySO : Hid (∀ W, Below A.heap.size A W → Calls Tryz.prog 25 #[.agg #[.int .i64 rid, .int .i64 ver, .int .i64 kind, .string lang, .slice sa n sc]] W (RetR1 W SR)))
    (ySA : Hid (∀ W a c, Below A.heap.size A W → RcdAt W ⟨SR, a, c⟩ → Calls Tryz.prog 14 #[recV5 ⟨SR, a, c⟩, .agg #[.int .i64 rid, .int .i64 ver, .int .i64 kind, .string lang, .slice sa n sc]] W (fun e w' => e = .returned (.bool true) ∧ Below W.heap.size W w')))
    (hw : (forwardB .any OPS0 && [(1, 0), (2, 1), (4, 3), (5, 4), (6, 2), (6, 5), (7, 6), (8, 7), (9, 7), (9, 8), (10, 7), (10, 9), (11, 7), (11, 10), (12, 11), (13, 12), (14, 12), (14, 13), (15, 12), (16, 12), (16, 14), (16, 15), (17, 12), (17, 16), (18, 12), (18, 17)].all fun p => waits .any OPS0 p.1 p.2) = true) (hO : OPS0 = #[⟨some 11, .fieldAddr 24 (.tmp 3) 4, ty0, po0, af0, none⟩, ⟨some 12, .load 22 (.tmp 11), ty1, po1, af1, none⟩, ⟨some 13, .call { callee := .builtin .len, args := #[.tmp 12], argTypes := #[22] }, ty2, po2, af2, none⟩, ⟨some 14, .fieldAddr 24 (.tmp 1) 4, ty3, po3, af3, none⟩, ⟨some 15, .load 22 (.tmp 14), ty4, po4, af4, none⟩, ⟨some 16, .call { callee := .builtin .len, args := #[.tmp 15], argTypes := #[22] }, ty5, po5, af5, none⟩, ⟨some 17, .binOp .neq 3 (.tmp 13) (.tmp 16) 3, ty6, po6, af6, none⟩, ⟨some 18, .move (.tmp 17), ty7, po7, af7, none⟩, ⟨some 19, .load 24 (.tmp 3), ty8, po8, af8, some (7, false)⟩, ⟨some 20, .call { callee := .value (.func 12), args := #[.tmp 19], argTypes := #[24] }, ty9, po9, af9, some (7, false)⟩, ⟨some 21, .binOp .neq 27 (.tmp 20) (.const (.int .i64 0)) 27, ty10, po10, af10, some (7, false)⟩, ⟨some 22, .pick (.tmp 18) (.const (.bool true)) (.tmp 21), ty11, po11, af11, none⟩, ⟨some 23, .move (.tmp 22), ty12, po12, af12, none⟩, ⟨some 24, .load 24 (.tmp 3), ty13, po13, af13, some (12, false)⟩, ⟨some 25, .call { callee := .value (.func 25), args := #[.tmp 24], argTypes := #[24] }, ty14, po14, af14, some (12, false)⟩, ⟨some 26, .load 24 (.tmp 3), ty15, po15, af15, some (12, false)⟩, ⟨some 27, .call { callee := .value (.func 14), args := #[.tmp 25, .tmp 26], argTypes := #[24, 24] }, ty16, po16, af16, some (12, false)⟩, ⟨some 28, .unOp .not 4 (.tmp 27), ty17, po17, af17, some (12, false)⟩, ⟨some 29, .pick (.tmp 23) (.const (.bool true)) (.tmp 28), ty18, po18, af18, none⟩])
    (hQ : ∀ (xs : Nat → Value) (W : World), Below A.heap.size A W → or_fourF n0 n1 rid ver kind lang ra n rc sa sc SR 18 W (xs 29) → Q .normal ⟨#[v0, .pointer (some ⟨n0, 0, none⟩), v2, .pointer (some ⟨n1, 0, none⟩), v4, v5, v6, v7, v8, v9, v10, xs 11, xs 12, xs 13, xs 14, xs 15, xs 16, xs 17, xs 18, xs 19, xs 20, xs 21, xs 22, xs 23, xs 24, xs 25, xs 26, xs 27, xs 28, xs 29, v30, v31, v32, v33, v34, v35, v36, v37, v38, v39, v40, v41, v42, v43, v44, v45, v46, v47, v48, v49, v50, v51, v52, v53, v54, v55, v56, v57, v58, v59, v60, v61, v62, v63, v64, v65, v66, v67, v68, v69, v70, v71, v72, v73, v74, v75, v76, v77, v78, v79, v80, v81, v82, v83, v84, v85, v86, v87, v88, v89, v90, v91, v92, v93, v94, v95, v96, v97, v98, v99, v100, v101, v102, v103], []⟩ W)
    : Code.wp Tryz.prog (.region id0 #[⟨some 11, .fieldAddr 24 (.tmp 3) 4, ty0, po0, af0, none⟩, ⟨some 12, .load 22 (.tmp 11), ty1, po1, af1, none⟩, ⟨some 13, .call { callee := .builtin .len, args := #[.tmp 12], argTypes := #[22] }, ty2, po2, af2, none⟩, ⟨some 14, .fieldAddr 24 (.tmp 1) 4, ty3, po3, af3, none⟩, ⟨some 15, .load 22 (.tmp 14), ty4, po4, af4, none⟩, ⟨some 16, .call { callee := .builtin .len, args := #[.tmp 15], argTypes := #[22] }, ty5, po5, af5, none⟩, ⟨some 17, .binOp .neq 3 (.tmp 13) (.tmp 16) 3, ty6, po6, af6, none⟩, ⟨some 18, .move (.tmp 17), ty7, po7, af7, none⟩, ⟨some 19, .load 24 (.tmp 3), ty8, po8, af8, some (7, false)⟩, ⟨some 20, .call { callee := .value (.func 12), args := #[.tmp 19], argTypes := #[24] }, ty9, po9, af9, some (7, false)⟩, ⟨some 21, .binOp .neq 27 (.tmp 20) (.const (.int .i64 0)) 27, ty10, po10, af10, some (7, false)⟩, ⟨some 22, .pick (.tmp 18) (.const (.bool true)) (.tmp 21), ty11, po11, af11, none⟩, ⟨some 23, .move (.tmp 22), ty12, po12, af12, none⟩, ⟨some 24, .load 24 (.tmp 3), ty13, po13, af13, some (12, false)⟩, ⟨some 25, .call { callee := .value (.func 25), args := #[.tmp 24], argTypes := #[24] }, ty14, po14, af14, some (12, false)⟩, ⟨some 26, .load 24 (.tmp 3), ty15, po15, af15, some (12, false)⟩, ⟨some 27, .call { callee := .value (.func 14), args := #[.tmp 25, .tmp 26], argTypes := #[24, 24] }, ty16, po16, af16, some (12, false)⟩, ⟨some 28, .unOp .not 4 (.tmp 27), ty17, po17, af17, some (12, false)⟩, ⟨some 29, .pick (.tmp 23) (.const (.bool true)) (.tmp 28), ty18, po18, af18, none⟩] true) Q ⟨#[v0, .pointer (some ⟨n0, 0, none⟩), v2, .pointer (some ⟨n1, 0, none⟩), v4, v5, v6, v7, v8, v9, v10, u11, u12, u13, u14, u15, u16, u17, u18, u19, u20, u21, u22, u23, u24, u25, u26, u27, u28, u29, v30, v31, v32, v33, v34, v35, v36, v37, v38, v39, v40, v41, v42, v43, v44, v45, v46, v47, v48, v49, v50, v51, v52, v53, v54, v55, v56, v57, v58, v59, v60, v61, v62, v63, v64, v65, v66, v67, v68, v69, v70, v71, v72, v73, v74, v75, v76, v77, v78, v79, v80, v81, v82, v83, v84, v85, v86, v87, v88, v89, v90, v91, v92, v93, v94, v95, v96, v97, v98, v99, v100, v101, v102, v103], []⟩ A := by
  rw [Bool.and_eq_true] at hw
  obtain ⟨hfw, hw⟩ := hw
  have hW := List.all_eq_true.1 hw
  clear hw
  rw [hO] at hfw hW
  clear hO OPS0
  have HFW := Lib.hid hfw
  have HWA := Lib.hid hW
  clear hfw hW
  refine wp_region_inv (by kernel_rfl) (fun listed x W => ∃ xs : Nat → Value, x = ⟨#[v0, .pointer (some ⟨n0, 0, none⟩), v2, .pointer (some ⟨n1, 0, none⟩), v4, v5, v6, v7, v8, v9, v10, xs 11, xs 12, xs 13, xs 14, xs 15, xs 16, xs 17, xs 18, xs 19, xs 20, xs 21, xs 22, xs 23, xs 24, xs 25, xs 26, xs 27, xs 28, xs 29, v30, v31, v32, v33, v34, v35, v36, v37, v38, v39, v40, v41, v42, v43, v44, v45, v46, v47, v48, v49, v50, v51, v52, v53, v54, v55, v56, v57, v58, v59, v60, v61, v62, v63, v64, v65, v66, v67, v68, v69, v70, v71, v72, v73, v74, v75, v76, v77, v78, v79, v80, v81, v82, v83, v84, v85, v86, v87, v88, v89, v90, v91, v92, v93, v94, v95, v96, v97, v98, v99, v100, v101, v102, v103], []⟩ ∧ Below A.heap.size A W ∧ ∀ j, j < 19 → listed.getD j true = true → or_fourF n0 n1 rid ver kind lang ra n rc sa sc SR j W (xs (or_fourS j))) ?start ?step ?done
  case start =>
    exact ⟨fun k => if k = 11 then u11 else if k = 12 then u12 else if k = 13 then u13 else if k = 14 then u14 else if k = 15 then u15 else if k = 16 then u16 else if k = 17 then u17 else if k = 18 then u18 else if k = 19 then u19 else if k = 20 then u20 else if k = 21 then u21 else if k = 22 then u22 else if k = 23 then u23 else if k = 24 then u24 else if k = 25 then u25 else if k = 26 then u26 else if k = 27 then u27 else if k = 28 then u28 else if k = 29 then u29 else undef, rfl, (Below.refl _ _).drew, fun j hj h => by simp [Array.getD, hj] at h⟩
  case done =>
    rintro listed x W hs ⟨xs, rfl, bel, hF⟩ h0
    exact hQ xs W bel (hF 18 (by decide) (all_listedB HFW.out hs h0 18))
  case step =>
    rintro listed x W i hs ⟨xs, rfl, bel, hF⟩ hi
    have hin : i < 19 := by
      obtain ⟨-, o, ho, -⟩ := mem_ready.1 hi
      exact (Array.getElem?_eq_some_iff.1 ho).1
    have hpW := (bel.block n0 (Array.getElem?_eq_some_iff.1 hn0).1).trans hn0
    have hnW := (bel.block n1 (Array.getElem?_eq_some_iff.1 hn1).1).trans hn1
    have g0 := Lib.cell_of_heap hpW 0
    have g1 := Lib.cell_of_heap hpW 1
    have g2 := Lib.cell_of_heap hpW 2
    have g3 := Lib.cell_of_heap hpW 3
    have g4 := Lib.cell_of_heap hpW 4
    have h0 := Lib.cell_of_heap hnW 0
    have h1 := Lib.cell_of_heap hnW 1
    have h2 := Lib.cell_of_heap hnW 2
    have h3 := Lib.cell_of_heap hnW 3
    have h4 := Lib.cell_of_heap hnW 4
    have HRI := yRI
    have HSO := ySO
    have HSA := ySA
    have FF := Lib.hid hF
    have BEL := Lib.hid bel
    clear hF hQ HFW bel hs hn0 hn1 hpW hnW yRI ySO ySA
    have hcases : i = 0 ∨ i = 1 ∨ i = 2 ∨ i = 3 ∨ i = 4 ∨ i = 5 ∨ i = 6 ∨ i = 7 ∨ i = 8 ∨ i = 9 ∨ i = 10 ∨ i = 11 ∨ i = 12 ∨ i = 13 ∨ i = 14 ∨ i = 15 ∨ i = 16 ∨ i = 17 ∨ i = 18 := by omega
    clear hin
    rcases hcases with rfl | rfl | rfl | rfl | rfl | rfl | rfl | rfl | rfl | rfl | rfl | rfl | rfl | rfl | rfl | rfl | rfl | rfl | rfl
    · clear hi  HWA
      refine wpOp_step rfl (fun K hK => ?_)
      go_simp
      exact hK _ _ ⟨fun k => if k = 11 then .pointer (some ⟨n1, 4, none⟩) else xs k, by simp, BEL.out, facts_set (by decide) rfl (or_four_mono n0 n1 rid ver kind lang ra n rc sa sc SR) FF.out (Below.refl _ _) (rfl)⟩
    · have l0 := waited hi (HWA.out (1, 0) (by decide))
      have e11 : (xs 11) = .pointer (some ⟨n1, 4, none⟩) := FF.out 0 (by decide) l0
      clear hi l0 HWA
      refine wpOp_step rfl (fun K hK => ?_)
      simp only [e11]
      go_simp
      exact hK _ _ ⟨fun k => if k = 12 then .slice sa n sc else xs k, by simp [e11], BEL.out, facts_set (by decide) rfl (or_four_mono n0 n1 rid ver kind lang ra n rc sa sc SR) FF.out (Below.refl _ _) (rfl)⟩
    · have l1 := waited hi (HWA.out (2, 1) (by decide))
      have e12 : (xs 12) = .slice sa n sc := FF.out 1 (by decide) l1
      clear hi l1 HWA
      refine wpOp_step rfl (fun K hK => ?_)
      simp only [e12]
      go_simp
      exact hK _ _ ⟨fun k => if k = 13 then .int .i64 (n : Int) else xs k, by simp [e12], BEL.out, facts_set (by decide) rfl (or_four_mono n0 n1 rid ver kind lang ra n rc sa sc SR) FF.out (Below.refl _ _) (rfl)⟩
    · clear hi  HWA
      refine wpOp_step rfl (fun K hK => ?_)
      go_simp
      exact hK _ _ ⟨fun k => if k = 14 then .pointer (some ⟨n0, 4, none⟩) else xs k, by simp, BEL.out, facts_set (by decide) rfl (or_four_mono n0 n1 rid ver kind lang ra n rc sa sc SR) FF.out (Below.refl _ _) (rfl)⟩
    · have l3 := waited hi (HWA.out (4, 3) (by decide))
      have e14 : (xs 14) = .pointer (some ⟨n0, 4, none⟩) := FF.out 3 (by decide) l3
      clear hi l3 HWA
      refine wpOp_step rfl (fun K hK => ?_)
      simp only [e14]
      go_simp
      exact hK _ _ ⟨fun k => if k = 15 then .slice ra n rc else xs k, by simp [e14], BEL.out, facts_set (by decide) rfl (or_four_mono n0 n1 rid ver kind lang ra n rc sa sc SR) FF.out (Below.refl _ _) (rfl)⟩
    · have l4 := waited hi (HWA.out (5, 4) (by decide))
      have e15 : (xs 15) = .slice ra n rc := FF.out 4 (by decide) l4
      clear hi l4 HWA
      refine wpOp_step rfl (fun K hK => ?_)
      simp only [e15]
      go_simp
      exact hK _ _ ⟨fun k => if k = 16 then .int .i64 (n : Int) else xs k, by simp [e15], BEL.out, facts_set (by decide) rfl (or_four_mono n0 n1 rid ver kind lang ra n rc sa sc SR) FF.out (Below.refl _ _) (rfl)⟩
    · have l2 := waited hi (HWA.out (6, 2) (by decide))
      have e13 : (xs 13) = .int .i64 (n : Int) := FF.out 2 (by decide) l2
      have l5 := waited hi (HWA.out (6, 5) (by decide))
      have e16 : (xs 16) = .int .i64 (n : Int) := FF.out 5 (by decide) l5
      clear hi l2 l5 HWA
      refine wpOp_step rfl (fun K hK => ?_)
      simp only [e13, e16]
      go_simp
      exact hK _ _ ⟨fun k => if k = 17 then .bool false else xs k, by simp [e13, e16], BEL.out, facts_set (by decide) rfl (or_four_mono n0 n1 rid ver kind lang ra n rc sa sc SR) FF.out (Below.refl _ _) (rfl)⟩
    · have l6 := waited hi (HWA.out (7, 6) (by decide))
      have e17 : (xs 17) = .bool false := FF.out 6 (by decide) l6
      clear hi l6 HWA
      refine wpOp_step rfl (fun K hK => ?_)
      simp only [e17]
      go_simp
      exact hK _ _ ⟨fun k => if k = 18 then .bool false else xs k, by simp [e17], BEL.out, facts_set (by decide) rfl (or_four_mono n0 n1 rid ver kind lang ra n rc sa sc SR) FF.out (Below.refl _ _) (rfl)⟩
    · have l7 := waited hi (HWA.out (8, 7) (by decide))
      have e18 : (xs 18) = .bool false := FF.out 7 (by decide) l7
      clear hi l7 HWA
      refine wpOp_step rfl (fun K hK => ?_)
      simp only [e18]
      go_simp
      exact hK _ _ ⟨fun k => if k = 19 then .agg #[.int .i64 rid, .int .i64 ver, .int .i64 kind, .string lang, .slice sa n sc] else xs k, by simp [e18], BEL.out, facts_set (by decide) rfl (or_four_mono n0 n1 rid ver kind lang ra n rc sa sc SR) FF.out (Below.refl _ _) (rfl)⟩
    · have l7 := waited hi (HWA.out (9, 7) (by decide))
      have e18 : (xs 18) = .bool false := FF.out 7 (by decide) l7
      have l8 := waited hi (HWA.out (9, 8) (by decide))
      have e19 : (xs 19) = .agg #[.int .i64 rid, .int .i64 ver, .int .i64 kind, .string lang, .slice sa n sc] := FF.out 8 (by decide) l8
      clear hi l7 l8 HWA
      refine wpOp_step rfl (fun K hK => ?_)
      simp only [e18, e19]
      go_simp
      refine (HRI.out W BEL.out).mono ?_
      rintro e w'' ⟨rfl, bb⟩
      exact hK _ _ ⟨fun k => if k = 20 then .int .i64 0 else xs k, by simp [e18, e19], (BEL.out.bt bb), facts_set (by decide) rfl (or_four_mono n0 n1 rid ver kind lang ra n rc sa sc SR) FF.out (bb) (rfl)⟩
    · have l7 := waited hi (HWA.out (10, 7) (by decide))
      have e18 : (xs 18) = .bool false := FF.out 7 (by decide) l7
      have l9 := waited hi (HWA.out (10, 9) (by decide))
      have e20 : (xs 20) = .int .i64 0 := FF.out 9 (by decide) l9
      clear hi l7 l9 HWA
      refine wpOp_step rfl (fun K hK => ?_)
      simp only [e18, e20]
      go_simp
      exact hK _ _ ⟨fun k => if k = 21 then .bool false else xs k, by simp [e18, e20], BEL.out, facts_set (by decide) rfl (or_four_mono n0 n1 rid ver kind lang ra n rc sa sc SR) FF.out (Below.refl _ _) (rfl)⟩
    · have l7 := waited hi (HWA.out (11, 7) (by decide))
      have e18 : (xs 18) = .bool false := FF.out 7 (by decide) l7
      have l10 := waited hi (HWA.out (11, 10) (by decide))
      have e21 : (xs 21) = .bool false := FF.out 10 (by decide) l10
      clear hi l7 l10 HWA
      refine wpOp_step rfl (fun K hK => ?_)
      simp only [e18, e21]
      go_simp
      exact hK _ _ ⟨fun k => if k = 22 then .bool false else xs k, by simp [e18, e21], BEL.out, facts_set (by decide) rfl (or_four_mono n0 n1 rid ver kind lang ra n rc sa sc SR) FF.out (Below.refl _ _) (rfl)⟩
    · have l11 := waited hi (HWA.out (12, 11) (by decide))
      have e22 : (xs 22) = .bool false := FF.out 11 (by decide) l11
      clear hi l11 HWA
      refine wpOp_step rfl (fun K hK => ?_)
      simp only [e22]
      go_simp
      exact hK _ _ ⟨fun k => if k = 23 then .bool false else xs k, by simp [e22], BEL.out, facts_set (by decide) rfl (or_four_mono n0 n1 rid ver kind lang ra n rc sa sc SR) FF.out (Below.refl _ _) (rfl)⟩
    · have l12 := waited hi (HWA.out (13, 12) (by decide))
      have e23 : (xs 23) = .bool false := FF.out 12 (by decide) l12
      clear hi l12 HWA
      refine wpOp_step rfl (fun K hK => ?_)
      simp only [e23]
      go_simp
      exact hK _ _ ⟨fun k => if k = 24 then .agg #[.int .i64 rid, .int .i64 ver, .int .i64 kind, .string lang, .slice sa n sc] else xs k, by simp [e23], BEL.out, facts_set (by decide) rfl (or_four_mono n0 n1 rid ver kind lang ra n rc sa sc SR) FF.out (Below.refl _ _) (rfl)⟩
    · have l12 := waited hi (HWA.out (14, 12) (by decide))
      have e23 : (xs 23) = .bool false := FF.out 12 (by decide) l12
      have l13 := waited hi (HWA.out (14, 13) (by decide))
      have e24 : (xs 24) = .agg #[.int .i64 rid, .int .i64 ver, .int .i64 kind, .string lang, .slice sa n sc] := FF.out 13 (by decide) l13
      clear hi l12 l13 HWA
      refine wpOp_step rfl (fun K hK => ?_)
      simp only [e23, e24]
      go_simp
      refine (HSO.out W BEL.out).mono ?_
      rintro e w'' ⟨a, c, rfl, hs, bb⟩
      exact hK _ _ ⟨fun k => if k = 25 then recV5 ⟨SR, a, c⟩ else xs k, by simp [e23, e24], (BEL.out.bt bb), facts_set (by decide) rfl (or_four_mono n0 n1 rid ver kind lang ra n rc sa sc SR) FF.out (bb) (⟨a, c, rfl, hs⟩)⟩
    · have l12 := waited hi (HWA.out (15, 12) (by decide))
      have e23 : (xs 23) = .bool false := FF.out 12 (by decide) l12
      clear hi l12 HWA
      refine wpOp_step rfl (fun K hK => ?_)
      simp only [e23]
      go_simp
      exact hK _ _ ⟨fun k => if k = 26 then .agg #[.int .i64 rid, .int .i64 ver, .int .i64 kind, .string lang, .slice sa n sc] else xs k, by simp [e23], BEL.out, facts_set (by decide) rfl (or_four_mono n0 n1 rid ver kind lang ra n rc sa sc SR) FF.out (Below.refl _ _) (rfl)⟩
    · have l12 := waited hi (HWA.out (16, 12) (by decide))
      have e23 : (xs 23) = .bool false := FF.out 12 (by decide) l12
      have l14 := waited hi (HWA.out (16, 14) (by decide))
      have e25 : ∃ (a : Option Addr) (c : Nat), (xs 25) = recV5 ⟨SR, a, c⟩ ∧ RcdAt W ⟨SR, a, c⟩ := FF.out 14 (by decide) l14
      have l15 := waited hi (HWA.out (16, 15) (by decide))
      have e26 : (xs 26) = .agg #[.int .i64 rid, .int .i64 ver, .int .i64 kind, .string lang, .slice sa n sc] := FF.out 15 (by decide) l15
      obtain ⟨a, c, e25', hr⟩ := e25
      have HRR := Lib.hid hr
      clear hr
      clear hi l12 l14 l15 HWA
      refine wpOp_step rfl (fun K hK => ?_)
      simp only [e23, e26, e25']
      go_simp
      refine (HSA.out W a c BEL.out HRR.out).mono ?_
      rintro e w'' ⟨rfl, bb⟩
      exact hK _ _ ⟨fun k => if k = 27 then .bool true else xs k, by simp [e23, e26, e25'], (BEL.out.bt bb), facts_set (by decide) rfl (or_four_mono n0 n1 rid ver kind lang ra n rc sa sc SR) FF.out (bb) (rfl)⟩
    · have l12 := waited hi (HWA.out (17, 12) (by decide))
      have e23 : (xs 23) = .bool false := FF.out 12 (by decide) l12
      have l16 := waited hi (HWA.out (17, 16) (by decide))
      have e27 : (xs 27) = .bool true := FF.out 16 (by decide) l16
      clear hi l12 l16 HWA
      refine wpOp_step rfl (fun K hK => ?_)
      simp only [e23, e27]
      go_simp
      exact hK _ _ ⟨fun k => if k = 28 then .bool false else xs k, by simp [e23, e27], BEL.out, facts_set (by decide) rfl (or_four_mono n0 n1 rid ver kind lang ra n rc sa sc SR) FF.out (Below.refl _ _) (rfl)⟩
    · have l12 := waited hi (HWA.out (18, 12) (by decide))
      have e23 : (xs 23) = .bool false := FF.out 12 (by decide) l12
      have l17 := waited hi (HWA.out (18, 17) (by decide))
      have e28 : (xs 28) = .bool false := FF.out 17 (by decide) l17
      clear hi l12 l17 HWA
      refine wpOp_step rfl (fun K hK => ?_)
      simp only [e23, e28]
      go_simp
      exact hK _ _ ⟨fun k => if k = 29 then .bool false else xs k, by simp [e23, e28], BEL.out, facts_set (by decide) rfl (or_four_mono n0 n1 rid ver kind lang ra n rc sa sc SR) FF.out (Below.refl _ _) (rfl)⟩
def or_firstS (j : Nat) : Nat := #[36, 37, 38, 39, 40, 41, 42, 43, 44, 45, 46, 47, 48, 49, 50, 51, 52, 53, 54, 55, 56, 57, 58, 59, 60, 61, 62, 63, 64, 65, 66, 67, 68, 69, 70, 71, 72, 73].getD j 0
/-- What each operation yields. -/
def or_firstF (n1 : Nat) (rid : Int) (ver : Int) (kind : Int) (lang : ByteArray) (ra : Option Addr) (n : Nat) (rc : Nat) (sc : Nat) (sb : Nat) (so : Nat) (TG : ByteArray) (L : List Fld) (kk : Nat) (j : Nat) (W : World) (v : Value) : Prop := match j with
  | 0 => v = .int .i64 (kk : Int)
  | 1 => v = .bool false
  | 2 => v = .bool false
  | 3 => v = undef
  | 4 => v = undef
  | 5 => v = undef
  | 6 => v = undef
  | 7 => v = undef
  | 8 => v = undef
  | 9 => v = undef
  | 10 => v = undef
  | 11 => v = undef
  | 12 => v = undef
  | 13 => v = undef
  | 14 => v = undef
  | 15 => v = undef
  | 16 => v = undef
  | 17 => v = .bool false
  | 18 => v = .bool false
  | 19 => v = .agg #[.int .i64 rid, .int .i64 ver, .int .i64 kind, .string lang, .slice (some ⟨sb, so, none⟩) n sc]
  | 20 => v = .pointer (some ⟨n1, 4, none⟩)
  | 21 => v = .slice (some ⟨sb, so, none⟩) n sc
  | 22 => v = .int .i64 (kk : Int)
  | 23 => v = .pointer (some ⟨sb, so + kk * 4, none⟩)
  | 24 => v = .pointer (some ⟨sb, so + kk * 4, none⟩)
  | 25 => v = .string TG
  | 26 => Flds W v L
  | 27 => v = .agg #[.int .i64 rid, .int .i64 ver, .int .i64 kind, .string lang, .slice ra n rc]
  | 28 => v = .pointer (some ⟨n1, 4, none⟩)
  | 29 => v = .slice (some ⟨sb, so, none⟩) n sc
  | 30 => v = .int .i64 (kk : Int)
  | 31 => v = .pointer (some ⟨sb, so + kk * 4, none⟩)
  | 32 => v = .pointer (some ⟨sb, so + kk * 4, none⟩)
  | 33 => v = .string TG
  | 34 => Flds W v L
  | 35 => v = .bool true
  | 36 => v = .bool false
  | 37 => v = .bool false
  | _ => True
theorem or_first_mono (n1 : Nat) (rid : Int) (ver : Int) (kind : Int) (lang : ByteArray) (ra : Option Addr) (n : Nat) (rc : Nat) (sc : Nat) (sb : Nat) (so : Nat) (TG : ByteArray) (L : List Fld) (kk : Nat) {W W' : World} (j : Nat) (v : Value) (b : Below W.heap.size W W') (h : or_firstF n1 rid ver kind lang ra n rc sc sb so TG L kk j W v) : or_firstF n1 rid ver kind lang ra n rc sc sb so TG L kk j W' v := by
  unfold or_firstF at h ⊢
  split <;> simp only at h
  · exact h
  · exact h
  · exact h
  · exact h
  · exact h
  · exact h
  · exact h
  · exact h
  · exact h
  · exact h
  · exact h
  · exact h
  · exact h
  · exact h
  · exact h
  · exact h
  · exact h
  · exact h
  · exact h
  · exact h
  · exact h
  · exact h
  · exact h
  · exact h
  · exact h
  · exact h
  · exact Flds.below h b (Nat.le_refl _)
  · exact h
  · exact h
  · exact h
  · exact h
  · exact h
  · exact h
  · exact h
  · exact Flds.below h b (Nat.le_refl _)
  · exact h
  · exact h
  · exact h
  · trivial

set_option maxRecDepth 100000 in
set_option maxHeartbeats 4000000 in
theorem or_first {id0 : Nat} {ty0 : TypeId} {po0 : String} {af0 : Array Edge} {ty1 : TypeId} {po1 : String} {af1 : Array Edge} {ty2 : TypeId} {po2 : String} {af2 : Array Edge} {ty3 : TypeId} {po3 : String} {af3 : Array Edge} {ty4 : TypeId} {po4 : String} {af4 : Array Edge} {ty5 : TypeId} {po5 : String} {af5 : Array Edge} {ty6 : TypeId} {po6 : String} {af6 : Array Edge} {ty7 : TypeId} {po7 : String} {af7 : Array Edge} {ty8 : TypeId} {po8 : String} {af8 : Array Edge} {ty9 : TypeId} {po9 : String} {af9 : Array Edge} {ty10 : TypeId} {po10 : String} {af10 : Array Edge} {ty11 : TypeId} {po11 : String} {af11 : Array Edge} {ty12 : TypeId} {po12 : String} {af12 : Array Edge} {ty13 : TypeId} {po13 : String} {af13 : Array Edge} {ty14 : TypeId} {po14 : String} {af14 : Array Edge} {ty15 : TypeId} {po15 : String} {af15 : Array Edge} {ty16 : TypeId} {po16 : String} {af16 : Array Edge} {ty17 : TypeId} {po17 : String} {af17 : Array Edge} {ty18 : TypeId} {po18 : String} {af18 : Array Edge} {ty19 : TypeId} {po19 : String} {af19 : Array Edge} {ty20 : TypeId} {po20 : String} {af20 : Array Edge} {ty21 : TypeId} {po21 : String} {af21 : Array Edge} {ty22 : TypeId} {po22 : String} {af22 : Array Edge} {ty23 : TypeId} {po23 : String} {af23 : Array Edge} {ty24 : TypeId} {po24 : String} {af24 : Array Edge} {ty25 : TypeId} {po25 : String} {af25 : Array Edge} {ty26 : TypeId} {po26 : String} {af26 : Array Edge} {ty27 : TypeId} {po27 : String} {af27 : Array Edge} {ty28 : TypeId} {po28 : String} {af28 : Array Edge} {ty29 : TypeId} {po29 : String} {af29 : Array Edge} {ty30 : TypeId} {po30 : String} {af30 : Array Edge} {ty31 : TypeId} {po31 : String} {af31 : Array Edge} {ty32 : TypeId} {po32 : String} {af32 : Array Edge} {ty33 : TypeId} {po33 : String} {af33 : Array Edge} {ty34 : TypeId} {po34 : String} {af34 : Array Edge} {ty35 : TypeId} {po35 : String} {af35 : Array Edge} {ty36 : TypeId} {po36 : String} {af36 : Array Edge} {ty37 : TypeId} {po37 : String} {af37 : Array Edge} {Q : Exit → Act → World → Prop} {A : World} {OPS0 : Array Oper} {v0 v2 v5 v6 v7 v8 v9 v10 v11 v12 v13 v14 v15 v16 v17 v18 v19 v20 v21 v22 v23 v24 v25 v26 v27 v28 v29 v30 v31 v32 v33 v34 v35 v74 v75 v76 v77 v78 v79 v80 v81 v82 v83 v84 v85 v86 v87 v88 v89 v90 v91 v92 v93 v94 v95 v96 v97 v98 v99 v100 v101 v102 v103 : Value} {u36 u37 u38 u39 u40 u41 u42 u43 u44 u45 u46 u47 u48 u49 u50 u51 u52 u53 u54 u55 u56 u57 u58 u59 u60 u61 u62 u63 u64 u65 u66 u67 u68 u69 u70 u71 u72 u73 : Value} (n0 : Nat) (n1 : Nat) (rid : Int) (ver : Int) (kind : Int) (lang : ByteArray) (ra : Option Addr) (n : Nat) (rc : Nat) (sc : Nat) (sb : Nat) (so : Nat) (TG : ByteArray) (L : List Fld) (kk : Nat)
    (hn0 : A.heap[n0]? = some (recO rid ver kind lang ra n rc)) (hn1 : A.heap[n1]? = some (recO rid ver kind lang (some ⟨sb, so, none⟩) n sc))
    (hkn : (kk : Int) < (n : Int)) (hp : ¬ (0 : Int) < (kk : Int)) (c0 : A.cell? ⟨sb, so + kk * 4, none⟩ = some (.string TG))
    (yF1 : Hid (∀ W, Below A.heap.size A W → Calls Tryz.prog 18 #[.agg #[.int .i64 rid, .int .i64 ver, .int .i64 kind, .string lang, .slice (some ⟨sb, so, none⟩) n sc], .string TG] W (RetF W L)))
    (yF2 : Hid (∀ W, Below A.heap.size A W → Calls Tryz.prog 18 #[.agg #[.int .i64 rid, .int .i64 ver, .int .i64 kind, .string lang, .slice ra n rc], .string TG] W (RetF W L)))
    (ySF : Hid (∀ W v v', Below A.heap.size A W → Flds W v L → Flds W v' L → Calls Tryz.prog 17 #[v, v'] W (fun e w' => e = .returned (.bool true) ∧ Below W.heap.size W w')))
    (hw : (forwardB .any OPS0 && [(1, 0), (2, 1), (3, 2), (4, 2), (5, 2), (6, 2), (7, 2), (8, 2), (9, 2), (10, 2), (11, 2), (12, 2), (13, 2), (14, 2), (15, 2), (16, 2), (17, 2), (18, 17), (19, 18), (20, 18), (21, 18), (21, 20), (22, 18), (23, 18), (23, 21), (23, 22), (24, 18), (24, 23), (25, 18), (25, 24), (26, 18), (26, 19), (26, 25), (27, 18), (28, 18), (29, 18), (29, 28), (30, 18), (31, 18), (31, 29), (31, 30), (32, 18), (32, 31), (33, 18), (33, 32), (34, 18), (34, 27), (34, 33), (35, 18), (35, 26), (35, 34), (36, 18), (36, 35), (37, 18), (37, 36)].all fun p => waits .any OPS0 p.1 p.2) = true) (hO : OPS0 = #[⟨some 36, .move (.tmp 4), ty0, po0, af0, none⟩, ⟨some 37, .binOp .gtr 3 (.tmp 36) (.const (.int .i64 0)) 3, ty1, po1, af1, none⟩, ⟨some 38, .move (.tmp 37), ty2, po2, af2, none⟩, ⟨some 39, .fieldAddr 24 (.tmp 3) 4, ty3, po3, af3, some (2, true)⟩, ⟨some 40, .load 22 (.tmp 39), ty4, po4, af4, some (2, true)⟩, ⟨some 41, .move (.tmp 4), ty5, po5, af5, some (2, true)⟩, ⟨some 42, .indexAddr 22 (.tmp 40) (.tmp 41), ty6, po6, af6, some (2, true)⟩, ⟨some 43, .fieldAddr 35 (.tmp 42) 0, ty7, po7, af7, some (2, true)⟩, ⟨some 44, .load 9 (.tmp 43), ty8, po8, af8, some (2, true)⟩, ⟨some 45, .fieldAddr 24 (.tmp 3) 4, ty9, po9, af9, some (2, true)⟩, ⟨some 46, .load 22 (.tmp 45), ty10, po10, af10, some (2, true)⟩, ⟨some 47, .move (.tmp 4), ty11, po11, af11, some (2, true)⟩, ⟨some 48, .binOp .sub 3 (.tmp 47) (.const (.int .i64 1)) 3, ty12, po12, af12, some (2, true)⟩, ⟨some 49, .indexAddr 22 (.tmp 46) (.tmp 48), ty13, po13, af13, some (2, true)⟩, ⟨some 50, .fieldAddr 35 (.tmp 49) 0, ty14, po14, af14, some (2, true)⟩, ⟨some 51, .load 9 (.tmp 50), ty15, po15, af15, some (2, true)⟩, ⟨some 52, .binOp .lss 9 (.tmp 44) (.tmp 51) 9, ty16, po16, af16, some (2, true)⟩, ⟨some 53, .pick (.tmp 38) (.tmp 52) (.const (.bool false)), ty17, po17, af17, none⟩, ⟨some 54, .move (.tmp 53), ty18, po18, af18, none⟩, ⟨some 55, .load 24 (.tmp 3), ty19, po19, af19, some (18, false)⟩, ⟨some 56, .fieldAddr 24 (.tmp 3) 4, ty20, po20, af20, some (18, false)⟩, ⟨some 57, .load 22 (.tmp 56), ty21, po21, af21, some (18, false)⟩, ⟨some 58, .move (.tmp 4), ty22, po22, af22, some (18, false)⟩, ⟨some 59, .indexAddr 22 (.tmp 57) (.tmp 58), ty23, po23, af23, some (18, false)⟩, ⟨some 60, .fieldAddr 35 (.tmp 59) 0, ty24, po24, af24, some (18, false)⟩, ⟨some 61, .load 9 (.tmp 60), ty25, po25, af25, some (18, false)⟩, ⟨some 62, .call { callee := .value (.func 18), args := #[.tmp 55, .tmp 61], argTypes := #[24, 9] }, ty26, po26, af26, some (18, false)⟩, ⟨some 63, .load 24 (.tmp 1), ty27, po27, af27, some (18, false)⟩, ⟨some 64, .fieldAddr 24 (.tmp 3) 4, ty28, po28, af28, some (18, false)⟩, ⟨some 65, .load 22 (.tmp 64), ty29, po29, af29, some (18, false)⟩, ⟨some 66, .move (.tmp 4), ty30, po30, af30, some (18, false)⟩, ⟨some 67, .indexAddr 22 (.tmp 65) (.tmp 66), ty31, po31, af31, some (18, false)⟩, ⟨some 68, .fieldAddr 35 (.tmp 67) 0, ty32, po32, af32, some (18, false)⟩, ⟨some 69, .load 9 (.tmp 68), ty33, po33, af33, some (18, false)⟩, ⟨some 70, .call { callee := .value (.func 18), args := #[.tmp 63, .tmp 69], argTypes := #[24, 9] }, ty34, po34, af34, some (18, false)⟩, ⟨some 71, .call { callee := .value (.func 17), args := #[.tmp 62, .tmp 70], argTypes := #[22, 22] }, ty35, po35, af35, some (18, false)⟩, ⟨some 72, .unOp .not 4 (.tmp 71), ty36, po36, af36, some (18, false)⟩, ⟨some 73, .pick (.tmp 54) (.const (.bool true)) (.tmp 72), ty37, po37, af37, none⟩])
    (hQ : ∀ (xs : Nat → Value) (W : World), Below A.heap.size A W → or_firstF n1 rid ver kind lang ra n rc sc sb so TG L kk 37 W (xs 73) → Q .normal ⟨#[v0, .pointer (some ⟨n0, 0, none⟩), v2, .pointer (some ⟨n1, 0, none⟩), .int .i64 (kk : Int), v5, v6, v7, v8, v9, v10, v11, v12, v13, v14, v15, v16, v17, v18, v19, v20, v21, v22, v23, v24, v25, v26, v27, v28, v29, v30, v31, v32, v33, v34, v35, xs 36, xs 37, xs 38, xs 39, xs 40, xs 41, xs 42, xs 43, xs 44, xs 45, xs 46, xs 47, xs 48, xs 49, xs 50, xs 51, xs 52, xs 53, xs 54, xs 55, xs 56, xs 57, xs 58, xs 59, xs 60, xs 61, xs 62, xs 63, xs 64, xs 65, xs 66, xs 67, xs 68, xs 69, xs 70, xs 71, xs 72, xs 73, v74, v75, v76, v77, v78, v79, v80, v81, v82, v83, v84, v85, v86, v87, v88, v89, v90, v91, v92, v93, v94, v95, v96, v97, v98, v99, v100, v101, v102, v103], []⟩ W)
    : Code.wp Tryz.prog (.region id0 #[⟨some 36, .move (.tmp 4), ty0, po0, af0, none⟩, ⟨some 37, .binOp .gtr 3 (.tmp 36) (.const (.int .i64 0)) 3, ty1, po1, af1, none⟩, ⟨some 38, .move (.tmp 37), ty2, po2, af2, none⟩, ⟨some 39, .fieldAddr 24 (.tmp 3) 4, ty3, po3, af3, some (2, true)⟩, ⟨some 40, .load 22 (.tmp 39), ty4, po4, af4, some (2, true)⟩, ⟨some 41, .move (.tmp 4), ty5, po5, af5, some (2, true)⟩, ⟨some 42, .indexAddr 22 (.tmp 40) (.tmp 41), ty6, po6, af6, some (2, true)⟩, ⟨some 43, .fieldAddr 35 (.tmp 42) 0, ty7, po7, af7, some (2, true)⟩, ⟨some 44, .load 9 (.tmp 43), ty8, po8, af8, some (2, true)⟩, ⟨some 45, .fieldAddr 24 (.tmp 3) 4, ty9, po9, af9, some (2, true)⟩, ⟨some 46, .load 22 (.tmp 45), ty10, po10, af10, some (2, true)⟩, ⟨some 47, .move (.tmp 4), ty11, po11, af11, some (2, true)⟩, ⟨some 48, .binOp .sub 3 (.tmp 47) (.const (.int .i64 1)) 3, ty12, po12, af12, some (2, true)⟩, ⟨some 49, .indexAddr 22 (.tmp 46) (.tmp 48), ty13, po13, af13, some (2, true)⟩, ⟨some 50, .fieldAddr 35 (.tmp 49) 0, ty14, po14, af14, some (2, true)⟩, ⟨some 51, .load 9 (.tmp 50), ty15, po15, af15, some (2, true)⟩, ⟨some 52, .binOp .lss 9 (.tmp 44) (.tmp 51) 9, ty16, po16, af16, some (2, true)⟩, ⟨some 53, .pick (.tmp 38) (.tmp 52) (.const (.bool false)), ty17, po17, af17, none⟩, ⟨some 54, .move (.tmp 53), ty18, po18, af18, none⟩, ⟨some 55, .load 24 (.tmp 3), ty19, po19, af19, some (18, false)⟩, ⟨some 56, .fieldAddr 24 (.tmp 3) 4, ty20, po20, af20, some (18, false)⟩, ⟨some 57, .load 22 (.tmp 56), ty21, po21, af21, some (18, false)⟩, ⟨some 58, .move (.tmp 4), ty22, po22, af22, some (18, false)⟩, ⟨some 59, .indexAddr 22 (.tmp 57) (.tmp 58), ty23, po23, af23, some (18, false)⟩, ⟨some 60, .fieldAddr 35 (.tmp 59) 0, ty24, po24, af24, some (18, false)⟩, ⟨some 61, .load 9 (.tmp 60), ty25, po25, af25, some (18, false)⟩, ⟨some 62, .call { callee := .value (.func 18), args := #[.tmp 55, .tmp 61], argTypes := #[24, 9] }, ty26, po26, af26, some (18, false)⟩, ⟨some 63, .load 24 (.tmp 1), ty27, po27, af27, some (18, false)⟩, ⟨some 64, .fieldAddr 24 (.tmp 3) 4, ty28, po28, af28, some (18, false)⟩, ⟨some 65, .load 22 (.tmp 64), ty29, po29, af29, some (18, false)⟩, ⟨some 66, .move (.tmp 4), ty30, po30, af30, some (18, false)⟩, ⟨some 67, .indexAddr 22 (.tmp 65) (.tmp 66), ty31, po31, af31, some (18, false)⟩, ⟨some 68, .fieldAddr 35 (.tmp 67) 0, ty32, po32, af32, some (18, false)⟩, ⟨some 69, .load 9 (.tmp 68), ty33, po33, af33, some (18, false)⟩, ⟨some 70, .call { callee := .value (.func 18), args := #[.tmp 63, .tmp 69], argTypes := #[24, 9] }, ty34, po34, af34, some (18, false)⟩, ⟨some 71, .call { callee := .value (.func 17), args := #[.tmp 62, .tmp 70], argTypes := #[22, 22] }, ty35, po35, af35, some (18, false)⟩, ⟨some 72, .unOp .not 4 (.tmp 71), ty36, po36, af36, some (18, false)⟩, ⟨some 73, .pick (.tmp 54) (.const (.bool true)) (.tmp 72), ty37, po37, af37, none⟩] true) Q ⟨#[v0, .pointer (some ⟨n0, 0, none⟩), v2, .pointer (some ⟨n1, 0, none⟩), .int .i64 (kk : Int), v5, v6, v7, v8, v9, v10, v11, v12, v13, v14, v15, v16, v17, v18, v19, v20, v21, v22, v23, v24, v25, v26, v27, v28, v29, v30, v31, v32, v33, v34, v35, u36, u37, u38, u39, u40, u41, u42, u43, u44, u45, u46, u47, u48, u49, u50, u51, u52, u53, u54, u55, u56, u57, u58, u59, u60, u61, u62, u63, u64, u65, u66, u67, u68, u69, u70, u71, u72, u73, v74, v75, v76, v77, v78, v79, v80, v81, v82, v83, v84, v85, v86, v87, v88, v89, v90, v91, v92, v93, v94, v95, v96, v97, v98, v99, v100, v101, v102, v103], []⟩ A := by
  rw [Bool.and_eq_true] at hw
  obtain ⟨hfw, hw⟩ := hw
  have hW := List.all_eq_true.1 hw
  clear hw
  rw [hO] at hfw hW
  clear hO OPS0
  have HFW := Lib.hid hfw
  have HWA := Lib.hid hW
  clear hfw hW
  refine wp_region_inv (by kernel_rfl) (fun listed x W => ∃ xs : Nat → Value, x = ⟨#[v0, .pointer (some ⟨n0, 0, none⟩), v2, .pointer (some ⟨n1, 0, none⟩), .int .i64 (kk : Int), v5, v6, v7, v8, v9, v10, v11, v12, v13, v14, v15, v16, v17, v18, v19, v20, v21, v22, v23, v24, v25, v26, v27, v28, v29, v30, v31, v32, v33, v34, v35, xs 36, xs 37, xs 38, xs 39, xs 40, xs 41, xs 42, xs 43, xs 44, xs 45, xs 46, xs 47, xs 48, xs 49, xs 50, xs 51, xs 52, xs 53, xs 54, xs 55, xs 56, xs 57, xs 58, xs 59, xs 60, xs 61, xs 62, xs 63, xs 64, xs 65, xs 66, xs 67, xs 68, xs 69, xs 70, xs 71, xs 72, xs 73, v74, v75, v76, v77, v78, v79, v80, v81, v82, v83, v84, v85, v86, v87, v88, v89, v90, v91, v92, v93, v94, v95, v96, v97, v98, v99, v100, v101, v102, v103], []⟩ ∧ Below A.heap.size A W ∧ ∀ j, j < 38 → listed.getD j true = true → or_firstF n1 rid ver kind lang ra n rc sc sb so TG L kk j W (xs (or_firstS j))) ?start ?step ?done
  case start =>
    exact ⟨fun k => if k = 36 then u36 else if k = 37 then u37 else if k = 38 then u38 else if k = 39 then u39 else if k = 40 then u40 else if k = 41 then u41 else if k = 42 then u42 else if k = 43 then u43 else if k = 44 then u44 else if k = 45 then u45 else if k = 46 then u46 else if k = 47 then u47 else if k = 48 then u48 else if k = 49 then u49 else if k = 50 then u50 else if k = 51 then u51 else if k = 52 then u52 else if k = 53 then u53 else if k = 54 then u54 else if k = 55 then u55 else if k = 56 then u56 else if k = 57 then u57 else if k = 58 then u58 else if k = 59 then u59 else if k = 60 then u60 else if k = 61 then u61 else if k = 62 then u62 else if k = 63 then u63 else if k = 64 then u64 else if k = 65 then u65 else if k = 66 then u66 else if k = 67 then u67 else if k = 68 then u68 else if k = 69 then u69 else if k = 70 then u70 else if k = 71 then u71 else if k = 72 then u72 else if k = 73 then u73 else undef, rfl, (Below.refl _ _).drew, fun j hj h => by simp [Array.getD, hj] at h⟩
  case done =>
    rintro listed x W hs ⟨xs, rfl, bel, hF⟩ h0
    exact hQ xs W bel (hF 37 (by decide) (all_listedB HFW.out hs h0 37))
  case step =>
    rintro listed x W i hs ⟨xs, rfl, bel, hF⟩ hi
    have hin : i < 38 := by
      obtain ⟨-, o, ho, -⟩ := mem_ready.1 hi
      exact (Array.getElem?_eq_some_iff.1 ho).1
    have hpW := (bel.block n0 (Array.getElem?_eq_some_iff.1 hn0).1).trans hn0
    have hnW := (bel.block n1 (Array.getElem?_eq_some_iff.1 hn1).1).trans hn1
    have g0 := Lib.cell_of_heap hpW 0
    have g1 := Lib.cell_of_heap hpW 1
    have g2 := Lib.cell_of_heap hpW 2
    have g3 := Lib.cell_of_heap hpW 3
    have g4 := Lib.cell_of_heap hpW 4
    have h0 := Lib.cell_of_heap hnW 0
    have h1 := Lib.cell_of_heap hnW 1
    have h2 := Lib.cell_of_heap hnW 2
    have h3 := Lib.cell_of_heap hnW 3
    have h4 := Lib.cell_of_heap hnW 4
    have k0 := (bel.cell (p := ⟨sb, so + kk * 4, none⟩) (lt_cell c0)).trans c0
    have HF1 := yF1
    have HF2 := yF2
    have HSF := ySF
    have FF := Lib.hid hF
    have BEL := Lib.hid bel
    clear hF hQ HFW bel hs hn0 hn1 hpW hnW c0 yF1 yF2 ySF
    have hcases : i = 0 ∨ i = 1 ∨ i = 2 ∨ i = 3 ∨ i = 4 ∨ i = 5 ∨ i = 6 ∨ i = 7 ∨ i = 8 ∨ i = 9 ∨ i = 10 ∨ i = 11 ∨ i = 12 ∨ i = 13 ∨ i = 14 ∨ i = 15 ∨ i = 16 ∨ i = 17 ∨ i = 18 ∨ i = 19 ∨ i = 20 ∨ i = 21 ∨ i = 22 ∨ i = 23 ∨ i = 24 ∨ i = 25 ∨ i = 26 ∨ i = 27 ∨ i = 28 ∨ i = 29 ∨ i = 30 ∨ i = 31 ∨ i = 32 ∨ i = 33 ∨ i = 34 ∨ i = 35 ∨ i = 36 ∨ i = 37 := by omega
    clear hin
    rcases hcases with rfl | rfl | rfl | rfl | rfl | rfl | rfl | rfl | rfl | rfl | rfl | rfl | rfl | rfl | rfl | rfl | rfl | rfl | rfl | rfl | rfl | rfl | rfl | rfl | rfl | rfl | rfl | rfl | rfl | rfl | rfl | rfl | rfl | rfl | rfl | rfl | rfl | rfl
    · clear hi  HWA
      refine wpOp_step rfl (fun K hK => ?_)
      go_simp
      exact hK _ _ ⟨fun k => if k = 36 then .int .i64 (kk : Int) else xs k, by simp, BEL.out, facts_set (by decide) rfl (or_first_mono n1 rid ver kind lang ra n rc sc sb so TG L kk) FF.out (Below.refl _ _) (rfl)⟩
    · have l0 := waited hi (HWA.out (1, 0) (by decide))
      have e36 : (xs 36) = .int .i64 (kk : Int) := FF.out 0 (by decide) l0
      clear hi l0 HWA
      refine wpOp_step rfl (fun K hK => ?_)
      simp only [e36]
      go_simp
      exact hK _ _ ⟨fun k => if k = 37 then .bool false else xs k, by simp [e36]; omega, BEL.out, facts_set (by decide) rfl (or_first_mono n1 rid ver kind lang ra n rc sc sb so TG L kk) FF.out (Below.refl _ _) (rfl)⟩
    · have l1 := waited hi (HWA.out (2, 1) (by decide))
      have e37 : (xs 37) = .bool false := FF.out 1 (by decide) l1
      clear hi l1 HWA
      refine wpOp_step rfl (fun K hK => ?_)
      simp only [e37]
      go_simp
      exact hK _ _ ⟨fun k => if k = 38 then .bool false else xs k, by simp [e37], BEL.out, facts_set (by decide) rfl (or_first_mono n1 rid ver kind lang ra n rc sc sb so TG L kk) FF.out (Below.refl _ _) (rfl)⟩
    · have l2 := waited hi (HWA.out (3, 2) (by decide))
      have e38 : (xs 38) = .bool false := FF.out 2 (by decide) l2
      clear hi l2 HWA
      refine wpOp_step rfl (fun K hK => ?_)
      simp only [e38]
      go_simp
      exact hK _ _ ⟨fun k => if k = 39 then undef else xs k, by simp [e38], BEL.out, facts_set (by decide) rfl (or_first_mono n1 rid ver kind lang ra n rc sc sb so TG L kk) FF.out (Below.refl _ _) (rfl)⟩
    · have l2 := waited hi (HWA.out (4, 2) (by decide))
      have e38 : (xs 38) = .bool false := FF.out 2 (by decide) l2
      clear hi l2 HWA
      refine wpOp_step rfl (fun K hK => ?_)
      simp only [e38]
      go_simp
      exact hK _ _ ⟨fun k => if k = 40 then undef else xs k, by simp [e38], BEL.out, facts_set (by decide) rfl (or_first_mono n1 rid ver kind lang ra n rc sc sb so TG L kk) FF.out (Below.refl _ _) (rfl)⟩
    · have l2 := waited hi (HWA.out (5, 2) (by decide))
      have e38 : (xs 38) = .bool false := FF.out 2 (by decide) l2
      clear hi l2 HWA
      refine wpOp_step rfl (fun K hK => ?_)
      simp only [e38]
      go_simp
      exact hK _ _ ⟨fun k => if k = 41 then undef else xs k, by simp [e38], BEL.out, facts_set (by decide) rfl (or_first_mono n1 rid ver kind lang ra n rc sc sb so TG L kk) FF.out (Below.refl _ _) (rfl)⟩
    · have l2 := waited hi (HWA.out (6, 2) (by decide))
      have e38 : (xs 38) = .bool false := FF.out 2 (by decide) l2
      clear hi l2 HWA
      refine wpOp_step rfl (fun K hK => ?_)
      simp only [e38]
      go_simp
      exact hK _ _ ⟨fun k => if k = 42 then undef else xs k, by simp [e38], BEL.out, facts_set (by decide) rfl (or_first_mono n1 rid ver kind lang ra n rc sc sb so TG L kk) FF.out (Below.refl _ _) (rfl)⟩
    · have l2 := waited hi (HWA.out (7, 2) (by decide))
      have e38 : (xs 38) = .bool false := FF.out 2 (by decide) l2
      clear hi l2 HWA
      refine wpOp_step rfl (fun K hK => ?_)
      simp only [e38]
      go_simp
      exact hK _ _ ⟨fun k => if k = 43 then undef else xs k, by simp [e38], BEL.out, facts_set (by decide) rfl (or_first_mono n1 rid ver kind lang ra n rc sc sb so TG L kk) FF.out (Below.refl _ _) (rfl)⟩
    · have l2 := waited hi (HWA.out (8, 2) (by decide))
      have e38 : (xs 38) = .bool false := FF.out 2 (by decide) l2
      clear hi l2 HWA
      refine wpOp_step rfl (fun K hK => ?_)
      simp only [e38]
      go_simp
      exact hK _ _ ⟨fun k => if k = 44 then undef else xs k, by simp [e38], BEL.out, facts_set (by decide) rfl (or_first_mono n1 rid ver kind lang ra n rc sc sb so TG L kk) FF.out (Below.refl _ _) (rfl)⟩
    · have l2 := waited hi (HWA.out (9, 2) (by decide))
      have e38 : (xs 38) = .bool false := FF.out 2 (by decide) l2
      clear hi l2 HWA
      refine wpOp_step rfl (fun K hK => ?_)
      simp only [e38]
      go_simp
      exact hK _ _ ⟨fun k => if k = 45 then undef else xs k, by simp [e38], BEL.out, facts_set (by decide) rfl (or_first_mono n1 rid ver kind lang ra n rc sc sb so TG L kk) FF.out (Below.refl _ _) (rfl)⟩
    · have l2 := waited hi (HWA.out (10, 2) (by decide))
      have e38 : (xs 38) = .bool false := FF.out 2 (by decide) l2
      clear hi l2 HWA
      refine wpOp_step rfl (fun K hK => ?_)
      simp only [e38]
      go_simp
      exact hK _ _ ⟨fun k => if k = 46 then undef else xs k, by simp [e38], BEL.out, facts_set (by decide) rfl (or_first_mono n1 rid ver kind lang ra n rc sc sb so TG L kk) FF.out (Below.refl _ _) (rfl)⟩
    · have l2 := waited hi (HWA.out (11, 2) (by decide))
      have e38 : (xs 38) = .bool false := FF.out 2 (by decide) l2
      clear hi l2 HWA
      refine wpOp_step rfl (fun K hK => ?_)
      simp only [e38]
      go_simp
      exact hK _ _ ⟨fun k => if k = 47 then undef else xs k, by simp [e38], BEL.out, facts_set (by decide) rfl (or_first_mono n1 rid ver kind lang ra n rc sc sb so TG L kk) FF.out (Below.refl _ _) (rfl)⟩
    · have l2 := waited hi (HWA.out (12, 2) (by decide))
      have e38 : (xs 38) = .bool false := FF.out 2 (by decide) l2
      clear hi l2 HWA
      refine wpOp_step rfl (fun K hK => ?_)
      simp only [e38]
      go_simp
      exact hK _ _ ⟨fun k => if k = 48 then undef else xs k, by simp [e38], BEL.out, facts_set (by decide) rfl (or_first_mono n1 rid ver kind lang ra n rc sc sb so TG L kk) FF.out (Below.refl _ _) (rfl)⟩
    · have l2 := waited hi (HWA.out (13, 2) (by decide))
      have e38 : (xs 38) = .bool false := FF.out 2 (by decide) l2
      clear hi l2 HWA
      refine wpOp_step rfl (fun K hK => ?_)
      simp only [e38]
      go_simp
      exact hK _ _ ⟨fun k => if k = 49 then undef else xs k, by simp [e38], BEL.out, facts_set (by decide) rfl (or_first_mono n1 rid ver kind lang ra n rc sc sb so TG L kk) FF.out (Below.refl _ _) (rfl)⟩
    · have l2 := waited hi (HWA.out (14, 2) (by decide))
      have e38 : (xs 38) = .bool false := FF.out 2 (by decide) l2
      clear hi l2 HWA
      refine wpOp_step rfl (fun K hK => ?_)
      simp only [e38]
      go_simp
      exact hK _ _ ⟨fun k => if k = 50 then undef else xs k, by simp [e38], BEL.out, facts_set (by decide) rfl (or_first_mono n1 rid ver kind lang ra n rc sc sb so TG L kk) FF.out (Below.refl _ _) (rfl)⟩
    · have l2 := waited hi (HWA.out (15, 2) (by decide))
      have e38 : (xs 38) = .bool false := FF.out 2 (by decide) l2
      clear hi l2 HWA
      refine wpOp_step rfl (fun K hK => ?_)
      simp only [e38]
      go_simp
      exact hK _ _ ⟨fun k => if k = 51 then undef else xs k, by simp [e38], BEL.out, facts_set (by decide) rfl (or_first_mono n1 rid ver kind lang ra n rc sc sb so TG L kk) FF.out (Below.refl _ _) (rfl)⟩
    · have l2 := waited hi (HWA.out (16, 2) (by decide))
      have e38 : (xs 38) = .bool false := FF.out 2 (by decide) l2
      clear hi l2 HWA
      refine wpOp_step rfl (fun K hK => ?_)
      simp only [e38]
      go_simp
      exact hK _ _ ⟨fun k => if k = 52 then undef else xs k, by simp [e38], BEL.out, facts_set (by decide) rfl (or_first_mono n1 rid ver kind lang ra n rc sc sb so TG L kk) FF.out (Below.refl _ _) (rfl)⟩
    · have l2 := waited hi (HWA.out (17, 2) (by decide))
      have e38 : (xs 38) = .bool false := FF.out 2 (by decide) l2
      clear hi l2 HWA
      refine wpOp_step rfl (fun K hK => ?_)
      simp only [e38]
      go_simp
      exact hK _ _ ⟨fun k => if k = 53 then .bool false else xs k, by simp [e38], BEL.out, facts_set (by decide) rfl (or_first_mono n1 rid ver kind lang ra n rc sc sb so TG L kk) FF.out (Below.refl _ _) (rfl)⟩
    · have l17 := waited hi (HWA.out (18, 17) (by decide))
      have e53 : (xs 53) = .bool false := FF.out 17 (by decide) l17
      clear hi l17 HWA
      refine wpOp_step rfl (fun K hK => ?_)
      simp only [e53]
      go_simp
      exact hK _ _ ⟨fun k => if k = 54 then .bool false else xs k, by simp [e53], BEL.out, facts_set (by decide) rfl (or_first_mono n1 rid ver kind lang ra n rc sc sb so TG L kk) FF.out (Below.refl _ _) (rfl)⟩
    · have l18 := waited hi (HWA.out (19, 18) (by decide))
      have e54 : (xs 54) = .bool false := FF.out 18 (by decide) l18
      clear hi l18 HWA
      refine wpOp_step rfl (fun K hK => ?_)
      simp only [e54]
      go_simp
      exact hK _ _ ⟨fun k => if k = 55 then .agg #[.int .i64 rid, .int .i64 ver, .int .i64 kind, .string lang, .slice (some ⟨sb, so, none⟩) n sc] else xs k, by simp [e54], BEL.out, facts_set (by decide) rfl (or_first_mono n1 rid ver kind lang ra n rc sc sb so TG L kk) FF.out (Below.refl _ _) (rfl)⟩
    · have l18 := waited hi (HWA.out (20, 18) (by decide))
      have e54 : (xs 54) = .bool false := FF.out 18 (by decide) l18
      clear hi l18 HWA
      refine wpOp_step rfl (fun K hK => ?_)
      simp only [e54]
      go_simp
      exact hK _ _ ⟨fun k => if k = 56 then .pointer (some ⟨n1, 4, none⟩) else xs k, by simp [e54], BEL.out, facts_set (by decide) rfl (or_first_mono n1 rid ver kind lang ra n rc sc sb so TG L kk) FF.out (Below.refl _ _) (rfl)⟩
    · have l18 := waited hi (HWA.out (21, 18) (by decide))
      have e54 : (xs 54) = .bool false := FF.out 18 (by decide) l18
      have l20 := waited hi (HWA.out (21, 20) (by decide))
      have e56 : (xs 56) = .pointer (some ⟨n1, 4, none⟩) := FF.out 20 (by decide) l20
      clear hi l18 l20 HWA
      refine wpOp_step rfl (fun K hK => ?_)
      simp only [e54, e56]
      go_simp
      exact hK _ _ ⟨fun k => if k = 57 then .slice (some ⟨sb, so, none⟩) n sc else xs k, by simp [e54, e56], BEL.out, facts_set (by decide) rfl (or_first_mono n1 rid ver kind lang ra n rc sc sb so TG L kk) FF.out (Below.refl _ _) (rfl)⟩
    · have l18 := waited hi (HWA.out (22, 18) (by decide))
      have e54 : (xs 54) = .bool false := FF.out 18 (by decide) l18
      clear hi l18 HWA
      refine wpOp_step rfl (fun K hK => ?_)
      simp only [e54]
      go_simp
      exact hK _ _ ⟨fun k => if k = 58 then .int .i64 (kk : Int) else xs k, by simp [e54], BEL.out, facts_set (by decide) rfl (or_first_mono n1 rid ver kind lang ra n rc sc sb so TG L kk) FF.out (Below.refl _ _) (rfl)⟩
    · have l18 := waited hi (HWA.out (23, 18) (by decide))
      have e54 : (xs 54) = .bool false := FF.out 18 (by decide) l18
      have l21 := waited hi (HWA.out (23, 21) (by decide))
      have e57 : (xs 57) = .slice (some ⟨sb, so, none⟩) n sc := FF.out 21 (by decide) l21
      have l22 := waited hi (HWA.out (23, 22) (by decide))
      have e58 : (xs 58) = .int .i64 (kk : Int) := FF.out 22 (by decide) l22
      clear hi l18 l21 l22 HWA
      refine wpOp_step rfl (fun K hK => ?_)
      simp only [e54, e57, e58]
      go_simp
      exact hK _ _ ⟨fun k => if k = 59 then .pointer (some ⟨sb, so + kk * 4, none⟩) else xs k, by simp [e54, e57, e58], BEL.out, facts_set (by decide) rfl (or_first_mono n1 rid ver kind lang ra n rc sc sb so TG L kk) FF.out (Below.refl _ _) (show or_firstF n1 rid ver kind lang ra n rc sc sb so TG L kk 23 W (.pointer (some ⟨sb, so + kk * 4, none⟩)) from rfl)⟩
    · have l18 := waited hi (HWA.out (24, 18) (by decide))
      have e54 : (xs 54) = .bool false := FF.out 18 (by decide) l18
      have l23 := waited hi (HWA.out (24, 23) (by decide))
      have e59 : (xs 59) = .pointer (some ⟨sb, so + kk * 4, none⟩) := FF.out 23 (by decide) l23
      clear hi l18 l23 HWA
      refine wpOp_step rfl (fun K hK => ?_)
      simp only [e54, e59]
      go_simp
      exact hK _ _ ⟨fun k => if k = 60 then .pointer (some ⟨sb, so + kk * 4, none⟩) else xs k, by simp [e54, e59], BEL.out, facts_set (by decide) rfl (or_first_mono n1 rid ver kind lang ra n rc sc sb so TG L kk) FF.out (Below.refl _ _) (show or_firstF n1 rid ver kind lang ra n rc sc sb so TG L kk 24 W (.pointer (some ⟨sb, so + kk * 4, none⟩)) from rfl)⟩
    · have l18 := waited hi (HWA.out (25, 18) (by decide))
      have e54 : (xs 54) = .bool false := FF.out 18 (by decide) l18
      have l24 := waited hi (HWA.out (25, 24) (by decide))
      have e60 : (xs 60) = .pointer (some ⟨sb, so + kk * 4, none⟩) := FF.out 24 (by decide) l24
      clear hi l18 l24 HWA
      refine wpOp_step rfl (fun K hK => ?_)
      simp only [e54, e60]
      go_simp
      exact hK _ _ ⟨fun k => if k = 61 then .string TG else xs k, by simp [e54, e60], BEL.out, facts_set (by decide) rfl (or_first_mono n1 rid ver kind lang ra n rc sc sb so TG L kk) FF.out (Below.refl _ _) (rfl)⟩
    · have l18 := waited hi (HWA.out (26, 18) (by decide))
      have e54 : (xs 54) = .bool false := FF.out 18 (by decide) l18
      have l19 := waited hi (HWA.out (26, 19) (by decide))
      have e55 : (xs 55) = .agg #[.int .i64 rid, .int .i64 ver, .int .i64 kind, .string lang, .slice (some ⟨sb, so, none⟩) n sc] := FF.out 19 (by decide) l19
      have l25 := waited hi (HWA.out (26, 25) (by decide))
      have e61 : (xs 61) = .string TG := FF.out 25 (by decide) l25
      clear hi l18 l19 l25 HWA
      refine wpOp_step rfl (fun K hK => ?_)
      simp only [e54, e55, e61]
      go_simp
      refine (HF1.out W BEL.out).mono ?_
      rintro e w'' ⟨v, rfl, hs, bb⟩
      exact hK _ _ ⟨fun k => if k = 62 then v else xs k, by simp [e54, e55, e61], (BEL.out.bt bb), facts_set (by decide) rfl (or_first_mono n1 rid ver kind lang ra n rc sc sb so TG L kk) FF.out (bb) (hs)⟩
    · have l18 := waited hi (HWA.out (27, 18) (by decide))
      have e54 : (xs 54) = .bool false := FF.out 18 (by decide) l18
      clear hi l18 HWA
      refine wpOp_step rfl (fun K hK => ?_)
      simp only [e54]
      go_simp
      exact hK _ _ ⟨fun k => if k = 63 then .agg #[.int .i64 rid, .int .i64 ver, .int .i64 kind, .string lang, .slice ra n rc] else xs k, by simp [e54], BEL.out, facts_set (by decide) rfl (or_first_mono n1 rid ver kind lang ra n rc sc sb so TG L kk) FF.out (Below.refl _ _) (rfl)⟩
    · have l18 := waited hi (HWA.out (28, 18) (by decide))
      have e54 : (xs 54) = .bool false := FF.out 18 (by decide) l18
      clear hi l18 HWA
      refine wpOp_step rfl (fun K hK => ?_)
      simp only [e54]
      go_simp
      exact hK _ _ ⟨fun k => if k = 64 then .pointer (some ⟨n1, 4, none⟩) else xs k, by simp [e54], BEL.out, facts_set (by decide) rfl (or_first_mono n1 rid ver kind lang ra n rc sc sb so TG L kk) FF.out (Below.refl _ _) (rfl)⟩
    · have l18 := waited hi (HWA.out (29, 18) (by decide))
      have e54 : (xs 54) = .bool false := FF.out 18 (by decide) l18
      have l28 := waited hi (HWA.out (29, 28) (by decide))
      have e64 : (xs 64) = .pointer (some ⟨n1, 4, none⟩) := FF.out 28 (by decide) l28
      clear hi l18 l28 HWA
      refine wpOp_step rfl (fun K hK => ?_)
      simp only [e54, e64]
      go_simp
      exact hK _ _ ⟨fun k => if k = 65 then .slice (some ⟨sb, so, none⟩) n sc else xs k, by simp [e54, e64], BEL.out, facts_set (by decide) rfl (or_first_mono n1 rid ver kind lang ra n rc sc sb so TG L kk) FF.out (Below.refl _ _) (rfl)⟩
    · have l18 := waited hi (HWA.out (30, 18) (by decide))
      have e54 : (xs 54) = .bool false := FF.out 18 (by decide) l18
      clear hi l18 HWA
      refine wpOp_step rfl (fun K hK => ?_)
      simp only [e54]
      go_simp
      exact hK _ _ ⟨fun k => if k = 66 then .int .i64 (kk : Int) else xs k, by simp [e54], BEL.out, facts_set (by decide) rfl (or_first_mono n1 rid ver kind lang ra n rc sc sb so TG L kk) FF.out (Below.refl _ _) (rfl)⟩
    · have l18 := waited hi (HWA.out (31, 18) (by decide))
      have e54 : (xs 54) = .bool false := FF.out 18 (by decide) l18
      have l29 := waited hi (HWA.out (31, 29) (by decide))
      have e65 : (xs 65) = .slice (some ⟨sb, so, none⟩) n sc := FF.out 29 (by decide) l29
      have l30 := waited hi (HWA.out (31, 30) (by decide))
      have e66 : (xs 66) = .int .i64 (kk : Int) := FF.out 30 (by decide) l30
      clear hi l18 l29 l30 HWA
      refine wpOp_step rfl (fun K hK => ?_)
      simp only [e54, e65, e66]
      go_simp
      exact hK _ _ ⟨fun k => if k = 67 then .pointer (some ⟨sb, so + kk * 4, none⟩) else xs k, by simp [e54, e65, e66], BEL.out, facts_set (by decide) rfl (or_first_mono n1 rid ver kind lang ra n rc sc sb so TG L kk) FF.out (Below.refl _ _) (show or_firstF n1 rid ver kind lang ra n rc sc sb so TG L kk 31 W (.pointer (some ⟨sb, so + kk * 4, none⟩)) from rfl)⟩
    · have l18 := waited hi (HWA.out (32, 18) (by decide))
      have e54 : (xs 54) = .bool false := FF.out 18 (by decide) l18
      have l31 := waited hi (HWA.out (32, 31) (by decide))
      have e67 : (xs 67) = .pointer (some ⟨sb, so + kk * 4, none⟩) := FF.out 31 (by decide) l31
      clear hi l18 l31 HWA
      refine wpOp_step rfl (fun K hK => ?_)
      simp only [e54, e67]
      go_simp
      exact hK _ _ ⟨fun k => if k = 68 then .pointer (some ⟨sb, so + kk * 4, none⟩) else xs k, by simp [e54, e67], BEL.out, facts_set (by decide) rfl (or_first_mono n1 rid ver kind lang ra n rc sc sb so TG L kk) FF.out (Below.refl _ _) (show or_firstF n1 rid ver kind lang ra n rc sc sb so TG L kk 32 W (.pointer (some ⟨sb, so + kk * 4, none⟩)) from rfl)⟩
    · have l18 := waited hi (HWA.out (33, 18) (by decide))
      have e54 : (xs 54) = .bool false := FF.out 18 (by decide) l18
      have l32 := waited hi (HWA.out (33, 32) (by decide))
      have e68 : (xs 68) = .pointer (some ⟨sb, so + kk * 4, none⟩) := FF.out 32 (by decide) l32
      clear hi l18 l32 HWA
      refine wpOp_step rfl (fun K hK => ?_)
      simp only [e54, e68]
      go_simp
      exact hK _ _ ⟨fun k => if k = 69 then .string TG else xs k, by simp [e54, e68], BEL.out, facts_set (by decide) rfl (or_first_mono n1 rid ver kind lang ra n rc sc sb so TG L kk) FF.out (Below.refl _ _) (rfl)⟩
    · have l18 := waited hi (HWA.out (34, 18) (by decide))
      have e54 : (xs 54) = .bool false := FF.out 18 (by decide) l18
      have l27 := waited hi (HWA.out (34, 27) (by decide))
      have e63 : (xs 63) = .agg #[.int .i64 rid, .int .i64 ver, .int .i64 kind, .string lang, .slice ra n rc] := FF.out 27 (by decide) l27
      have l33 := waited hi (HWA.out (34, 33) (by decide))
      have e69 : (xs 69) = .string TG := FF.out 33 (by decide) l33
      clear hi l18 l27 l33 HWA
      refine wpOp_step rfl (fun K hK => ?_)
      simp only [e54, e63, e69]
      go_simp
      refine (HF2.out W BEL.out).mono ?_
      rintro e w'' ⟨v, rfl, hs, bb⟩
      exact hK _ _ ⟨fun k => if k = 70 then v else xs k, by simp [e54, e63, e69], (BEL.out.bt bb), facts_set (by decide) rfl (or_first_mono n1 rid ver kind lang ra n rc sc sb so TG L kk) FF.out (bb) (hs)⟩
    · have l18 := waited hi (HWA.out (35, 18) (by decide))
      have e54 : (xs 54) = .bool false := FF.out 18 (by decide) l18
      have l26 := waited hi (HWA.out (35, 26) (by decide))
      have e62 : Flds W (xs 62) L := FF.out 26 (by decide) l26
      have l34 := waited hi (HWA.out (35, 34) (by decide))
      have e70 : Flds W (xs 70) L := FF.out 34 (by decide) l34
      have HV1 := Lib.hid e62
      have HV2 := Lib.hid e70
      clear e62 e70
      clear hi l18 l26 l34 HWA
      refine wpOp_step rfl (fun K hK => ?_)
      simp only [e54]
      go_simp
      refine (HSF.out W _ _ BEL.out HV1.out HV2.out).mono ?_
      rintro e w'' ⟨rfl, bb⟩
      exact hK _ _ ⟨fun k => if k = 71 then .bool true else xs k, by simp [e54], (BEL.out.bt bb), facts_set (by decide) rfl (or_first_mono n1 rid ver kind lang ra n rc sc sb so TG L kk) FF.out (bb) (rfl)⟩
    · have l18 := waited hi (HWA.out (36, 18) (by decide))
      have e54 : (xs 54) = .bool false := FF.out 18 (by decide) l18
      have l35 := waited hi (HWA.out (36, 35) (by decide))
      have e71 : (xs 71) = .bool true := FF.out 35 (by decide) l35
      clear hi l18 l35 HWA
      refine wpOp_step rfl (fun K hK => ?_)
      simp only [e54, e71]
      go_simp
      exact hK _ _ ⟨fun k => if k = 72 then .bool false else xs k, by simp [e54, e71], BEL.out, facts_set (by decide) rfl (or_first_mono n1 rid ver kind lang ra n rc sc sb so TG L kk) FF.out (Below.refl _ _) (rfl)⟩
    · have l18 := waited hi (HWA.out (37, 18) (by decide))
      have e54 : (xs 54) = .bool false := FF.out 18 (by decide) l18
      have l36 := waited hi (HWA.out (37, 36) (by decide))
      have e72 : (xs 72) = .bool false := FF.out 36 (by decide) l36
      clear hi l18 l36 HWA
      refine wpOp_step rfl (fun K hK => ?_)
      simp only [e54, e72]
      go_simp
      exact hK _ _ ⟨fun k => if k = 73 then .bool false else xs k, by simp [e54, e72], BEL.out, facts_set (by decide) rfl (or_first_mono n1 rid ver kind lang ra n rc sc sb so TG L kk) FF.out (Below.refl _ _) (rfl)⟩
def or_nextS (j : Nat) : Nat := #[36, 37, 38, 39, 40, 41, 42, 43, 44, 45, 46, 47, 48, 49, 50, 51, 52, 53, 54, 55, 56, 57, 58, 59, 60, 61, 62, 63, 64, 65, 66, 67, 68, 69, 70, 71, 72, 73].getD j 0
/-- What each operation yields. -/
def or_nextF (n1 : Nat) (rid : Int) (ver : Int) (kind : Int) (lang : ByteArray) (ra : Option Addr) (n : Nat) (rc : Nat) (sc : Nat) (sb : Nat) (so : Nat) (TG : ByteArray) (L : List Fld) (kk : Nat) (jj : Nat) (TP : ByteArray) (j : Nat) (W : World) (v : Value) : Prop := match j with
  | 0 => v = .int .i64 (kk : Int)
  | 1 => v = .bool true
  | 2 => v = .bool true
  | 3 => v = .pointer (some ⟨n1, 4, none⟩)
  | 4 => v = .slice (some ⟨sb, so, none⟩) n sc
  | 5 => v = .int .i64 (kk : Int)
  | 6 => v = .pointer (some ⟨sb, so + kk * 4, none⟩)
  | 7 => v = .pointer (some ⟨sb, so + kk * 4, none⟩)
  | 8 => v = .string TG
  | 9 => v = .pointer (some ⟨n1, 4, none⟩)
  | 10 => v = .slice (some ⟨sb, so, none⟩) n sc
  | 11 => v = .int .i64 (kk : Int)
  | 12 => v = .int .i64 (jj : Int)
  | 13 => v = .pointer (some ⟨sb, so + jj * 4, none⟩)
  | 14 => v = .pointer (some ⟨sb, so + jj * 4, none⟩)
  | 15 => v = .string TP
  | 16 => v = .bool false
  | 17 => v = .bool false
  | 18 => v = .bool false
  | 19 => v = .agg #[.int .i64 rid, .int .i64 ver, .int .i64 kind, .string lang, .slice (some ⟨sb, so, none⟩) n sc]
  | 20 => v = .pointer (some ⟨n1, 4, none⟩)
  | 21 => v = .slice (some ⟨sb, so, none⟩) n sc
  | 22 => v = .int .i64 (kk : Int)
  | 23 => v = .pointer (some ⟨sb, so + kk * 4, none⟩)
  | 24 => v = .pointer (some ⟨sb, so + kk * 4, none⟩)
  | 25 => v = .string TG
  | 26 => Flds W v L
  | 27 => v = .agg #[.int .i64 rid, .int .i64 ver, .int .i64 kind, .string lang, .slice ra n rc]
  | 28 => v = .pointer (some ⟨n1, 4, none⟩)
  | 29 => v = .slice (some ⟨sb, so, none⟩) n sc
  | 30 => v = .int .i64 (kk : Int)
  | 31 => v = .pointer (some ⟨sb, so + kk * 4, none⟩)
  | 32 => v = .pointer (some ⟨sb, so + kk * 4, none⟩)
  | 33 => v = .string TG
  | 34 => Flds W v L
  | 35 => v = .bool true
  | 36 => v = .bool false
  | 37 => v = .bool false
  | _ => True
theorem or_next_mono (n1 : Nat) (rid : Int) (ver : Int) (kind : Int) (lang : ByteArray) (ra : Option Addr) (n : Nat) (rc : Nat) (sc : Nat) (sb : Nat) (so : Nat) (TG : ByteArray) (L : List Fld) (kk : Nat) (jj : Nat) (TP : ByteArray) {W W' : World} (j : Nat) (v : Value) (b : Below W.heap.size W W') (h : or_nextF n1 rid ver kind lang ra n rc sc sb so TG L kk jj TP j W v) : or_nextF n1 rid ver kind lang ra n rc sc sb so TG L kk jj TP j W' v := by
  unfold or_nextF at h ⊢
  split <;> simp only at h
  · exact h
  · exact h
  · exact h
  · exact h
  · exact h
  · exact h
  · exact h
  · exact h
  · exact h
  · exact h
  · exact h
  · exact h
  · exact h
  · exact h
  · exact h
  · exact h
  · exact h
  · exact h
  · exact h
  · exact h
  · exact h
  · exact h
  · exact h
  · exact h
  · exact h
  · exact h
  · exact Flds.below h b (Nat.le_refl _)
  · exact h
  · exact h
  · exact h
  · exact h
  · exact h
  · exact h
  · exact h
  · exact Flds.below h b (Nat.le_refl _)
  · exact h
  · exact h
  · exact h
  · trivial

set_option maxRecDepth 100000 in
set_option maxHeartbeats 4000000 in
theorem or_next {id0 : Nat} {ty0 : TypeId} {po0 : String} {af0 : Array Edge} {ty1 : TypeId} {po1 : String} {af1 : Array Edge} {ty2 : TypeId} {po2 : String} {af2 : Array Edge} {ty3 : TypeId} {po3 : String} {af3 : Array Edge} {ty4 : TypeId} {po4 : String} {af4 : Array Edge} {ty5 : TypeId} {po5 : String} {af5 : Array Edge} {ty6 : TypeId} {po6 : String} {af6 : Array Edge} {ty7 : TypeId} {po7 : String} {af7 : Array Edge} {ty8 : TypeId} {po8 : String} {af8 : Array Edge} {ty9 : TypeId} {po9 : String} {af9 : Array Edge} {ty10 : TypeId} {po10 : String} {af10 : Array Edge} {ty11 : TypeId} {po11 : String} {af11 : Array Edge} {ty12 : TypeId} {po12 : String} {af12 : Array Edge} {ty13 : TypeId} {po13 : String} {af13 : Array Edge} {ty14 : TypeId} {po14 : String} {af14 : Array Edge} {ty15 : TypeId} {po15 : String} {af15 : Array Edge} {ty16 : TypeId} {po16 : String} {af16 : Array Edge} {ty17 : TypeId} {po17 : String} {af17 : Array Edge} {ty18 : TypeId} {po18 : String} {af18 : Array Edge} {ty19 : TypeId} {po19 : String} {af19 : Array Edge} {ty20 : TypeId} {po20 : String} {af20 : Array Edge} {ty21 : TypeId} {po21 : String} {af21 : Array Edge} {ty22 : TypeId} {po22 : String} {af22 : Array Edge} {ty23 : TypeId} {po23 : String} {af23 : Array Edge} {ty24 : TypeId} {po24 : String} {af24 : Array Edge} {ty25 : TypeId} {po25 : String} {af25 : Array Edge} {ty26 : TypeId} {po26 : String} {af26 : Array Edge} {ty27 : TypeId} {po27 : String} {af27 : Array Edge} {ty28 : TypeId} {po28 : String} {af28 : Array Edge} {ty29 : TypeId} {po29 : String} {af29 : Array Edge} {ty30 : TypeId} {po30 : String} {af30 : Array Edge} {ty31 : TypeId} {po31 : String} {af31 : Array Edge} {ty32 : TypeId} {po32 : String} {af32 : Array Edge} {ty33 : TypeId} {po33 : String} {af33 : Array Edge} {ty34 : TypeId} {po34 : String} {af34 : Array Edge} {ty35 : TypeId} {po35 : String} {af35 : Array Edge} {ty36 : TypeId} {po36 : String} {af36 : Array Edge} {ty37 : TypeId} {po37 : String} {af37 : Array Edge} {Q : Exit → Act → World → Prop} {A : World} {OPS0 : Array Oper} {v0 v2 v5 v6 v7 v8 v9 v10 v11 v12 v13 v14 v15 v16 v17 v18 v19 v20 v21 v22 v23 v24 v25 v26 v27 v28 v29 v30 v31 v32 v33 v34 v35 v74 v75 v76 v77 v78 v79 v80 v81 v82 v83 v84 v85 v86 v87 v88 v89 v90 v91 v92 v93 v94 v95 v96 v97 v98 v99 v100 v101 v102 v103 : Value} {u36 u37 u38 u39 u40 u41 u42 u43 u44 u45 u46 u47 u48 u49 u50 u51 u52 u53 u54 u55 u56 u57 u58 u59 u60 u61 u62 u63 u64 u65 u66 u67 u68 u69 u70 u71 u72 u73 : Value} (n0 : Nat) (n1 : Nat) (rid : Int) (ver : Int) (kind : Int) (lang : ByteArray) (ra : Option Addr) (n : Nat) (rc : Nat) (sc : Nat) (sb : Nat) (so : Nat) (TG : ByteArray) (L : List Fld) (kk : Nat) (jj : Nat) (TP : ByteArray)
    (hn0 : A.heap[n0]? = some (recO rid ver kind lang ra n rc)) (hn1 : A.heap[n1]? = some (recO rid ver kind lang (some ⟨sb, so, none⟩) n sc))
    (hkn : (kk : Int) < (n : Int)) (hp : (0 : Int) < (kk : Int)) (c0 : A.cell? ⟨sb, so + kk * 4, none⟩ = some (.string TG))
    (c1 : A.cell? ⟨sb, so + jj * 4, none⟩ = some (.string TP)) (hwp : IntKind.i64.wrap ((kk : Int) - 1) = jj) (hkl : (jj : Int) < (n : Int)) (hless : Op.bytesLess TG.toList TP.toList = false)
    (yF1 : Hid (∀ W, Below A.heap.size A W → Calls Tryz.prog 18 #[.agg #[.int .i64 rid, .int .i64 ver, .int .i64 kind, .string lang, .slice (some ⟨sb, so, none⟩) n sc], .string TG] W (RetF W L)))
    (yF2 : Hid (∀ W, Below A.heap.size A W → Calls Tryz.prog 18 #[.agg #[.int .i64 rid, .int .i64 ver, .int .i64 kind, .string lang, .slice ra n rc], .string TG] W (RetF W L)))
    (ySF : Hid (∀ W v v', Below A.heap.size A W → Flds W v L → Flds W v' L → Calls Tryz.prog 17 #[v, v'] W (fun e w' => e = .returned (.bool true) ∧ Below W.heap.size W w')))
    (hw : (forwardB .any OPS0 && [(1, 0), (2, 1), (3, 2), (4, 2), (4, 3), (5, 2), (6, 2), (6, 4), (6, 5), (7, 2), (7, 6), (8, 2), (8, 7), (9, 2), (10, 2), (10, 9), (11, 2), (12, 2), (12, 11), (13, 2), (13, 10), (13, 12), (14, 2), (14, 13), (15, 2), (15, 14), (16, 2), (16, 8), (16, 15), (17, 2), (17, 16), (18, 17), (19, 18), (20, 18), (21, 18), (21, 20), (22, 18), (23, 18), (23, 21), (23, 22), (24, 18), (24, 23), (25, 18), (25, 24), (26, 18), (26, 19), (26, 25), (27, 18), (28, 18), (29, 18), (29, 28), (30, 18), (31, 18), (31, 29), (31, 30), (32, 18), (32, 31), (33, 18), (33, 32), (34, 18), (34, 27), (34, 33), (35, 18), (35, 26), (35, 34), (36, 18), (36, 35), (37, 18), (37, 36)].all fun p => waits .any OPS0 p.1 p.2) = true) (hO : OPS0 = #[⟨some 36, .move (.tmp 4), ty0, po0, af0, none⟩, ⟨some 37, .binOp .gtr 3 (.tmp 36) (.const (.int .i64 0)) 3, ty1, po1, af1, none⟩, ⟨some 38, .move (.tmp 37), ty2, po2, af2, none⟩, ⟨some 39, .fieldAddr 24 (.tmp 3) 4, ty3, po3, af3, some (2, true)⟩, ⟨some 40, .load 22 (.tmp 39), ty4, po4, af4, some (2, true)⟩, ⟨some 41, .move (.tmp 4), ty5, po5, af5, some (2, true)⟩, ⟨some 42, .indexAddr 22 (.tmp 40) (.tmp 41), ty6, po6, af6, some (2, true)⟩, ⟨some 43, .fieldAddr 35 (.tmp 42) 0, ty7, po7, af7, some (2, true)⟩, ⟨some 44, .load 9 (.tmp 43), ty8, po8, af8, some (2, true)⟩, ⟨some 45, .fieldAddr 24 (.tmp 3) 4, ty9, po9, af9, some (2, true)⟩, ⟨some 46, .load 22 (.tmp 45), ty10, po10, af10, some (2, true)⟩, ⟨some 47, .move (.tmp 4), ty11, po11, af11, some (2, true)⟩, ⟨some 48, .binOp .sub 3 (.tmp 47) (.const (.int .i64 1)) 3, ty12, po12, af12, some (2, true)⟩, ⟨some 49, .indexAddr 22 (.tmp 46) (.tmp 48), ty13, po13, af13, some (2, true)⟩, ⟨some 50, .fieldAddr 35 (.tmp 49) 0, ty14, po14, af14, some (2, true)⟩, ⟨some 51, .load 9 (.tmp 50), ty15, po15, af15, some (2, true)⟩, ⟨some 52, .binOp .lss 9 (.tmp 44) (.tmp 51) 9, ty16, po16, af16, some (2, true)⟩, ⟨some 53, .pick (.tmp 38) (.tmp 52) (.const (.bool false)), ty17, po17, af17, none⟩, ⟨some 54, .move (.tmp 53), ty18, po18, af18, none⟩, ⟨some 55, .load 24 (.tmp 3), ty19, po19, af19, some (18, false)⟩, ⟨some 56, .fieldAddr 24 (.tmp 3) 4, ty20, po20, af20, some (18, false)⟩, ⟨some 57, .load 22 (.tmp 56), ty21, po21, af21, some (18, false)⟩, ⟨some 58, .move (.tmp 4), ty22, po22, af22, some (18, false)⟩, ⟨some 59, .indexAddr 22 (.tmp 57) (.tmp 58), ty23, po23, af23, some (18, false)⟩, ⟨some 60, .fieldAddr 35 (.tmp 59) 0, ty24, po24, af24, some (18, false)⟩, ⟨some 61, .load 9 (.tmp 60), ty25, po25, af25, some (18, false)⟩, ⟨some 62, .call { callee := .value (.func 18), args := #[.tmp 55, .tmp 61], argTypes := #[24, 9] }, ty26, po26, af26, some (18, false)⟩, ⟨some 63, .load 24 (.tmp 1), ty27, po27, af27, some (18, false)⟩, ⟨some 64, .fieldAddr 24 (.tmp 3) 4, ty28, po28, af28, some (18, false)⟩, ⟨some 65, .load 22 (.tmp 64), ty29, po29, af29, some (18, false)⟩, ⟨some 66, .move (.tmp 4), ty30, po30, af30, some (18, false)⟩, ⟨some 67, .indexAddr 22 (.tmp 65) (.tmp 66), ty31, po31, af31, some (18, false)⟩, ⟨some 68, .fieldAddr 35 (.tmp 67) 0, ty32, po32, af32, some (18, false)⟩, ⟨some 69, .load 9 (.tmp 68), ty33, po33, af33, some (18, false)⟩, ⟨some 70, .call { callee := .value (.func 18), args := #[.tmp 63, .tmp 69], argTypes := #[24, 9] }, ty34, po34, af34, some (18, false)⟩, ⟨some 71, .call { callee := .value (.func 17), args := #[.tmp 62, .tmp 70], argTypes := #[22, 22] }, ty35, po35, af35, some (18, false)⟩, ⟨some 72, .unOp .not 4 (.tmp 71), ty36, po36, af36, some (18, false)⟩, ⟨some 73, .pick (.tmp 54) (.const (.bool true)) (.tmp 72), ty37, po37, af37, none⟩])
    (hQ : ∀ (xs : Nat → Value) (W : World), Below A.heap.size A W → or_nextF n1 rid ver kind lang ra n rc sc sb so TG L kk jj TP 37 W (xs 73) → Q .normal ⟨#[v0, .pointer (some ⟨n0, 0, none⟩), v2, .pointer (some ⟨n1, 0, none⟩), .int .i64 (kk : Int), v5, v6, v7, v8, v9, v10, v11, v12, v13, v14, v15, v16, v17, v18, v19, v20, v21, v22, v23, v24, v25, v26, v27, v28, v29, v30, v31, v32, v33, v34, v35, xs 36, xs 37, xs 38, xs 39, xs 40, xs 41, xs 42, xs 43, xs 44, xs 45, xs 46, xs 47, xs 48, xs 49, xs 50, xs 51, xs 52, xs 53, xs 54, xs 55, xs 56, xs 57, xs 58, xs 59, xs 60, xs 61, xs 62, xs 63, xs 64, xs 65, xs 66, xs 67, xs 68, xs 69, xs 70, xs 71, xs 72, xs 73, v74, v75, v76, v77, v78, v79, v80, v81, v82, v83, v84, v85, v86, v87, v88, v89, v90, v91, v92, v93, v94, v95, v96, v97, v98, v99, v100, v101, v102, v103], []⟩ W)
    : Code.wp Tryz.prog (.region id0 #[⟨some 36, .move (.tmp 4), ty0, po0, af0, none⟩, ⟨some 37, .binOp .gtr 3 (.tmp 36) (.const (.int .i64 0)) 3, ty1, po1, af1, none⟩, ⟨some 38, .move (.tmp 37), ty2, po2, af2, none⟩, ⟨some 39, .fieldAddr 24 (.tmp 3) 4, ty3, po3, af3, some (2, true)⟩, ⟨some 40, .load 22 (.tmp 39), ty4, po4, af4, some (2, true)⟩, ⟨some 41, .move (.tmp 4), ty5, po5, af5, some (2, true)⟩, ⟨some 42, .indexAddr 22 (.tmp 40) (.tmp 41), ty6, po6, af6, some (2, true)⟩, ⟨some 43, .fieldAddr 35 (.tmp 42) 0, ty7, po7, af7, some (2, true)⟩, ⟨some 44, .load 9 (.tmp 43), ty8, po8, af8, some (2, true)⟩, ⟨some 45, .fieldAddr 24 (.tmp 3) 4, ty9, po9, af9, some (2, true)⟩, ⟨some 46, .load 22 (.tmp 45), ty10, po10, af10, some (2, true)⟩, ⟨some 47, .move (.tmp 4), ty11, po11, af11, some (2, true)⟩, ⟨some 48, .binOp .sub 3 (.tmp 47) (.const (.int .i64 1)) 3, ty12, po12, af12, some (2, true)⟩, ⟨some 49, .indexAddr 22 (.tmp 46) (.tmp 48), ty13, po13, af13, some (2, true)⟩, ⟨some 50, .fieldAddr 35 (.tmp 49) 0, ty14, po14, af14, some (2, true)⟩, ⟨some 51, .load 9 (.tmp 50), ty15, po15, af15, some (2, true)⟩, ⟨some 52, .binOp .lss 9 (.tmp 44) (.tmp 51) 9, ty16, po16, af16, some (2, true)⟩, ⟨some 53, .pick (.tmp 38) (.tmp 52) (.const (.bool false)), ty17, po17, af17, none⟩, ⟨some 54, .move (.tmp 53), ty18, po18, af18, none⟩, ⟨some 55, .load 24 (.tmp 3), ty19, po19, af19, some (18, false)⟩, ⟨some 56, .fieldAddr 24 (.tmp 3) 4, ty20, po20, af20, some (18, false)⟩, ⟨some 57, .load 22 (.tmp 56), ty21, po21, af21, some (18, false)⟩, ⟨some 58, .move (.tmp 4), ty22, po22, af22, some (18, false)⟩, ⟨some 59, .indexAddr 22 (.tmp 57) (.tmp 58), ty23, po23, af23, some (18, false)⟩, ⟨some 60, .fieldAddr 35 (.tmp 59) 0, ty24, po24, af24, some (18, false)⟩, ⟨some 61, .load 9 (.tmp 60), ty25, po25, af25, some (18, false)⟩, ⟨some 62, .call { callee := .value (.func 18), args := #[.tmp 55, .tmp 61], argTypes := #[24, 9] }, ty26, po26, af26, some (18, false)⟩, ⟨some 63, .load 24 (.tmp 1), ty27, po27, af27, some (18, false)⟩, ⟨some 64, .fieldAddr 24 (.tmp 3) 4, ty28, po28, af28, some (18, false)⟩, ⟨some 65, .load 22 (.tmp 64), ty29, po29, af29, some (18, false)⟩, ⟨some 66, .move (.tmp 4), ty30, po30, af30, some (18, false)⟩, ⟨some 67, .indexAddr 22 (.tmp 65) (.tmp 66), ty31, po31, af31, some (18, false)⟩, ⟨some 68, .fieldAddr 35 (.tmp 67) 0, ty32, po32, af32, some (18, false)⟩, ⟨some 69, .load 9 (.tmp 68), ty33, po33, af33, some (18, false)⟩, ⟨some 70, .call { callee := .value (.func 18), args := #[.tmp 63, .tmp 69], argTypes := #[24, 9] }, ty34, po34, af34, some (18, false)⟩, ⟨some 71, .call { callee := .value (.func 17), args := #[.tmp 62, .tmp 70], argTypes := #[22, 22] }, ty35, po35, af35, some (18, false)⟩, ⟨some 72, .unOp .not 4 (.tmp 71), ty36, po36, af36, some (18, false)⟩, ⟨some 73, .pick (.tmp 54) (.const (.bool true)) (.tmp 72), ty37, po37, af37, none⟩] true) Q ⟨#[v0, .pointer (some ⟨n0, 0, none⟩), v2, .pointer (some ⟨n1, 0, none⟩), .int .i64 (kk : Int), v5, v6, v7, v8, v9, v10, v11, v12, v13, v14, v15, v16, v17, v18, v19, v20, v21, v22, v23, v24, v25, v26, v27, v28, v29, v30, v31, v32, v33, v34, v35, u36, u37, u38, u39, u40, u41, u42, u43, u44, u45, u46, u47, u48, u49, u50, u51, u52, u53, u54, u55, u56, u57, u58, u59, u60, u61, u62, u63, u64, u65, u66, u67, u68, u69, u70, u71, u72, u73, v74, v75, v76, v77, v78, v79, v80, v81, v82, v83, v84, v85, v86, v87, v88, v89, v90, v91, v92, v93, v94, v95, v96, v97, v98, v99, v100, v101, v102, v103], []⟩ A := by
  rw [Bool.and_eq_true] at hw
  obtain ⟨hfw, hw⟩ := hw
  have hW := List.all_eq_true.1 hw
  clear hw
  rw [hO] at hfw hW
  clear hO OPS0
  have HFW := Lib.hid hfw
  have HWA := Lib.hid hW
  clear hfw hW
  refine wp_region_inv (by kernel_rfl) (fun listed x W => ∃ xs : Nat → Value, x = ⟨#[v0, .pointer (some ⟨n0, 0, none⟩), v2, .pointer (some ⟨n1, 0, none⟩), .int .i64 (kk : Int), v5, v6, v7, v8, v9, v10, v11, v12, v13, v14, v15, v16, v17, v18, v19, v20, v21, v22, v23, v24, v25, v26, v27, v28, v29, v30, v31, v32, v33, v34, v35, xs 36, xs 37, xs 38, xs 39, xs 40, xs 41, xs 42, xs 43, xs 44, xs 45, xs 46, xs 47, xs 48, xs 49, xs 50, xs 51, xs 52, xs 53, xs 54, xs 55, xs 56, xs 57, xs 58, xs 59, xs 60, xs 61, xs 62, xs 63, xs 64, xs 65, xs 66, xs 67, xs 68, xs 69, xs 70, xs 71, xs 72, xs 73, v74, v75, v76, v77, v78, v79, v80, v81, v82, v83, v84, v85, v86, v87, v88, v89, v90, v91, v92, v93, v94, v95, v96, v97, v98, v99, v100, v101, v102, v103], []⟩ ∧ Below A.heap.size A W ∧ ∀ j, j < 38 → listed.getD j true = true → or_nextF n1 rid ver kind lang ra n rc sc sb so TG L kk jj TP j W (xs (or_nextS j))) ?start ?step ?done
  case start =>
    exact ⟨fun k => if k = 36 then u36 else if k = 37 then u37 else if k = 38 then u38 else if k = 39 then u39 else if k = 40 then u40 else if k = 41 then u41 else if k = 42 then u42 else if k = 43 then u43 else if k = 44 then u44 else if k = 45 then u45 else if k = 46 then u46 else if k = 47 then u47 else if k = 48 then u48 else if k = 49 then u49 else if k = 50 then u50 else if k = 51 then u51 else if k = 52 then u52 else if k = 53 then u53 else if k = 54 then u54 else if k = 55 then u55 else if k = 56 then u56 else if k = 57 then u57 else if k = 58 then u58 else if k = 59 then u59 else if k = 60 then u60 else if k = 61 then u61 else if k = 62 then u62 else if k = 63 then u63 else if k = 64 then u64 else if k = 65 then u65 else if k = 66 then u66 else if k = 67 then u67 else if k = 68 then u68 else if k = 69 then u69 else if k = 70 then u70 else if k = 71 then u71 else if k = 72 then u72 else if k = 73 then u73 else undef, rfl, (Below.refl _ _).drew, fun j hj h => by simp [Array.getD, hj] at h⟩
  case done =>
    rintro listed x W hs ⟨xs, rfl, bel, hF⟩ h0
    exact hQ xs W bel (hF 37 (by decide) (all_listedB HFW.out hs h0 37))
  case step =>
    rintro listed x W i hs ⟨xs, rfl, bel, hF⟩ hi
    have hin : i < 38 := by
      obtain ⟨-, o, ho, -⟩ := mem_ready.1 hi
      exact (Array.getElem?_eq_some_iff.1 ho).1
    have hpW := (bel.block n0 (Array.getElem?_eq_some_iff.1 hn0).1).trans hn0
    have hnW := (bel.block n1 (Array.getElem?_eq_some_iff.1 hn1).1).trans hn1
    have g0 := Lib.cell_of_heap hpW 0
    have g1 := Lib.cell_of_heap hpW 1
    have g2 := Lib.cell_of_heap hpW 2
    have g3 := Lib.cell_of_heap hpW 3
    have g4 := Lib.cell_of_heap hpW 4
    have h0 := Lib.cell_of_heap hnW 0
    have h1 := Lib.cell_of_heap hnW 1
    have h2 := Lib.cell_of_heap hnW 2
    have h3 := Lib.cell_of_heap hnW 3
    have h4 := Lib.cell_of_heap hnW 4
    have k0 := (bel.cell (p := ⟨sb, so + kk * 4, none⟩) (lt_cell c0)).trans c0
    have k1 := (bel.cell (p := ⟨sb, so + jj * 4, none⟩) (lt_cell c1)).trans c1
    have HF1 := yF1
    have HF2 := yF2
    have HSF := ySF
    have FF := Lib.hid hF
    have BEL := Lib.hid bel
    clear hF hQ HFW bel hs hn0 hn1 hpW hnW c0 yF1 yF2 ySF c1
    have hcases : i = 0 ∨ i = 1 ∨ i = 2 ∨ i = 3 ∨ i = 4 ∨ i = 5 ∨ i = 6 ∨ i = 7 ∨ i = 8 ∨ i = 9 ∨ i = 10 ∨ i = 11 ∨ i = 12 ∨ i = 13 ∨ i = 14 ∨ i = 15 ∨ i = 16 ∨ i = 17 ∨ i = 18 ∨ i = 19 ∨ i = 20 ∨ i = 21 ∨ i = 22 ∨ i = 23 ∨ i = 24 ∨ i = 25 ∨ i = 26 ∨ i = 27 ∨ i = 28 ∨ i = 29 ∨ i = 30 ∨ i = 31 ∨ i = 32 ∨ i = 33 ∨ i = 34 ∨ i = 35 ∨ i = 36 ∨ i = 37 := by omega
    clear hin
    rcases hcases with rfl | rfl | rfl | rfl | rfl | rfl | rfl | rfl | rfl | rfl | rfl | rfl | rfl | rfl | rfl | rfl | rfl | rfl | rfl | rfl | rfl | rfl | rfl | rfl | rfl | rfl | rfl | rfl | rfl | rfl | rfl | rfl | rfl | rfl | rfl | rfl | rfl | rfl
    · clear hi  HWA
      refine wpOp_step rfl (fun K hK => ?_)
      go_simp
      exact hK _ _ ⟨fun k => if k = 36 then .int .i64 (kk : Int) else xs k, by simp, BEL.out, facts_set (by decide) rfl (or_next_mono n1 rid ver kind lang ra n rc sc sb so TG L kk jj TP) FF.out (Below.refl _ _) (rfl)⟩
    · have l0 := waited hi (HWA.out (1, 0) (by decide))
      have e36 : (xs 36) = .int .i64 (kk : Int) := FF.out 0 (by decide) l0
      clear hi l0 HWA
      refine wpOp_step rfl (fun K hK => ?_)
      simp only [e36]
      go_simp
      exact hK _ _ ⟨fun k => if k = 37 then .bool true else xs k, by simp [e36]; omega, BEL.out, facts_set (by decide) rfl (or_next_mono n1 rid ver kind lang ra n rc sc sb so TG L kk jj TP) FF.out (Below.refl _ _) (rfl)⟩
    · have l1 := waited hi (HWA.out (2, 1) (by decide))
      have e37 : (xs 37) = .bool true := FF.out 1 (by decide) l1
      clear hi l1 HWA
      refine wpOp_step rfl (fun K hK => ?_)
      simp only [e37]
      go_simp
      exact hK _ _ ⟨fun k => if k = 38 then .bool true else xs k, by simp [e37], BEL.out, facts_set (by decide) rfl (or_next_mono n1 rid ver kind lang ra n rc sc sb so TG L kk jj TP) FF.out (Below.refl _ _) (rfl)⟩
    · have l2 := waited hi (HWA.out (3, 2) (by decide))
      have e38 : (xs 38) = .bool true := FF.out 2 (by decide) l2
      clear hi l2 HWA
      refine wpOp_step rfl (fun K hK => ?_)
      simp only [e38]
      go_simp
      exact hK _ _ ⟨fun k => if k = 39 then .pointer (some ⟨n1, 4, none⟩) else xs k, by simp [e38], BEL.out, facts_set (by decide) rfl (or_next_mono n1 rid ver kind lang ra n rc sc sb so TG L kk jj TP) FF.out (Below.refl _ _) (rfl)⟩
    · have l2 := waited hi (HWA.out (4, 2) (by decide))
      have e38 : (xs 38) = .bool true := FF.out 2 (by decide) l2
      have l3 := waited hi (HWA.out (4, 3) (by decide))
      have e39 : (xs 39) = .pointer (some ⟨n1, 4, none⟩) := FF.out 3 (by decide) l3
      clear hi l2 l3 HWA
      refine wpOp_step rfl (fun K hK => ?_)
      simp only [e38, e39]
      go_simp
      exact hK _ _ ⟨fun k => if k = 40 then .slice (some ⟨sb, so, none⟩) n sc else xs k, by simp [e38, e39], BEL.out, facts_set (by decide) rfl (or_next_mono n1 rid ver kind lang ra n rc sc sb so TG L kk jj TP) FF.out (Below.refl _ _) (rfl)⟩
    · have l2 := waited hi (HWA.out (5, 2) (by decide))
      have e38 : (xs 38) = .bool true := FF.out 2 (by decide) l2
      clear hi l2 HWA
      refine wpOp_step rfl (fun K hK => ?_)
      simp only [e38]
      go_simp
      exact hK _ _ ⟨fun k => if k = 41 then .int .i64 (kk : Int) else xs k, by simp [e38], BEL.out, facts_set (by decide) rfl (or_next_mono n1 rid ver kind lang ra n rc sc sb so TG L kk jj TP) FF.out (Below.refl _ _) (rfl)⟩
    · have l2 := waited hi (HWA.out (6, 2) (by decide))
      have e38 : (xs 38) = .bool true := FF.out 2 (by decide) l2
      have l4 := waited hi (HWA.out (6, 4) (by decide))
      have e40 : (xs 40) = .slice (some ⟨sb, so, none⟩) n sc := FF.out 4 (by decide) l4
      have l5 := waited hi (HWA.out (6, 5) (by decide))
      have e41 : (xs 41) = .int .i64 (kk : Int) := FF.out 5 (by decide) l5
      clear hi l2 l4 l5 HWA
      refine wpOp_step rfl (fun K hK => ?_)
      simp only [e38, e40, e41]
      go_simp
      exact hK _ _ ⟨fun k => if k = 42 then .pointer (some ⟨sb, so + kk * 4, none⟩) else xs k, by simp [e38, e40, e41], BEL.out, facts_set (by decide) rfl (or_next_mono n1 rid ver kind lang ra n rc sc sb so TG L kk jj TP) FF.out (Below.refl _ _) (show or_nextF n1 rid ver kind lang ra n rc sc sb so TG L kk jj TP 6 W (.pointer (some ⟨sb, so + kk * 4, none⟩)) from rfl)⟩
    · have l2 := waited hi (HWA.out (7, 2) (by decide))
      have e38 : (xs 38) = .bool true := FF.out 2 (by decide) l2
      have l6 := waited hi (HWA.out (7, 6) (by decide))
      have e42 : (xs 42) = .pointer (some ⟨sb, so + kk * 4, none⟩) := FF.out 6 (by decide) l6
      clear hi l2 l6 HWA
      refine wpOp_step rfl (fun K hK => ?_)
      simp only [e38, e42]
      go_simp
      exact hK _ _ ⟨fun k => if k = 43 then .pointer (some ⟨sb, so + kk * 4, none⟩) else xs k, by simp [e38, e42], BEL.out, facts_set (by decide) rfl (or_next_mono n1 rid ver kind lang ra n rc sc sb so TG L kk jj TP) FF.out (Below.refl _ _) (show or_nextF n1 rid ver kind lang ra n rc sc sb so TG L kk jj TP 7 W (.pointer (some ⟨sb, so + kk * 4, none⟩)) from rfl)⟩
    · have l2 := waited hi (HWA.out (8, 2) (by decide))
      have e38 : (xs 38) = .bool true := FF.out 2 (by decide) l2
      have l7 := waited hi (HWA.out (8, 7) (by decide))
      have e43 : (xs 43) = .pointer (some ⟨sb, so + kk * 4, none⟩) := FF.out 7 (by decide) l7
      clear hi l2 l7 HWA
      refine wpOp_step rfl (fun K hK => ?_)
      simp only [e38, e43]
      go_simp
      exact hK _ _ ⟨fun k => if k = 44 then .string TG else xs k, by simp [e38, e43], BEL.out, facts_set (by decide) rfl (or_next_mono n1 rid ver kind lang ra n rc sc sb so TG L kk jj TP) FF.out (Below.refl _ _) (rfl)⟩
    · have l2 := waited hi (HWA.out (9, 2) (by decide))
      have e38 : (xs 38) = .bool true := FF.out 2 (by decide) l2
      clear hi l2 HWA
      refine wpOp_step rfl (fun K hK => ?_)
      simp only [e38]
      go_simp
      exact hK _ _ ⟨fun k => if k = 45 then .pointer (some ⟨n1, 4, none⟩) else xs k, by simp [e38], BEL.out, facts_set (by decide) rfl (or_next_mono n1 rid ver kind lang ra n rc sc sb so TG L kk jj TP) FF.out (Below.refl _ _) (rfl)⟩
    · have l2 := waited hi (HWA.out (10, 2) (by decide))
      have e38 : (xs 38) = .bool true := FF.out 2 (by decide) l2
      have l9 := waited hi (HWA.out (10, 9) (by decide))
      have e45 : (xs 45) = .pointer (some ⟨n1, 4, none⟩) := FF.out 9 (by decide) l9
      clear hi l2 l9 HWA
      refine wpOp_step rfl (fun K hK => ?_)
      simp only [e38, e45]
      go_simp
      exact hK _ _ ⟨fun k => if k = 46 then .slice (some ⟨sb, so, none⟩) n sc else xs k, by simp [e38, e45], BEL.out, facts_set (by decide) rfl (or_next_mono n1 rid ver kind lang ra n rc sc sb so TG L kk jj TP) FF.out (Below.refl _ _) (rfl)⟩
    · have l2 := waited hi (HWA.out (11, 2) (by decide))
      have e38 : (xs 38) = .bool true := FF.out 2 (by decide) l2
      clear hi l2 HWA
      refine wpOp_step rfl (fun K hK => ?_)
      simp only [e38]
      go_simp
      exact hK _ _ ⟨fun k => if k = 47 then .int .i64 (kk : Int) else xs k, by simp [e38], BEL.out, facts_set (by decide) rfl (or_next_mono n1 rid ver kind lang ra n rc sc sb so TG L kk jj TP) FF.out (Below.refl _ _) (rfl)⟩
    · have l2 := waited hi (HWA.out (12, 2) (by decide))
      have e38 : (xs 38) = .bool true := FF.out 2 (by decide) l2
      have l11 := waited hi (HWA.out (12, 11) (by decide))
      have e47 : (xs 47) = .int .i64 (kk : Int) := FF.out 11 (by decide) l11
      clear hi l2 l11 HWA
      refine wpOp_step rfl (fun K hK => ?_)
      simp only [e38, e47]
      go_simp
      exact hK _ _ ⟨fun k => if k = 48 then .int .i64 (jj : Int) else xs k, by simp [e38, e47], BEL.out, facts_set (by decide) rfl (or_next_mono n1 rid ver kind lang ra n rc sc sb so TG L kk jj TP) FF.out (Below.refl _ _) (rfl)⟩
    · have l2 := waited hi (HWA.out (13, 2) (by decide))
      have e38 : (xs 38) = .bool true := FF.out 2 (by decide) l2
      have l10 := waited hi (HWA.out (13, 10) (by decide))
      have e46 : (xs 46) = .slice (some ⟨sb, so, none⟩) n sc := FF.out 10 (by decide) l10
      have l12 := waited hi (HWA.out (13, 12) (by decide))
      have e48 : (xs 48) = .int .i64 (jj : Int) := FF.out 12 (by decide) l12
      clear hi l2 l10 l12 HWA
      refine wpOp_step rfl (fun K hK => ?_)
      simp only [e38, e46, e48]
      go_simp
      exact hK _ _ ⟨fun k => if k = 49 then .pointer (some ⟨sb, so + jj * 4, none⟩) else xs k, by simp [e38, e46, e48], BEL.out, facts_set (by decide) rfl (or_next_mono n1 rid ver kind lang ra n rc sc sb so TG L kk jj TP) FF.out (Below.refl _ _) (show or_nextF n1 rid ver kind lang ra n rc sc sb so TG L kk jj TP 13 W (.pointer (some ⟨sb, so + jj * 4, none⟩)) from rfl)⟩
    · have l2 := waited hi (HWA.out (14, 2) (by decide))
      have e38 : (xs 38) = .bool true := FF.out 2 (by decide) l2
      have l13 := waited hi (HWA.out (14, 13) (by decide))
      have e49 : (xs 49) = .pointer (some ⟨sb, so + jj * 4, none⟩) := FF.out 13 (by decide) l13
      clear hi l2 l13 HWA
      refine wpOp_step rfl (fun K hK => ?_)
      simp only [e38, e49]
      go_simp
      exact hK _ _ ⟨fun k => if k = 50 then .pointer (some ⟨sb, so + jj * 4, none⟩) else xs k, by simp [e38, e49], BEL.out, facts_set (by decide) rfl (or_next_mono n1 rid ver kind lang ra n rc sc sb so TG L kk jj TP) FF.out (Below.refl _ _) (show or_nextF n1 rid ver kind lang ra n rc sc sb so TG L kk jj TP 14 W (.pointer (some ⟨sb, so + jj * 4, none⟩)) from rfl)⟩
    · have l2 := waited hi (HWA.out (15, 2) (by decide))
      have e38 : (xs 38) = .bool true := FF.out 2 (by decide) l2
      have l14 := waited hi (HWA.out (15, 14) (by decide))
      have e50 : (xs 50) = .pointer (some ⟨sb, so + jj * 4, none⟩) := FF.out 14 (by decide) l14
      clear hi l2 l14 HWA
      refine wpOp_step rfl (fun K hK => ?_)
      simp only [e38, e50]
      go_simp
      exact hK _ _ ⟨fun k => if k = 51 then .string TP else xs k, by simp [e38, e50], BEL.out, facts_set (by decide) rfl (or_next_mono n1 rid ver kind lang ra n rc sc sb so TG L kk jj TP) FF.out (Below.refl _ _) (rfl)⟩
    · have l2 := waited hi (HWA.out (16, 2) (by decide))
      have e38 : (xs 38) = .bool true := FF.out 2 (by decide) l2
      have l8 := waited hi (HWA.out (16, 8) (by decide))
      have e44 : (xs 44) = .string TG := FF.out 8 (by decide) l8
      have l15 := waited hi (HWA.out (16, 15) (by decide))
      have e51 : (xs 51) = .string TP := FF.out 15 (by decide) l15
      clear hi l2 l8 l15 HWA
      refine wpOp_step rfl (fun K hK => ?_)
      simp only [e38, e44, e51]
      go_simp
      exact hK _ _ ⟨fun k => if k = 52 then .bool false else xs k, by simp [e38, e44, e51], BEL.out, facts_set (by decide) rfl (or_next_mono n1 rid ver kind lang ra n rc sc sb so TG L kk jj TP) FF.out (Below.refl _ _) (rfl)⟩
    · have l2 := waited hi (HWA.out (17, 2) (by decide))
      have e38 : (xs 38) = .bool true := FF.out 2 (by decide) l2
      have l16 := waited hi (HWA.out (17, 16) (by decide))
      have e52 : (xs 52) = .bool false := FF.out 16 (by decide) l16
      clear hi l2 l16 HWA
      refine wpOp_step rfl (fun K hK => ?_)
      simp only [e38, e52]
      go_simp
      exact hK _ _ ⟨fun k => if k = 53 then .bool false else xs k, by simp [e38, e52], BEL.out, facts_set (by decide) rfl (or_next_mono n1 rid ver kind lang ra n rc sc sb so TG L kk jj TP) FF.out (Below.refl _ _) (rfl)⟩
    · have l17 := waited hi (HWA.out (18, 17) (by decide))
      have e53 : (xs 53) = .bool false := FF.out 17 (by decide) l17
      clear hi l17 HWA
      refine wpOp_step rfl (fun K hK => ?_)
      simp only [e53]
      go_simp
      exact hK _ _ ⟨fun k => if k = 54 then .bool false else xs k, by simp [e53], BEL.out, facts_set (by decide) rfl (or_next_mono n1 rid ver kind lang ra n rc sc sb so TG L kk jj TP) FF.out (Below.refl _ _) (rfl)⟩
    · have l18 := waited hi (HWA.out (19, 18) (by decide))
      have e54 : (xs 54) = .bool false := FF.out 18 (by decide) l18
      clear hi l18 HWA
      refine wpOp_step rfl (fun K hK => ?_)
      simp only [e54]
      go_simp
      exact hK _ _ ⟨fun k => if k = 55 then .agg #[.int .i64 rid, .int .i64 ver, .int .i64 kind, .string lang, .slice (some ⟨sb, so, none⟩) n sc] else xs k, by simp [e54], BEL.out, facts_set (by decide) rfl (or_next_mono n1 rid ver kind lang ra n rc sc sb so TG L kk jj TP) FF.out (Below.refl _ _) (rfl)⟩
    · have l18 := waited hi (HWA.out (20, 18) (by decide))
      have e54 : (xs 54) = .bool false := FF.out 18 (by decide) l18
      clear hi l18 HWA
      refine wpOp_step rfl (fun K hK => ?_)
      simp only [e54]
      go_simp
      exact hK _ _ ⟨fun k => if k = 56 then .pointer (some ⟨n1, 4, none⟩) else xs k, by simp [e54], BEL.out, facts_set (by decide) rfl (or_next_mono n1 rid ver kind lang ra n rc sc sb so TG L kk jj TP) FF.out (Below.refl _ _) (rfl)⟩
    · have l18 := waited hi (HWA.out (21, 18) (by decide))
      have e54 : (xs 54) = .bool false := FF.out 18 (by decide) l18
      have l20 := waited hi (HWA.out (21, 20) (by decide))
      have e56 : (xs 56) = .pointer (some ⟨n1, 4, none⟩) := FF.out 20 (by decide) l20
      clear hi l18 l20 HWA
      refine wpOp_step rfl (fun K hK => ?_)
      simp only [e54, e56]
      go_simp
      exact hK _ _ ⟨fun k => if k = 57 then .slice (some ⟨sb, so, none⟩) n sc else xs k, by simp [e54, e56], BEL.out, facts_set (by decide) rfl (or_next_mono n1 rid ver kind lang ra n rc sc sb so TG L kk jj TP) FF.out (Below.refl _ _) (rfl)⟩
    · have l18 := waited hi (HWA.out (22, 18) (by decide))
      have e54 : (xs 54) = .bool false := FF.out 18 (by decide) l18
      clear hi l18 HWA
      refine wpOp_step rfl (fun K hK => ?_)
      simp only [e54]
      go_simp
      exact hK _ _ ⟨fun k => if k = 58 then .int .i64 (kk : Int) else xs k, by simp [e54], BEL.out, facts_set (by decide) rfl (or_next_mono n1 rid ver kind lang ra n rc sc sb so TG L kk jj TP) FF.out (Below.refl _ _) (rfl)⟩
    · have l18 := waited hi (HWA.out (23, 18) (by decide))
      have e54 : (xs 54) = .bool false := FF.out 18 (by decide) l18
      have l21 := waited hi (HWA.out (23, 21) (by decide))
      have e57 : (xs 57) = .slice (some ⟨sb, so, none⟩) n sc := FF.out 21 (by decide) l21
      have l22 := waited hi (HWA.out (23, 22) (by decide))
      have e58 : (xs 58) = .int .i64 (kk : Int) := FF.out 22 (by decide) l22
      clear hi l18 l21 l22 HWA
      refine wpOp_step rfl (fun K hK => ?_)
      simp only [e54, e57, e58]
      go_simp
      exact hK _ _ ⟨fun k => if k = 59 then .pointer (some ⟨sb, so + kk * 4, none⟩) else xs k, by simp [e54, e57, e58], BEL.out, facts_set (by decide) rfl (or_next_mono n1 rid ver kind lang ra n rc sc sb so TG L kk jj TP) FF.out (Below.refl _ _) (show or_nextF n1 rid ver kind lang ra n rc sc sb so TG L kk jj TP 23 W (.pointer (some ⟨sb, so + kk * 4, none⟩)) from rfl)⟩
    · have l18 := waited hi (HWA.out (24, 18) (by decide))
      have e54 : (xs 54) = .bool false := FF.out 18 (by decide) l18
      have l23 := waited hi (HWA.out (24, 23) (by decide))
      have e59 : (xs 59) = .pointer (some ⟨sb, so + kk * 4, none⟩) := FF.out 23 (by decide) l23
      clear hi l18 l23 HWA
      refine wpOp_step rfl (fun K hK => ?_)
      simp only [e54, e59]
      go_simp
      exact hK _ _ ⟨fun k => if k = 60 then .pointer (some ⟨sb, so + kk * 4, none⟩) else xs k, by simp [e54, e59], BEL.out, facts_set (by decide) rfl (or_next_mono n1 rid ver kind lang ra n rc sc sb so TG L kk jj TP) FF.out (Below.refl _ _) (show or_nextF n1 rid ver kind lang ra n rc sc sb so TG L kk jj TP 24 W (.pointer (some ⟨sb, so + kk * 4, none⟩)) from rfl)⟩
    · have l18 := waited hi (HWA.out (25, 18) (by decide))
      have e54 : (xs 54) = .bool false := FF.out 18 (by decide) l18
      have l24 := waited hi (HWA.out (25, 24) (by decide))
      have e60 : (xs 60) = .pointer (some ⟨sb, so + kk * 4, none⟩) := FF.out 24 (by decide) l24
      clear hi l18 l24 HWA
      refine wpOp_step rfl (fun K hK => ?_)
      simp only [e54, e60]
      go_simp
      exact hK _ _ ⟨fun k => if k = 61 then .string TG else xs k, by simp [e54, e60], BEL.out, facts_set (by decide) rfl (or_next_mono n1 rid ver kind lang ra n rc sc sb so TG L kk jj TP) FF.out (Below.refl _ _) (rfl)⟩
    · have l18 := waited hi (HWA.out (26, 18) (by decide))
      have e54 : (xs 54) = .bool false := FF.out 18 (by decide) l18
      have l19 := waited hi (HWA.out (26, 19) (by decide))
      have e55 : (xs 55) = .agg #[.int .i64 rid, .int .i64 ver, .int .i64 kind, .string lang, .slice (some ⟨sb, so, none⟩) n sc] := FF.out 19 (by decide) l19
      have l25 := waited hi (HWA.out (26, 25) (by decide))
      have e61 : (xs 61) = .string TG := FF.out 25 (by decide) l25
      clear hi l18 l19 l25 HWA
      refine wpOp_step rfl (fun K hK => ?_)
      simp only [e54, e55, e61]
      go_simp
      refine (HF1.out W BEL.out).mono ?_
      rintro e w'' ⟨v, rfl, hs, bb⟩
      exact hK _ _ ⟨fun k => if k = 62 then v else xs k, by simp [e54, e55, e61], (BEL.out.bt bb), facts_set (by decide) rfl (or_next_mono n1 rid ver kind lang ra n rc sc sb so TG L kk jj TP) FF.out (bb) (hs)⟩
    · have l18 := waited hi (HWA.out (27, 18) (by decide))
      have e54 : (xs 54) = .bool false := FF.out 18 (by decide) l18
      clear hi l18 HWA
      refine wpOp_step rfl (fun K hK => ?_)
      simp only [e54]
      go_simp
      exact hK _ _ ⟨fun k => if k = 63 then .agg #[.int .i64 rid, .int .i64 ver, .int .i64 kind, .string lang, .slice ra n rc] else xs k, by simp [e54], BEL.out, facts_set (by decide) rfl (or_next_mono n1 rid ver kind lang ra n rc sc sb so TG L kk jj TP) FF.out (Below.refl _ _) (rfl)⟩
    · have l18 := waited hi (HWA.out (28, 18) (by decide))
      have e54 : (xs 54) = .bool false := FF.out 18 (by decide) l18
      clear hi l18 HWA
      refine wpOp_step rfl (fun K hK => ?_)
      simp only [e54]
      go_simp
      exact hK _ _ ⟨fun k => if k = 64 then .pointer (some ⟨n1, 4, none⟩) else xs k, by simp [e54], BEL.out, facts_set (by decide) rfl (or_next_mono n1 rid ver kind lang ra n rc sc sb so TG L kk jj TP) FF.out (Below.refl _ _) (rfl)⟩
    · have l18 := waited hi (HWA.out (29, 18) (by decide))
      have e54 : (xs 54) = .bool false := FF.out 18 (by decide) l18
      have l28 := waited hi (HWA.out (29, 28) (by decide))
      have e64 : (xs 64) = .pointer (some ⟨n1, 4, none⟩) := FF.out 28 (by decide) l28
      clear hi l18 l28 HWA
      refine wpOp_step rfl (fun K hK => ?_)
      simp only [e54, e64]
      go_simp
      exact hK _ _ ⟨fun k => if k = 65 then .slice (some ⟨sb, so, none⟩) n sc else xs k, by simp [e54, e64], BEL.out, facts_set (by decide) rfl (or_next_mono n1 rid ver kind lang ra n rc sc sb so TG L kk jj TP) FF.out (Below.refl _ _) (rfl)⟩
    · have l18 := waited hi (HWA.out (30, 18) (by decide))
      have e54 : (xs 54) = .bool false := FF.out 18 (by decide) l18
      clear hi l18 HWA
      refine wpOp_step rfl (fun K hK => ?_)
      simp only [e54]
      go_simp
      exact hK _ _ ⟨fun k => if k = 66 then .int .i64 (kk : Int) else xs k, by simp [e54], BEL.out, facts_set (by decide) rfl (or_next_mono n1 rid ver kind lang ra n rc sc sb so TG L kk jj TP) FF.out (Below.refl _ _) (rfl)⟩
    · have l18 := waited hi (HWA.out (31, 18) (by decide))
      have e54 : (xs 54) = .bool false := FF.out 18 (by decide) l18
      have l29 := waited hi (HWA.out (31, 29) (by decide))
      have e65 : (xs 65) = .slice (some ⟨sb, so, none⟩) n sc := FF.out 29 (by decide) l29
      have l30 := waited hi (HWA.out (31, 30) (by decide))
      have e66 : (xs 66) = .int .i64 (kk : Int) := FF.out 30 (by decide) l30
      clear hi l18 l29 l30 HWA
      refine wpOp_step rfl (fun K hK => ?_)
      simp only [e54, e65, e66]
      go_simp
      exact hK _ _ ⟨fun k => if k = 67 then .pointer (some ⟨sb, so + kk * 4, none⟩) else xs k, by simp [e54, e65, e66], BEL.out, facts_set (by decide) rfl (or_next_mono n1 rid ver kind lang ra n rc sc sb so TG L kk jj TP) FF.out (Below.refl _ _) (show or_nextF n1 rid ver kind lang ra n rc sc sb so TG L kk jj TP 31 W (.pointer (some ⟨sb, so + kk * 4, none⟩)) from rfl)⟩
    · have l18 := waited hi (HWA.out (32, 18) (by decide))
      have e54 : (xs 54) = .bool false := FF.out 18 (by decide) l18
      have l31 := waited hi (HWA.out (32, 31) (by decide))
      have e67 : (xs 67) = .pointer (some ⟨sb, so + kk * 4, none⟩) := FF.out 31 (by decide) l31
      clear hi l18 l31 HWA
      refine wpOp_step rfl (fun K hK => ?_)
      simp only [e54, e67]
      go_simp
      exact hK _ _ ⟨fun k => if k = 68 then .pointer (some ⟨sb, so + kk * 4, none⟩) else xs k, by simp [e54, e67], BEL.out, facts_set (by decide) rfl (or_next_mono n1 rid ver kind lang ra n rc sc sb so TG L kk jj TP) FF.out (Below.refl _ _) (show or_nextF n1 rid ver kind lang ra n rc sc sb so TG L kk jj TP 32 W (.pointer (some ⟨sb, so + kk * 4, none⟩)) from rfl)⟩
    · have l18 := waited hi (HWA.out (33, 18) (by decide))
      have e54 : (xs 54) = .bool false := FF.out 18 (by decide) l18
      have l32 := waited hi (HWA.out (33, 32) (by decide))
      have e68 : (xs 68) = .pointer (some ⟨sb, so + kk * 4, none⟩) := FF.out 32 (by decide) l32
      clear hi l18 l32 HWA
      refine wpOp_step rfl (fun K hK => ?_)
      simp only [e54, e68]
      go_simp
      exact hK _ _ ⟨fun k => if k = 69 then .string TG else xs k, by simp [e54, e68], BEL.out, facts_set (by decide) rfl (or_next_mono n1 rid ver kind lang ra n rc sc sb so TG L kk jj TP) FF.out (Below.refl _ _) (rfl)⟩
    · have l18 := waited hi (HWA.out (34, 18) (by decide))
      have e54 : (xs 54) = .bool false := FF.out 18 (by decide) l18
      have l27 := waited hi (HWA.out (34, 27) (by decide))
      have e63 : (xs 63) = .agg #[.int .i64 rid, .int .i64 ver, .int .i64 kind, .string lang, .slice ra n rc] := FF.out 27 (by decide) l27
      have l33 := waited hi (HWA.out (34, 33) (by decide))
      have e69 : (xs 69) = .string TG := FF.out 33 (by decide) l33
      clear hi l18 l27 l33 HWA
      refine wpOp_step rfl (fun K hK => ?_)
      simp only [e54, e63, e69]
      go_simp
      refine (HF2.out W BEL.out).mono ?_
      rintro e w'' ⟨v, rfl, hs, bb⟩
      exact hK _ _ ⟨fun k => if k = 70 then v else xs k, by simp [e54, e63, e69], (BEL.out.bt bb), facts_set (by decide) rfl (or_next_mono n1 rid ver kind lang ra n rc sc sb so TG L kk jj TP) FF.out (bb) (hs)⟩
    · have l18 := waited hi (HWA.out (35, 18) (by decide))
      have e54 : (xs 54) = .bool false := FF.out 18 (by decide) l18
      have l26 := waited hi (HWA.out (35, 26) (by decide))
      have e62 : Flds W (xs 62) L := FF.out 26 (by decide) l26
      have l34 := waited hi (HWA.out (35, 34) (by decide))
      have e70 : Flds W (xs 70) L := FF.out 34 (by decide) l34
      have HV1 := Lib.hid e62
      have HV2 := Lib.hid e70
      clear e62 e70
      clear hi l18 l26 l34 HWA
      refine wpOp_step rfl (fun K hK => ?_)
      simp only [e54]
      go_simp
      refine (HSF.out W _ _ BEL.out HV1.out HV2.out).mono ?_
      rintro e w'' ⟨rfl, bb⟩
      exact hK _ _ ⟨fun k => if k = 71 then .bool true else xs k, by simp [e54], (BEL.out.bt bb), facts_set (by decide) rfl (or_next_mono n1 rid ver kind lang ra n rc sc sb so TG L kk jj TP) FF.out (bb) (rfl)⟩
    · have l18 := waited hi (HWA.out (36, 18) (by decide))
      have e54 : (xs 54) = .bool false := FF.out 18 (by decide) l18
      have l35 := waited hi (HWA.out (36, 35) (by decide))
      have e71 : (xs 71) = .bool true := FF.out 35 (by decide) l35
      clear hi l18 l35 HWA
      refine wpOp_step rfl (fun K hK => ?_)
      simp only [e54, e71]
      go_simp
      exact hK _ _ ⟨fun k => if k = 72 then .bool false else xs k, by simp [e54, e71], BEL.out, facts_set (by decide) rfl (or_next_mono n1 rid ver kind lang ra n rc sc sb so TG L kk jj TP) FF.out (Below.refl _ _) (rfl)⟩
    · have l18 := waited hi (HWA.out (37, 18) (by decide))
      have e54 : (xs 54) = .bool false := FF.out 18 (by decide) l18
      have l36 := waited hi (HWA.out (37, 36) (by decide))
      have e72 : (xs 72) = .bool false := FF.out 36 (by decide) l36
      clear hi l18 l36 HWA
      refine wpOp_step rfl (fun K hK => ?_)
      simp only [e54, e72]
      go_simp
      exact hK _ _ ⟨fun k => if k = 73 then .bool false else xs k, by simp [e54, e72], BEL.out, facts_set (by decide) rfl (or_next_mono n1 rid ver kind lang ra n rc sc sb so TG L kk jj TP) FF.out (Below.refl _ _) (rfl)⟩
end Go.Proofs.YtkfjeolpbopcnaaGreatDoor
