/- The law RecordReads walked, and the comparison of two lists that it uses (layer 08). -/
import Derived.Test.YtkfjeolpbopcnaaGreatDoorEf
import Derived.Test.YtkfjeolpbopcnaaGreatDoorEg
import Derived.Deep.Quiet
namespace Go.Proofs.YtkfjeolpbopcnaaGreatDoor
open Go Go.RowKit

theorem facts_set {n i d : Nat} {slot : Nat → Nat} {F : Nat → World → Value → Prop} {listed : Array Bool} {xs : Nat → Value} {W W' : World} {v : Value} (hinj : ∀ j, j < n → j ≠ i → slot j ≠ d) (hd : slot i = d)
    (hm : ∀ j v, Below W.heap.size W W' → F j W v → F j W' v) (h : ∀ j, j < n → listed.getD j true = true → F j W (xs (slot j))) (b : Below W.heap.size W W') (hv : F i W' v) :
    ∀ j, j < n → (listed.setIfInBounds i true).getD j true = true → F j W' ((fun k => if k = d then v else xs k) (slot j)) := by
  intro j hj hl
  by_cases hji : j = i
  · subst hji
    simp only [hd, if_true]
    exact hv
  · simp only [if_neg (hinj j hj hji)]
    exact hm j _ b (h j hj ((set_listed hl).resolve_left hji))

set_option maxRecDepth 100000 in
set_option maxHeartbeats 1000000 in
theorem lSame (va vb : Value) (xs : List ByteArray) (w : World) (ha : Strs w va xs) (hb : Strs w vb xs) (h40 : xs.length ≤ 1000) :
    Calls Tryz.prog 33 #[va, vb] w fun e w' => e = .returned (.bool true) ∧ Below w.heap.size w w' := by
  obtain ⟨pa, ca, rfl, hca, hcellsa⟩ := ha
  obtain ⟨pb, cb, rfl, hcb, hcellsb⟩ := hb
  obtain ⟨n, hnn⟩ : ∃ n, n = xs.length := ⟨_, rfl⟩
  rw [← hnn] at h40 hca hcb ⊢
  have HN := Lib.hid hnn
  have HA := Lib.hid hcellsa
  have HB := Lib.hid hcellsb
  clear hnn hcellsa hcellsb
  go_enter Tryz.func33, Tryz.ntmps33
  go_wp2
  go_loopw [13] (fun i wr => ∃ k : Nat, i = .int .i64 k ∧ k ≤ n ∧ Hid (Dr w wr)) (fun i _ => n - (intOf i).toNat)
  case atStart => exact ⟨0, rfl, by omega, Lib.hid (Dr.refl _)⟩
  case round =>
    obtain ⟨k, rfl, hk, HD⟩ := hrel
    by_cases hlt : k < n
    · have hltz : (k : Int) < (n : Int) := by omega
      obtain ⟨x, hx⟩ : ∃ x, xs[k]? = some x := ⟨_, List.getElem?_eq_getElem (by have := HN.out; omega)⟩
      rcases HA.out with h0 | ⟨b, o, rfl, hb1, hcells1⟩
      · rw [h0] at hx; cases hx
      rcases HB.out with h0 | ⟨b', o', rfl, hb2, hcells2⟩
      · rw [h0] at hx; cases hx
      have hc1 : wr.cell? ⟨b, o + k, none⟩ = some (.string x) := ((HD.out.below w.heap.size).cell (p := ⟨b, o + k, none⟩) hb1).trans (hcells1 k x hx)
      have hc2 : wr.cell? ⟨b', o' + k, none⟩ = some (.string x) := ((HD.out.below w.heap.size).cell (p := ⟨b', o' + k, none⟩) hb2).trans (hcells2 k x hx)
      have hxx : (x.toList == x.toList) = true := by simp
      have HD2 : Hid (Dr w wr.drew) := Lib.hid HD.out.drew
      clear hcells1 hcells2 hx HD
      go_wp2_with fail
      go_region
      all_goals go_wp2
      go_roundw
      case rel => exact ⟨k + 1, by go_num, by omega, HD2⟩
      case measure => simp [intOf]; omega
    · have hltz : ¬ (k : Int) < (n : Int) := by omega
      go_wp2
      go_ret
      exact ⟨rfl, HD.out.below _⟩

def rd_regionS (j : Nat) : Nat := #[7, 8, 9, 10, 11, 12, 13, 14, 15, 16, 17, 18, 19, 20, 21, 22, 23, 24, 25, 26, 27, 28, 29, 30, 31, 32, 33, 34, 35, 2].getD j 0
/-- What each operation yields. -/
def rd_regionF (id : Int) (ver : Int) (kind : Int) (lang : ByteArray) (ra : Option Addr) (n : Nat) (rc : Nat) (T1 : ByteArray) (T2 : ByteArray) (Y : Int) (XS : List ByteArray) (j : Nat) (W : World) (v : Value) : Prop := match j with
  | 0 => v = .agg #[.int .i64 id, .int .i64 ver, .int .i64 kind, .string lang, .slice ra n rc]
  | 1 => v = .string T1
  | 2 => v = .agg #[.int .i64 id, .int .i64 ver, .int .i64 kind, .string lang, .slice ra n rc]
  | 3 => v = .string T1
  | 4 => v = .bool true
  | 5 => v = .bool true
  | 6 => v = .agg #[.int .i64 id, .int .i64 ver, .int .i64 kind, .string lang, .slice ra n rc]
  | 7 => v = .string T2
  | 8 => v = .agg #[.int .i64 id, .int .i64 ver, .int .i64 kind, .string lang, .slice ra n rc]
  | 9 => v = .string T2
  | 10 => v = .bool true
  | 11 => v = .bool true
  | 12 => v = .bool true
  | 13 => v = .agg #[.int .i64 id, .int .i64 ver, .int .i64 kind, .string lang, .slice ra n rc]
  | 14 => v = .int .i64 Y
  | 15 => v = .agg #[.int .i64 id, .int .i64 ver, .int .i64 kind, .string lang, .slice ra n rc]
  | 16 => v = .int .i64 Y
  | 17 => v = .bool true
  | 18 => v = .bool true
  | 19 => v = .bool true
  | 20 => v = .agg #[.int .i64 id, .int .i64 ver, .int .i64 kind, .string lang, .slice ra n rc]
  | 21 => Strs W v XS
  | 22 => v = .agg #[.int .i64 id, .int .i64 ver, .int .i64 kind, .string lang, .slice ra n rc]
  | 23 => Strs W v XS
  | 24 => v = .bool true
  | 25 => v = .bool true
  | 26 => v = .bool true
  | 27 => v = .bool true
  | 28 => v = .bool true
  | 29 => v = .bool true
  | _ => True
theorem rd_region_mono (id : Int) (ver : Int) (kind : Int) (lang : ByteArray) (ra : Option Addr) (n : Nat) (rc : Nat) (T1 : ByteArray) (T2 : ByteArray) (Y : Int) (XS : List ByteArray) {W W' : World} (j : Nat) (v : Value) (b : Below W.heap.size W W') (h : rd_regionF id ver kind lang ra n rc T1 T2 Y XS j W v) : rd_regionF id ver kind lang ra n rc T1 T2 Y XS j W' v := by
  unfold rd_regionF at h ⊢
  split <;> simp only at h
  · exact h
  · exact h
  · exact h
  · exact h
  · exact h
  · exact h
  · exact h
  · exact h
  · exact h
  · exact h
  · exact h
  · exact h
  · exact h
  · exact h
  · exact h
  · exact h
  · exact h
  · exact h
  · exact h
  · exact h
  · exact h
  · exact h.below b (Nat.le_refl _)
  · exact h
  · exact h.below b (Nat.le_refl _)
  · exact h
  · exact h
  · exact h
  · exact h
  · exact h
  · exact h
  · trivial

set_option maxRecDepth 100000 in
set_option maxHeartbeats 4000000 in
theorem rd_region {id0 : Nat} {ty0 : TypeId} {po0 : String} {af0 : Array Edge} {ty1 : TypeId} {po1 : String} {af1 : Array Edge} {ty2 : TypeId} {po2 : String} {af2 : Array Edge} {ty3 : TypeId} {po3 : String} {af3 : Array Edge} {ty4 : TypeId} {po4 : String} {af4 : Array Edge} {ty5 : TypeId} {po5 : String} {af5 : Array Edge} {ty6 : TypeId} {po6 : String} {af6 : Array Edge} {ty7 : TypeId} {po7 : String} {af7 : Array Edge} {ty8 : TypeId} {po8 : String} {af8 : Array Edge} {ty9 : TypeId} {po9 : String} {af9 : Array Edge} {ty10 : TypeId} {po10 : String} {af10 : Array Edge} {ty11 : TypeId} {po11 : String} {af11 : Array Edge} {ty12 : TypeId} {po12 : String} {af12 : Array Edge} {ty13 : TypeId} {po13 : String} {af13 : Array Edge} {ty14 : TypeId} {po14 : String} {af14 : Array Edge} {ty15 : TypeId} {po15 : String} {af15 : Array Edge} {ty16 : TypeId} {po16 : String} {af16 : Array Edge} {ty17 : TypeId} {po17 : String} {af17 : Array Edge} {ty18 : TypeId} {po18 : String} {af18 : Array Edge} {ty19 : TypeId} {po19 : String} {af19 : Array Edge} {ty20 : TypeId} {po20 : String} {af20 : Array Edge} {ty21 : TypeId} {po21 : String} {af21 : Array Edge} {ty22 : TypeId} {po22 : String} {af22 : Array Edge} {ty23 : TypeId} {po23 : String} {af23 : Array Edge} {ty24 : TypeId} {po24 : String} {af24 : Array Edge} {ty25 : TypeId} {po25 : String} {af25 : Array Edge} {ty26 : TypeId} {po26 : String} {af26 : Array Edge} {ty27 : TypeId} {po27 : String} {af27 : Array Edge} {ty28 : TypeId} {po28 : String} {af28 : Array Edge} {ty29 : TypeId} {po29 : String} {af29 : Array Edge} {Q : Exit → Act → World → Prop} {A : World} {OPS0 : Array Oper} {v0 v3 v4 v5 v6 : Value} {u2 u7 u8 u9 u10 u11 u12 u13 u14 u15 u16 u17 u18 u19 u20 u21 u22 u23 u24 u25 u26 u27 u28 u29 u30 u31 u32 u33 u34 u35 : Value} (n1 : Nat) (id : Int) (ver : Int) (kind : Int) (lang : ByteArray) (ra : Option Addr) (n : Nat) (rc : Nat) (T1 : ByteArray) (T2 : ByteArray) (Y : Int) (XS : List ByteArray)
    (hn1 : A.heap[n1]? = some (recO id ver kind lang ra n rc))
    (yHPT : Hid (∀ W, Below A.heap.size A W → Calls Tryz.prog 27 #[.agg #[.int .i64 id, .int .i64 ver, .int .i64 kind, .string lang, .slice ra n rc]] W (fun e w' => e = .returned (.string T1) ∧ Below W.heap.size W w')))
    (yHRT : Hid (∀ W, Below A.heap.size A W → Calls Tryz.prog 28 #[.agg #[.int .i64 id, .int .i64 ver, .int .i64 kind, .string lang, .slice ra n rc]] W (fun e w' => e = .returned (.string T1) ∧ Below W.heap.size W w')))
    (yHPA : Hid (∀ W, Below A.heap.size A W → Calls Tryz.prog 29 #[.agg #[.int .i64 id, .int .i64 ver, .int .i64 kind, .string lang, .slice ra n rc]] W (fun e w' => e = .returned (.string T2) ∧ Below W.heap.size W w')))
    (yHRA : Hid (∀ W, Below A.heap.size A W → Calls Tryz.prog 30 #[.agg #[.int .i64 id, .int .i64 ver, .int .i64 kind, .string lang, .slice ra n rc]] W (fun e w' => e = .returned (.string T2) ∧ Below W.heap.size W w')))
    (yHPY : Hid (∀ W, Below A.heap.size A W → Calls Tryz.prog 31 #[.agg #[.int .i64 id, .int .i64 ver, .int .i64 kind, .string lang, .slice ra n rc]] W (fun e w' => e = .returned (.int .i64 Y) ∧ Below W.heap.size W w')))
    (yHRY : Hid (∀ W, Below A.heap.size A W → Calls Tryz.prog 32 #[.agg #[.int .i64 id, .int .i64 ver, .int .i64 kind, .string lang, .slice ra n rc]] W (fun e w' => e = .returned (.int .i64 Y) ∧ Below W.heap.size W w')))
    (yHPS : Hid (∀ W, Below A.heap.size A W → Calls Tryz.prog 34 #[.agg #[.int .i64 id, .int .i64 ver, .int .i64 kind, .string lang, .slice ra n rc]] W (RetStrs W XS)))
    (yHRS : Hid (∀ W, Below A.heap.size A W → Calls Tryz.prog 35 #[.agg #[.int .i64 id, .int .i64 ver, .int .i64 kind, .string lang, .slice ra n rc]] W (RetStrs W XS)))
    (yHAL : Hid (∀ W, Below A.heap.size A W → Calls Tryz.prog 11 #[] W fun e w' => e = .returned (.bool true) ∧ Below W.heap.size W w')) (yHLN : Hid (XS.length ≤ 1000))
    (hw : (forwardB .any OPS0 && [(1, 0), (3, 2), (4, 1), (4, 3), (5, 4), (6, 5), (7, 5), (7, 6), (8, 5), (9, 5), (9, 8), (10, 5), (10, 7), (10, 9), (11, 5), (11, 10), (12, 11), (13, 12), (14, 12), (14, 13), (15, 12), (16, 12), (16, 15), (17, 12), (17, 14), (17, 16), (18, 12), (18, 17), (19, 18), (20, 19), (21, 19), (21, 20), (22, 19), (23, 19), (23, 22), (24, 19), (24, 21), (24, 23), (25, 19), (25, 24), (26, 25), (27, 26), (28, 26), (28, 27), (29, 28)].all fun p => waits .any OPS0 p.1 p.2) = true) (hO : OPS0 = #[⟨some 7, .load 24 (.tmp 1), ty0, po0, af0, none⟩, ⟨some 8, .call { callee := .value (.func 27), args := #[.tmp 7], argTypes := #[24] }, ty1, po1, af1, none⟩, ⟨some 9, .load 24 (.tmp 1), ty2, po2, af2, none⟩, ⟨some 10, .call { callee := .value (.func 28), args := #[.tmp 9], argTypes := #[24] }, ty3, po3, af3, none⟩, ⟨some 11, .binOp .eql 9 (.tmp 8) (.tmp 10) 9, ty4, po4, af4, none⟩, ⟨some 12, .move (.tmp 11), ty5, po5, af5, none⟩, ⟨some 13, .load 24 (.tmp 1), ty6, po6, af6, some (5, true)⟩, ⟨some 14, .call { callee := .value (.func 29), args := #[.tmp 13], argTypes := #[24] }, ty7, po7, af7, some (5, true)⟩, ⟨some 15, .load 24 (.tmp 1), ty8, po8, af8, some (5, true)⟩, ⟨some 16, .call { callee := .value (.func 30), args := #[.tmp 15], argTypes := #[24] }, ty9, po9, af9, some (5, true)⟩, ⟨some 17, .binOp .eql 9 (.tmp 14) (.tmp 16) 9, ty10, po10, af10, some (5, true)⟩, ⟨some 18, .pick (.tmp 12) (.tmp 17) (.const (.bool false)), ty11, po11, af11, none⟩, ⟨some 19, .move (.tmp 18), ty12, po12, af12, none⟩, ⟨some 20, .load 24 (.tmp 1), ty13, po13, af13, some (12, true)⟩, ⟨some 21, .call { callee := .value (.func 31), args := #[.tmp 20], argTypes := #[24] }, ty14, po14, af14, some (12, true)⟩, ⟨some 22, .load 24 (.tmp 1), ty15, po15, af15, some (12, true)⟩, ⟨some 23, .call { callee := .value (.func 32), args := #[.tmp 22], argTypes := #[24] }, ty16, po16, af16, some (12, true)⟩, ⟨some 24, .binOp .eql 3 (.tmp 21) (.tmp 23) 3, ty17, po17, af17, some (12, true)⟩, ⟨some 25, .pick (.tmp 19) (.tmp 24) (.const (.bool false)), ty18, po18, af18, none⟩, ⟨some 26, .move (.tmp 25), ty19, po19, af19, none⟩, ⟨some 27, .load 24 (.tmp 1), ty20, po20, af20, some (19, true)⟩, ⟨some 28, .call { callee := .value (.func 34), args := #[.tmp 27], argTypes := #[24] }, ty21, po21, af21, some (19, true)⟩, ⟨some 29, .load 24 (.tmp 1), ty22, po22, af22, some (19, true)⟩, ⟨some 30, .call { callee := .value (.func 35), args := #[.tmp 29], argTypes := #[24] }, ty23, po23, af23, some (19, true)⟩, ⟨some 31, .call { callee := .value (.func 33), args := #[.tmp 28, .tmp 30], argTypes := #[45, 45] }, ty24, po24, af24, some (19, true)⟩, ⟨some 32, .pick (.tmp 26) (.tmp 31) (.const (.bool false)), ty25, po25, af25, none⟩, ⟨some 33, .move (.tmp 32), ty26, po26, af26, none⟩, ⟨some 34, .call { callee := .value (.func 11), args := #[], argTypes := #[] }, ty27, po27, af27, some (26, true)⟩, ⟨some 35, .pick (.tmp 33) (.tmp 34) (.const (.bool false)), ty28, po28, af28, none⟩, ⟨some 2, .assign (.tmp 35), ty29, po29, af29, none⟩])
    (hQ : ∀ (xs : Nat → Value) (W : World), Below A.heap.size A W → rd_regionF id ver kind lang ra n rc T1 T2 Y XS 29 W (xs 2) → Q .normal ⟨#[v0, .pointer (some ⟨n1, 0, none⟩), xs 2, v3, v4, v5, v6, xs 7, xs 8, xs 9, xs 10, xs 11, xs 12, xs 13, xs 14, xs 15, xs 16, xs 17, xs 18, xs 19, xs 20, xs 21, xs 22, xs 23, xs 24, xs 25, xs 26, xs 27, xs 28, xs 29, xs 30, xs 31, xs 32, xs 33, xs 34, xs 35], []⟩ W)
    : Code.wp Tryz.prog (.region id0 #[⟨some 7, .load 24 (.tmp 1), ty0, po0, af0, none⟩, ⟨some 8, .call { callee := .value (.func 27), args := #[.tmp 7], argTypes := #[24] }, ty1, po1, af1, none⟩, ⟨some 9, .load 24 (.tmp 1), ty2, po2, af2, none⟩, ⟨some 10, .call { callee := .value (.func 28), args := #[.tmp 9], argTypes := #[24] }, ty3, po3, af3, none⟩, ⟨some 11, .binOp .eql 9 (.tmp 8) (.tmp 10) 9, ty4, po4, af4, none⟩, ⟨some 12, .move (.tmp 11), ty5, po5, af5, none⟩, ⟨some 13, .load 24 (.tmp 1), ty6, po6, af6, some (5, true)⟩, ⟨some 14, .call { callee := .value (.func 29), args := #[.tmp 13], argTypes := #[24] }, ty7, po7, af7, some (5, true)⟩, ⟨some 15, .load 24 (.tmp 1), ty8, po8, af8, some (5, true)⟩, ⟨some 16, .call { callee := .value (.func 30), args := #[.tmp 15], argTypes := #[24] }, ty9, po9, af9, some (5, true)⟩, ⟨some 17, .binOp .eql 9 (.tmp 14) (.tmp 16) 9, ty10, po10, af10, some (5, true)⟩, ⟨some 18, .pick (.tmp 12) (.tmp 17) (.const (.bool false)), ty11, po11, af11, none⟩, ⟨some 19, .move (.tmp 18), ty12, po12, af12, none⟩, ⟨some 20, .load 24 (.tmp 1), ty13, po13, af13, some (12, true)⟩, ⟨some 21, .call { callee := .value (.func 31), args := #[.tmp 20], argTypes := #[24] }, ty14, po14, af14, some (12, true)⟩, ⟨some 22, .load 24 (.tmp 1), ty15, po15, af15, some (12, true)⟩, ⟨some 23, .call { callee := .value (.func 32), args := #[.tmp 22], argTypes := #[24] }, ty16, po16, af16, some (12, true)⟩, ⟨some 24, .binOp .eql 3 (.tmp 21) (.tmp 23) 3, ty17, po17, af17, some (12, true)⟩, ⟨some 25, .pick (.tmp 19) (.tmp 24) (.const (.bool false)), ty18, po18, af18, none⟩, ⟨some 26, .move (.tmp 25), ty19, po19, af19, none⟩, ⟨some 27, .load 24 (.tmp 1), ty20, po20, af20, some (19, true)⟩, ⟨some 28, .call { callee := .value (.func 34), args := #[.tmp 27], argTypes := #[24] }, ty21, po21, af21, some (19, true)⟩, ⟨some 29, .load 24 (.tmp 1), ty22, po22, af22, some (19, true)⟩, ⟨some 30, .call { callee := .value (.func 35), args := #[.tmp 29], argTypes := #[24] }, ty23, po23, af23, some (19, true)⟩, ⟨some 31, .call { callee := .value (.func 33), args := #[.tmp 28, .tmp 30], argTypes := #[45, 45] }, ty24, po24, af24, some (19, true)⟩, ⟨some 32, .pick (.tmp 26) (.tmp 31) (.const (.bool false)), ty25, po25, af25, none⟩, ⟨some 33, .move (.tmp 32), ty26, po26, af26, none⟩, ⟨some 34, .call { callee := .value (.func 11), args := #[], argTypes := #[] }, ty27, po27, af27, some (26, true)⟩, ⟨some 35, .pick (.tmp 33) (.tmp 34) (.const (.bool false)), ty28, po28, af28, none⟩, ⟨some 2, .assign (.tmp 35), ty29, po29, af29, none⟩] true) Q ⟨#[v0, .pointer (some ⟨n1, 0, none⟩), u2, v3, v4, v5, v6, u7, u8, u9, u10, u11, u12, u13, u14, u15, u16, u17, u18, u19, u20, u21, u22, u23, u24, u25, u26, u27, u28, u29, u30, u31, u32, u33, u34, u35], []⟩ A := by
  rw [Bool.and_eq_true] at hw
  obtain ⟨hfw, hw⟩ := hw
  have hW := List.all_eq_true.1 hw
  clear hw
  rw [hO] at hfw hW
  clear hO OPS0
  have HFW := Lib.hid hfw
  have HWA := Lib.hid hW
  clear hfw hW
  refine wp_region_inv (by kernel_rfl) (fun listed x W => ∃ xs : Nat → Value, x = ⟨#[v0, .pointer (some ⟨n1, 0, none⟩), xs 2, v3, v4, v5, v6, xs 7, xs 8, xs 9, xs 10, xs 11, xs 12, xs 13, xs 14, xs 15, xs 16, xs 17, xs 18, xs 19, xs 20, xs 21, xs 22, xs 23, xs 24, xs 25, xs 26, xs 27, xs 28, xs 29, xs 30, xs 31, xs 32, xs 33, xs 34, xs 35], []⟩ ∧ Below A.heap.size A W ∧ ∀ j, j < 30 → listed.getD j true = true → rd_regionF id ver kind lang ra n rc T1 T2 Y XS j W (xs (rd_regionS j))) ?start ?step ?done
  case start =>
    exact ⟨fun k => if k = 2 then u2 else if k = 7 then u7 else if k = 8 then u8 else if k = 9 then u9 else if k = 10 then u10 else if k = 11 then u11 else if k = 12 then u12 else if k = 13 then u13 else if k = 14 then u14 else if k = 15 then u15 else if k = 16 then u16 else if k = 17 then u17 else if k = 18 then u18 else if k = 19 then u19 else if k = 20 then u20 else if k = 21 then u21 else if k = 22 then u22 else if k = 23 then u23 else if k = 24 then u24 else if k = 25 then u25 else if k = 26 then u26 else if k = 27 then u27 else if k = 28 then u28 else if k = 29 then u29 else if k = 30 then u30 else if k = 31 then u31 else if k = 32 then u32 else if k = 33 then u33 else if k = 34 then u34 else if k = 35 then u35 else undef, rfl, (Below.refl _ _).drew, fun j hj h => by simp [Array.getD, hj] at h⟩
  case done =>
    rintro listed x W hs ⟨xs, rfl, bel, hF⟩ h0
    exact hQ xs W bel (hF 29 (by decide) (all_listedB HFW.out hs h0 29))
  case step =>
    rintro listed x W i hs ⟨xs, rfl, bel, hF⟩ hi
    have hin : i < 30 := by
      obtain ⟨-, o, ho, -⟩ := mem_ready.1 hi
      exact (Array.getElem?_eq_some_iff.1 ho).1
    have hnW := (bel.block n1 (Array.getElem?_eq_some_iff.1 hn1).1).trans hn1
    have g0 := Lib.cell_of_heap hnW 0
    have g1 := Lib.cell_of_heap hnW 1
    have g2 := Lib.cell_of_heap hnW 2
    have g3 := Lib.cell_of_heap hnW 3
    have g4 := Lib.cell_of_heap hnW 4
    have HPT := yHPT
    have HRT := yHRT
    have HPA := yHPA
    have HRA := yHRA
    have HPY := yHPY
    have HRY := yHRY
    have HPS := yHPS
    have HRS := yHRS
    have HAL := yHAL
    have HLN := yHLN
    have FF := Lib.hid hF
    have BEL := Lib.hid bel
    clear hF hQ HFW bel hs hn1 hnW yHPT yHRT yHPA yHRA yHPY yHRY yHPS yHRS yHAL yHLN
    have hcases : i = 0 ∨ i = 1 ∨ i = 2 ∨ i = 3 ∨ i = 4 ∨ i = 5 ∨ i = 6 ∨ i = 7 ∨ i = 8 ∨ i = 9 ∨ i = 10 ∨ i = 11 ∨ i = 12 ∨ i = 13 ∨ i = 14 ∨ i = 15 ∨ i = 16 ∨ i = 17 ∨ i = 18 ∨ i = 19 ∨ i = 20 ∨ i = 21 ∨ i = 22 ∨ i = 23 ∨ i = 24 ∨ i = 25 ∨ i = 26 ∨ i = 27 ∨ i = 28 ∨ i = 29 := by omega
    clear hin
    rcases hcases with rfl | rfl | rfl | rfl | rfl | rfl | rfl | rfl | rfl | rfl | rfl | rfl | rfl | rfl | rfl | rfl | rfl | rfl | rfl | rfl | rfl | rfl | rfl | rfl | rfl | rfl | rfl | rfl | rfl | rfl
    · clear hi  HWA
      refine wpOp_step rfl (fun K hK => ?_)
      go_simp
      exact hK _ _ ⟨fun k => if k = 7 then .agg #[.int .i64 id, .int .i64 ver, .int .i64 kind, .string lang, .slice ra n rc] else xs k, by simp, BEL.out, facts_set (by decide) rfl (rd_region_mono id ver kind lang ra n rc T1 T2 Y XS) FF.out (Below.refl _ _) (rfl)⟩
    · have l0 := waited hi (HWA.out (1, 0) (by decide))
      have e7 : (xs 7) = .agg #[.int .i64 id, .int .i64 ver, .int .i64 kind, .string lang, .slice ra n rc] := FF.out 0 (by decide) l0
      clear hi l0 HWA
      refine wpOp_step rfl (fun K hK => ?_)
      simp only [e7]
      go_simp
      refine (HPT.out W BEL.out).mono ?_
      rintro e w'' ⟨rfl, bb⟩
      exact hK _ _ ⟨fun k => if k = 8 then .string T1 else xs k, by simp [e7], (BEL.out.bt bb), facts_set (by decide) rfl (rd_region_mono id ver kind lang ra n rc T1 T2 Y XS) FF.out (bb) (rfl)⟩
    · clear hi  HWA
      refine wpOp_step rfl (fun K hK => ?_)
      go_simp
      exact hK _ _ ⟨fun k => if k = 9 then .agg #[.int .i64 id, .int .i64 ver, .int .i64 kind, .string lang, .slice ra n rc] else xs k, by simp, BEL.out, facts_set (by decide) rfl (rd_region_mono id ver kind lang ra n rc T1 T2 Y XS) FF.out (Below.refl _ _) (rfl)⟩
    · have l2 := waited hi (HWA.out (3, 2) (by decide))
      have e9 : (xs 9) = .agg #[.int .i64 id, .int .i64 ver, .int .i64 kind, .string lang, .slice ra n rc] := FF.out 2 (by decide) l2
      clear hi l2 HWA
      refine wpOp_step rfl (fun K hK => ?_)
      simp only [e9]
      go_simp
      refine (HRT.out W BEL.out).mono ?_
      rintro e w'' ⟨rfl, bb⟩
      exact hK _ _ ⟨fun k => if k = 10 then .string T1 else xs k, by simp [e9], (BEL.out.bt bb), facts_set (by decide) rfl (rd_region_mono id ver kind lang ra n rc T1 T2 Y XS) FF.out (bb) (rfl)⟩
    · have l1 := waited hi (HWA.out (4, 1) (by decide))
      have e8 : (xs 8) = .string T1 := FF.out 1 (by decide) l1
      have l3 := waited hi (HWA.out (4, 3) (by decide))
      have e10 : (xs 10) = .string T1 := FF.out 3 (by decide) l3
      clear hi l1 l3 HWA
      refine wpOp_step rfl (fun K hK => ?_)
      simp only [e8, e10]
      go_simp
      exact hK _ _ ⟨fun k => if k = 11 then .bool true else xs k, by simp [e8, e10], BEL.out, facts_set (by decide) rfl (rd_region_mono id ver kind lang ra n rc T1 T2 Y XS) FF.out (Below.refl _ _) (rfl)⟩
    · have l4 := waited hi (HWA.out (5, 4) (by decide))
      have e11 : (xs 11) = .bool true := FF.out 4 (by decide) l4
      clear hi l4 HWA
      refine wpOp_step rfl (fun K hK => ?_)
      simp only [e11]
      go_simp
      exact hK _ _ ⟨fun k => if k = 12 then .bool true else xs k, by simp [e11], BEL.out, facts_set (by decide) rfl (rd_region_mono id ver kind lang ra n rc T1 T2 Y XS) FF.out (Below.refl _ _) (rfl)⟩
    · have l5 := waited hi (HWA.out (6, 5) (by decide))
      have e12 : (xs 12) = .bool true := FF.out 5 (by decide) l5
      clear hi l5 HWA
      refine wpOp_step rfl (fun K hK => ?_)
      simp only [e12]
      go_simp
      exact hK _ _ ⟨fun k => if k = 13 then .agg #[.int .i64 id, .int .i64 ver, .int .i64 kind, .string lang, .slice ra n rc] else xs k, by simp [e12], BEL.out, facts_set (by decide) rfl (rd_region_mono id ver kind lang ra n rc T1 T2 Y XS) FF.out (Below.refl _ _) (rfl)⟩
    · have l5 := waited hi (HWA.out (7, 5) (by decide))
      have e12 : (xs 12) = .bool true := FF.out 5 (by decide) l5
      have l6 := waited hi (HWA.out (7, 6) (by decide))
      have e13 : (xs 13) = .agg #[.int .i64 id, .int .i64 ver, .int .i64 kind, .string lang, .slice ra n rc] := FF.out 6 (by decide) l6
      clear hi l5 l6 HWA
      refine wpOp_step rfl (fun K hK => ?_)
      simp only [e13, e12]
      go_simp
      refine (HPA.out W BEL.out).mono ?_
      rintro e w'' ⟨rfl, bb⟩
      exact hK _ _ ⟨fun k => if k = 14 then .string T2 else xs k, by simp [e13, e12], (BEL.out.bt bb), facts_set (by decide) rfl (rd_region_mono id ver kind lang ra n rc T1 T2 Y XS) FF.out (bb) (rfl)⟩
    · have l5 := waited hi (HWA.out (8, 5) (by decide))
      have e12 : (xs 12) = .bool true := FF.out 5 (by decide) l5
      clear hi l5 HWA
      refine wpOp_step rfl (fun K hK => ?_)
      simp only [e12]
      go_simp
      exact hK _ _ ⟨fun k => if k = 15 then .agg #[.int .i64 id, .int .i64 ver, .int .i64 kind, .string lang, .slice ra n rc] else xs k, by simp [e12], BEL.out, facts_set (by decide) rfl (rd_region_mono id ver kind lang ra n rc T1 T2 Y XS) FF.out (Below.refl _ _) (rfl)⟩
    · have l5 := waited hi (HWA.out (9, 5) (by decide))
      have e12 : (xs 12) = .bool true := FF.out 5 (by decide) l5
      have l8 := waited hi (HWA.out (9, 8) (by decide))
      have e15 : (xs 15) = .agg #[.int .i64 id, .int .i64 ver, .int .i64 kind, .string lang, .slice ra n rc] := FF.out 8 (by decide) l8
      clear hi l5 l8 HWA
      refine wpOp_step rfl (fun K hK => ?_)
      simp only [e15, e12]
      go_simp
      refine (HRA.out W BEL.out).mono ?_
      rintro e w'' ⟨rfl, bb⟩
      exact hK _ _ ⟨fun k => if k = 16 then .string T2 else xs k, by simp [e15, e12], (BEL.out.bt bb), facts_set (by decide) rfl (rd_region_mono id ver kind lang ra n rc T1 T2 Y XS) FF.out (bb) (rfl)⟩
    · have l5 := waited hi (HWA.out (10, 5) (by decide))
      have e12 : (xs 12) = .bool true := FF.out 5 (by decide) l5
      have l7 := waited hi (HWA.out (10, 7) (by decide))
      have e14 : (xs 14) = .string T2 := FF.out 7 (by decide) l7
      have l9 := waited hi (HWA.out (10, 9) (by decide))
      have e16 : (xs 16) = .string T2 := FF.out 9 (by decide) l9
      clear hi l5 l7 l9 HWA
      refine wpOp_step rfl (fun K hK => ?_)
      simp only [e14, e16, e12]
      go_simp
      exact hK _ _ ⟨fun k => if k = 17 then .bool true else xs k, by simp [e14, e16, e12], BEL.out, facts_set (by decide) rfl (rd_region_mono id ver kind lang ra n rc T1 T2 Y XS) FF.out (Below.refl _ _) (rfl)⟩
    · have l5 := waited hi (HWA.out (11, 5) (by decide))
      have e12 : (xs 12) = .bool true := FF.out 5 (by decide) l5
      have l10 := waited hi (HWA.out (11, 10) (by decide))
      have e17 : (xs 17) = .bool true := FF.out 10 (by decide) l10
      clear hi l5 l10 HWA
      refine wpOp_step rfl (fun K hK => ?_)
      simp only [e12, e17]
      go_simp
      exact hK _ _ ⟨fun k => if k = 18 then .bool true else xs k, by simp [e12, e17], BEL.out, facts_set (by decide) rfl (rd_region_mono id ver kind lang ra n rc T1 T2 Y XS) FF.out (Below.refl _ _) (rfl)⟩
    · have l11 := waited hi (HWA.out (12, 11) (by decide))
      have e18 : (xs 18) = .bool true := FF.out 11 (by decide) l11
      clear hi l11 HWA
      refine wpOp_step rfl (fun K hK => ?_)
      simp only [e18]
      go_simp
      exact hK _ _ ⟨fun k => if k = 19 then .bool true else xs k, by simp [e18], BEL.out, facts_set (by decide) rfl (rd_region_mono id ver kind lang ra n rc T1 T2 Y XS) FF.out (Below.refl _ _) (rfl)⟩
    · have l12 := waited hi (HWA.out (13, 12) (by decide))
      have e19 : (xs 19) = .bool true := FF.out 12 (by decide) l12
      clear hi l12 HWA
      refine wpOp_step rfl (fun K hK => ?_)
      simp only [e19]
      go_simp
      exact hK _ _ ⟨fun k => if k = 20 then .agg #[.int .i64 id, .int .i64 ver, .int .i64 kind, .string lang, .slice ra n rc] else xs k, by simp [e19], BEL.out, facts_set (by decide) rfl (rd_region_mono id ver kind lang ra n rc T1 T2 Y XS) FF.out (Below.refl _ _) (rfl)⟩
    · have l12 := waited hi (HWA.out (14, 12) (by decide))
      have e19 : (xs 19) = .bool true := FF.out 12 (by decide) l12
      have l13 := waited hi (HWA.out (14, 13) (by decide))
      have e20 : (xs 20) = .agg #[.int .i64 id, .int .i64 ver, .int .i64 kind, .string lang, .slice ra n rc] := FF.out 13 (by decide) l13
      clear hi l12 l13 HWA
      refine wpOp_step rfl (fun K hK => ?_)
      simp only [e20, e19]
      go_simp
      refine (HPY.out W BEL.out).mono ?_
      rintro e w'' ⟨rfl, bb⟩
      exact hK _ _ ⟨fun k => if k = 21 then .int .i64 Y else xs k, by simp [e20, e19], (BEL.out.bt bb), facts_set (by decide) rfl (rd_region_mono id ver kind lang ra n rc T1 T2 Y XS) FF.out (bb) (rfl)⟩
    · have l12 := waited hi (HWA.out (15, 12) (by decide))
      have e19 : (xs 19) = .bool true := FF.out 12 (by decide) l12
      clear hi l12 HWA
      refine wpOp_step rfl (fun K hK => ?_)
      simp only [e19]
      go_simp
      exact hK _ _ ⟨fun k => if k = 22 then .agg #[.int .i64 id, .int .i64 ver, .int .i64 kind, .string lang, .slice ra n rc] else xs k, by simp [e19], BEL.out, facts_set (by decide) rfl (rd_region_mono id ver kind lang ra n rc T1 T2 Y XS) FF.out (Below.refl _ _) (rfl)⟩
    · have l12 := waited hi (HWA.out (16, 12) (by decide))
      have e19 : (xs 19) = .bool true := FF.out 12 (by decide) l12
      have l15 := waited hi (HWA.out (16, 15) (by decide))
      have e22 : (xs 22) = .agg #[.int .i64 id, .int .i64 ver, .int .i64 kind, .string lang, .slice ra n rc] := FF.out 15 (by decide) l15
      clear hi l12 l15 HWA
      refine wpOp_step rfl (fun K hK => ?_)
      simp only [e22, e19]
      go_simp
      refine (HRY.out W BEL.out).mono ?_
      rintro e w'' ⟨rfl, bb⟩
      exact hK _ _ ⟨fun k => if k = 23 then .int .i64 Y else xs k, by simp [e22, e19], (BEL.out.bt bb), facts_set (by decide) rfl (rd_region_mono id ver kind lang ra n rc T1 T2 Y XS) FF.out (bb) (rfl)⟩
    · have l12 := waited hi (HWA.out (17, 12) (by decide))
      have e19 : (xs 19) = .bool true := FF.out 12 (by decide) l12
      have l14 := waited hi (HWA.out (17, 14) (by decide))
      have e21 : (xs 21) = .int .i64 Y := FF.out 14 (by decide) l14
      have l16 := waited hi (HWA.out (17, 16) (by decide))
      have e23 : (xs 23) = .int .i64 Y := FF.out 16 (by decide) l16
      clear hi l12 l14 l16 HWA
      refine wpOp_step rfl (fun K hK => ?_)
      simp only [e21, e23, e19]
      go_simp
      exact hK _ _ ⟨fun k => if k = 24 then .bool true else xs k, by simp [e21, e23, e19], BEL.out, facts_set (by decide) rfl (rd_region_mono id ver kind lang ra n rc T1 T2 Y XS) FF.out (Below.refl _ _) (rfl)⟩
    · have l12 := waited hi (HWA.out (18, 12) (by decide))
      have e19 : (xs 19) = .bool true := FF.out 12 (by decide) l12
      have l17 := waited hi (HWA.out (18, 17) (by decide))
      have e24 : (xs 24) = .bool true := FF.out 17 (by decide) l17
      clear hi l12 l17 HWA
      refine wpOp_step rfl (fun K hK => ?_)
      simp only [e19, e24]
      go_simp
      exact hK _ _ ⟨fun k => if k = 25 then .bool true else xs k, by simp [e19, e24], BEL.out, facts_set (by decide) rfl (rd_region_mono id ver kind lang ra n rc T1 T2 Y XS) FF.out (Below.refl _ _) (rfl)⟩
    · have l18 := waited hi (HWA.out (19, 18) (by decide))
      have e25 : (xs 25) = .bool true := FF.out 18 (by decide) l18
      clear hi l18 HWA
      refine wpOp_step rfl (fun K hK => ?_)
      simp only [e25]
      go_simp
      exact hK _ _ ⟨fun k => if k = 26 then .bool true else xs k, by simp [e25], BEL.out, facts_set (by decide) rfl (rd_region_mono id ver kind lang ra n rc T1 T2 Y XS) FF.out (Below.refl _ _) (rfl)⟩
    · have l19 := waited hi (HWA.out (20, 19) (by decide))
      have e26 : (xs 26) = .bool true := FF.out 19 (by decide) l19
      clear hi l19 HWA
      refine wpOp_step rfl (fun K hK => ?_)
      simp only [e26]
      go_simp
      exact hK _ _ ⟨fun k => if k = 27 then .agg #[.int .i64 id, .int .i64 ver, .int .i64 kind, .string lang, .slice ra n rc] else xs k, by simp [e26], BEL.out, facts_set (by decide) rfl (rd_region_mono id ver kind lang ra n rc T1 T2 Y XS) FF.out (Below.refl _ _) (rfl)⟩
    · have l19 := waited hi (HWA.out (21, 19) (by decide))
      have e26 : (xs 26) = .bool true := FF.out 19 (by decide) l19
      have l20 := waited hi (HWA.out (21, 20) (by decide))
      have e27 : (xs 27) = .agg #[.int .i64 id, .int .i64 ver, .int .i64 kind, .string lang, .slice ra n rc] := FF.out 20 (by decide) l20
      clear hi l19 l20 HWA
      refine wpOp_step rfl (fun K hK => ?_)
      simp only [e27, e26]
      go_simp
      refine (HPS.out W BEL.out).mono ?_
      rintro e w'' ⟨v, rfl, hs, bb⟩
      exact hK _ _ ⟨fun k => if k = 28 then v else xs k, by simp [e27, e26], (BEL.out.bt bb), facts_set (by decide) rfl (rd_region_mono id ver kind lang ra n rc T1 T2 Y XS) FF.out (bb) (hs)⟩
    · have l19 := waited hi (HWA.out (22, 19) (by decide))
      have e26 : (xs 26) = .bool true := FF.out 19 (by decide) l19
      clear hi l19 HWA
      refine wpOp_step rfl (fun K hK => ?_)
      simp only [e26]
      go_simp
      exact hK _ _ ⟨fun k => if k = 29 then .agg #[.int .i64 id, .int .i64 ver, .int .i64 kind, .string lang, .slice ra n rc] else xs k, by simp [e26], BEL.out, facts_set (by decide) rfl (rd_region_mono id ver kind lang ra n rc T1 T2 Y XS) FF.out (Below.refl _ _) (rfl)⟩
    · have l19 := waited hi (HWA.out (23, 19) (by decide))
      have e26 : (xs 26) = .bool true := FF.out 19 (by decide) l19
      have l22 := waited hi (HWA.out (23, 22) (by decide))
      have e29 : (xs 29) = .agg #[.int .i64 id, .int .i64 ver, .int .i64 kind, .string lang, .slice ra n rc] := FF.out 22 (by decide) l22
      clear hi l19 l22 HWA
      refine wpOp_step rfl (fun K hK => ?_)
      simp only [e29, e26]
      go_simp
      refine (HRS.out W BEL.out).mono ?_
      rintro e w'' ⟨v, rfl, hs, bb⟩
      exact hK _ _ ⟨fun k => if k = 30 then v else xs k, by simp [e29, e26], (BEL.out.bt bb), facts_set (by decide) rfl (rd_region_mono id ver kind lang ra n rc T1 T2 Y XS) FF.out (bb) (hs)⟩
    · have l19 := waited hi (HWA.out (24, 19) (by decide))
      have e26 : (xs 26) = .bool true := FF.out 19 (by decide) l19
      have l21 := waited hi (HWA.out (24, 21) (by decide))
      have e28 : Strs W (xs 28) XS := FF.out 21 (by decide) l21
      have l23 := waited hi (HWA.out (24, 23) (by decide))
      have e30 : Strs W (xs 30) XS := FF.out 23 (by decide) l23
      have HS1 := Lib.hid e28
      have HS2 := Lib.hid e30
      clear e28 e30
      clear hi l19 l21 l23 HWA
      refine wpOp_step rfl (fun K hK => ?_)
      simp only [e26]
      go_simp
      refine (lSame _ _ XS W HS1.out HS2.out HLN.out).mono ?_
      rintro e w'' ⟨rfl, bb⟩
      exact hK _ _ ⟨fun k => if k = 31 then .bool true else xs k, by simp [e26], (BEL.out.bt bb), facts_set (by decide) rfl (rd_region_mono id ver kind lang ra n rc T1 T2 Y XS) FF.out (bb) (rfl)⟩
    · have l19 := waited hi (HWA.out (25, 19) (by decide))
      have e26 : (xs 26) = .bool true := FF.out 19 (by decide) l19
      have l24 := waited hi (HWA.out (25, 24) (by decide))
      have e31 : (xs 31) = .bool true := FF.out 24 (by decide) l24
      clear hi l19 l24 HWA
      refine wpOp_step rfl (fun K hK => ?_)
      simp only [e26, e31]
      go_simp
      exact hK _ _ ⟨fun k => if k = 32 then .bool true else xs k, by simp [e26, e31], BEL.out, facts_set (by decide) rfl (rd_region_mono id ver kind lang ra n rc T1 T2 Y XS) FF.out (Below.refl _ _) (rfl)⟩
    · have l25 := waited hi (HWA.out (26, 25) (by decide))
      have e32 : (xs 32) = .bool true := FF.out 25 (by decide) l25
      clear hi l25 HWA
      refine wpOp_step rfl (fun K hK => ?_)
      simp only [e32]
      go_simp
      exact hK _ _ ⟨fun k => if k = 33 then .bool true else xs k, by simp [e32], BEL.out, facts_set (by decide) rfl (rd_region_mono id ver kind lang ra n rc T1 T2 Y XS) FF.out (Below.refl _ _) (rfl)⟩
    · have l26 := waited hi (HWA.out (27, 26) (by decide))
      have e33 : (xs 33) = .bool true := FF.out 26 (by decide) l26
      clear hi l26 HWA
      refine wpOp_step rfl (fun K hK => ?_)
      simp only [e33]
      go_simp
      refine (HAL.out W BEL.out).mono ?_
      rintro e w'' ⟨rfl, bb⟩
      exact hK _ _ ⟨fun k => if k = 34 then .bool true else xs k, by simp [e33], (BEL.out.bt bb), facts_set (by decide) rfl (rd_region_mono id ver kind lang ra n rc T1 T2 Y XS) FF.out (bb) (rfl)⟩
    · have l26 := waited hi (HWA.out (28, 26) (by decide))
      have e33 : (xs 33) = .bool true := FF.out 26 (by decide) l26
      have l27 := waited hi (HWA.out (28, 27) (by decide))
      have e34 : (xs 34) = .bool true := FF.out 27 (by decide) l27
      clear hi l26 l27 HWA
      refine wpOp_step rfl (fun K hK => ?_)
      simp only [e33, e34]
      go_simp
      exact hK _ _ ⟨fun k => if k = 35 then .bool true else xs k, by simp [e33, e34], BEL.out, facts_set (by decide) rfl (rd_region_mono id ver kind lang ra n rc T1 T2 Y XS) FF.out (Below.refl _ _) (rfl)⟩
    · have l28 := waited hi (HWA.out (29, 28) (by decide))
      have e35 : (xs 35) = .bool true := FF.out 28 (by decide) l28
      clear hi l28 HWA
      refine wpOp_step rfl (fun K hK => ?_)
      simp only [e35]
      go_simp
      exact hK _ _ ⟨fun k => if k = 2 then .bool true else xs k, by simp [e35], BEL.out, facts_set (by decide) rfl (rd_region_mono id ver kind lang ra n rc T1 T2 Y XS) FF.out (Below.refl _ _) (rfl)⟩

set_option maxRecDepth 100000 in
set_option maxHeartbeats 8000000 in
theorem law_RecordReads (r : Rec) (a : Option Addr) (m c : Nat) (w : World) (hE : Env w) (hx0 : Flds w (.slice a m c) r.fields) (hq : Codes r) :
    Calls Tryz.prog 7 #[.agg #[.int .i64 r.id, .int .i64 r.ver, .int .i64 r.kind, .string r.lang, .slice a m c]] w fun e w' => e = .returned (.bool true) ∧ Below w.heap.size w w' := by
  obtain ⟨rfl, -⟩ := hx0.len
  have hx : RcdAt w ⟨r, a, c⟩ := hx0
  have HAL : Hid (∀ W, Below w.heap.size w W → Calls Tryz.prog 11 #[] W fun e w' => e = .returned (.bool true) ∧ Below W.heap.size W w') := Lib.hid (fun W h => lAlive W (hE.below h))
  have HVA : Hid (∀ W, Below w.heap.size w W → Calls Tryz.prog 16 #[.agg #[.int .i64 r.id, .int .i64 r.ver, .int .i64 r.kind, .string r.lang, .slice a r.fields.length c]] W fun e w' => e = .returned (.bool (validR r)) ∧ Below W.heap.size W w') := Lib.hid (fun W h => lValid ⟨r, a, c⟩ W (RcdAt.below hx h (Nat.le_refl _)) hq)
  obtain ⟨T1, hT1⟩ : ∃ out, validR r = true → TitleIs r.fields out := by
    by_cases hv : validR r = true
    · obtain ⟨out, h⟩ := title_of (good_of hv hq)
      exact ⟨out, fun _ => h⟩
    · exact ⟨⟨#[]⟩, fun h => absurd h hv⟩
  have HPT : Hid (validR r = true → ∀ W, Below w.heap.size w W → Calls Tryz.prog 27 #[.agg #[.int .i64 r.id, .int .i64 r.ver, .int .i64 r.kind, .string r.lang, .slice a r.fields.length c]] W (fun e w' => e = .returned (.string T1) ∧ Below W.heap.size W w')) := Lib.hid (fun hv W h => by
    have hg := good_of hv hq
    have hl : (⟨r, a, c⟩ : Rcd).r.fields.length ≤ 900 := by have := hg.len; show r.fields.length ≤ 900; omega
    have hsu : ∀ f ∈ (⟨r, a, c⟩ : Rcd).r.fields, f.subs.length ≤ 100000 := fun f hf => by have := hg.subs f hf; omega
    have hvl : ∀ f ∈ (⟨r, a, c⟩ : Rcd).r.fields, ∀ s ∈ f.subs, s.2.size ≤ 1000000 := fun f hf s hs => by have := hg.vals f hf s hs; omega
    have hxW : RcdAt W ⟨r, a, c⟩ := RcdAt.below hx h (Nat.le_refl _)
    exact pTitle ⟨r, a, c⟩ T1 W hxW hl (hT1 hv))
  have HRT : Hid (validR r = true → ∀ W, Below w.heap.size w W → Calls Tryz.prog 28 #[.agg #[.int .i64 r.id, .int .i64 r.ver, .int .i64 r.kind, .string r.lang, .slice a r.fields.length c]] W (fun e w' => e = .returned (.string T1) ∧ Below W.heap.size W w')) := Lib.hid (fun hv W h => by
    have hg := good_of hv hq
    have hl : (⟨r, a, c⟩ : Rcd).r.fields.length ≤ 900 := by have := hg.len; show r.fields.length ≤ 900; omega
    have hsu : ∀ f ∈ (⟨r, a, c⟩ : Rcd).r.fields, f.subs.length ≤ 100000 := fun f hf => by have := hg.subs f hf; omega
    have hvl : ∀ f ∈ (⟨r, a, c⟩ : Rcd).r.fields, ∀ s ∈ f.subs, s.2.size ≤ 1000000 := fun f hf s hs => by have := hg.vals f hf s hs; omega
    have hxW : RcdAt W ⟨r, a, c⟩ := RcdAt.below hx h (Nat.le_refl _)
    exact rTitle ⟨r, a, c⟩ T1 W hxW hl hg.tag (hT1 hv))
  have HPA : Hid (validR r = true → ∀ W, Below w.heap.size w W → Calls Tryz.prog 29 #[.agg #[.int .i64 r.id, .int .i64 r.ver, .int .i64 r.kind, .string r.lang, .slice a r.fields.length c]] W (fun e w' => e = .returned (.string (authP tagsA r.fields)) ∧ Below W.heap.size W w')) := Lib.hid (fun hv W h => by
    have hg := good_of hv hq
    have hl : (⟨r, a, c⟩ : Rcd).r.fields.length ≤ 900 := by have := hg.len; show r.fields.length ≤ 900; omega
    have hsu : ∀ f ∈ (⟨r, a, c⟩ : Rcd).r.fields, f.subs.length ≤ 100000 := fun f hf => by have := hg.subs f hf; omega
    have hvl : ∀ f ∈ (⟨r, a, c⟩ : Rcd).r.fields, ∀ s ∈ f.subs, s.2.size ≤ 1000000 := fun f hf s hs => by have := hg.vals f hf s hs; omega
    have hxW : RcdAt W ⟨r, a, c⟩ := RcdAt.below hx h (Nat.le_refl _)
    exact pAuthor ⟨r, a, c⟩ W hxW hl hsu)
  have HRA : Hid (validR r = true → ∀ W, Below w.heap.size w W → Calls Tryz.prog 30 #[.agg #[.int .i64 r.id, .int .i64 r.ver, .int .i64 r.kind, .string r.lang, .slice a r.fields.length c]] W (fun e w' => e = .returned (.string (authP tagsA r.fields)) ∧ Below W.heap.size W w')) := Lib.hid (fun hv W h => by
    have hg := good_of hv hq
    have hl : (⟨r, a, c⟩ : Rcd).r.fields.length ≤ 900 := by have := hg.len; show r.fields.length ≤ 900; omega
    have hsu : ∀ f ∈ (⟨r, a, c⟩ : Rcd).r.fields, f.subs.length ≤ 100000 := fun f hf => by have := hg.subs f hf; omega
    have hvl : ∀ f ∈ (⟨r, a, c⟩ : Rcd).r.fields, ∀ s ∈ f.subs, s.2.size ≤ 1000000 := fun f hf s hs => by have := hg.vals f hf s hs; omega
    have hxW : RcdAt W ⟨r, a, c⟩ := RcdAt.below hx h (Nat.le_refl _)
    exact rAuthor ⟨r, a, c⟩ W hxW hl hsu hg.tag)
  have HPY : Hid (validR r = true → ∀ W, Below w.heap.size w W → Calls Tryz.prog 31 #[.agg #[.int .i64 r.id, .int .i64 r.ver, .int .i64 r.kind, .string r.lang, .slice a r.fields.length c]] W (fun e w' => e = .returned (.int .i64 (yearL r.fields)) ∧ Below W.heap.size W w')) := Lib.hid (fun hv W h => by
    have hg := good_of hv hq
    have hl : (⟨r, a, c⟩ : Rcd).r.fields.length ≤ 900 := by have := hg.len; show r.fields.length ≤ 900; omega
    have hsu : ∀ f ∈ (⟨r, a, c⟩ : Rcd).r.fields, f.subs.length ≤ 100000 := fun f hf => by have := hg.subs f hf; omega
    have hvl : ∀ f ∈ (⟨r, a, c⟩ : Rcd).r.fields, ∀ s ∈ f.subs, s.2.size ≤ 1000000 := fun f hf s hs => by have := hg.vals f hf s hs; omega
    have hxW : RcdAt W ⟨r, a, c⟩ := RcdAt.below hx h (Nat.le_refl _)
    exact pYear ⟨r, a, c⟩ W hxW hl hsu hvl)
  have HRY : Hid (validR r = true → ∀ W, Below w.heap.size w W → Calls Tryz.prog 32 #[.agg #[.int .i64 r.id, .int .i64 r.ver, .int .i64 r.kind, .string r.lang, .slice a r.fields.length c]] W (fun e w' => e = .returned (.int .i64 (yearL r.fields)) ∧ Below W.heap.size W w')) := Lib.hid (fun hv W h => by
    have hg := good_of hv hq
    have hl : (⟨r, a, c⟩ : Rcd).r.fields.length ≤ 900 := by have := hg.len; show r.fields.length ≤ 900; omega
    have hsu : ∀ f ∈ (⟨r, a, c⟩ : Rcd).r.fields, f.subs.length ≤ 100000 := fun f hf => by have := hg.subs f hf; omega
    have hvl : ∀ f ∈ (⟨r, a, c⟩ : Rcd).r.fields, ∀ s ∈ f.subs, s.2.size ≤ 1000000 := fun f hf s hs => by have := hg.vals f hf s hs; omega
    have hxW : RcdAt W ⟨r, a, c⟩ := RcdAt.below hx h (Nat.le_refl _)
    exact rYear ⟨r, a, c⟩ W hxW hl hsu hg.codes hvl)
  have HPS : Hid (validR r = true → ∀ W, Below w.heap.size w W → Calls Tryz.prog 34 #[.agg #[.int .i64 r.id, .int .i64 r.ver, .int .i64 r.kind, .string r.lang, .slice a r.fields.length c]] W (RetStrs W (subjL (begL [54] r.fields)))) := Lib.hid (fun hv W h => by
    have hg := good_of hv hq
    have hl : (⟨r, a, c⟩ : Rcd).r.fields.length ≤ 900 := by have := hg.len; show r.fields.length ≤ 900; omega
    have hsu : ∀ f ∈ (⟨r, a, c⟩ : Rcd).r.fields, f.subs.length ≤ 100000 := fun f hf => by have := hg.subs f hf; omega
    have hvl : ∀ f ∈ (⟨r, a, c⟩ : Rcd).r.fields, ∀ s ∈ f.subs, s.2.size ≤ 1000000 := fun f hf s hs => by have := hg.vals f hf s hs; omega
    have hxW : RcdAt W ⟨r, a, c⟩ := RcdAt.below hx h (Nat.le_refl _)
    exact pSubjects ⟨r, a, c⟩ W hxW hl hsu (join_small hg ⟨#[45, 45]⟩ (by decide) [97, 120, 121, 122]))
  have HRS : Hid (validR r = true → ∀ W, Below w.heap.size w W → Calls Tryz.prog 35 #[.agg #[.int .i64 r.id, .int .i64 r.ver, .int .i64 r.kind, .string r.lang, .slice a r.fields.length c]] W (RetStrs W (subjL (begL [54] r.fields)))) := Lib.hid (fun hv W h => by
    have hg := good_of hv hq
    have hl : (⟨r, a, c⟩ : Rcd).r.fields.length ≤ 900 := by have := hg.len; show r.fields.length ≤ 900; omega
    have hsu : ∀ f ∈ (⟨r, a, c⟩ : Rcd).r.fields, f.subs.length ≤ 100000 := fun f hf => by have := hg.subs f hf; omega
    have hvl : ∀ f ∈ (⟨r, a, c⟩ : Rcd).r.fields, ∀ s ∈ f.subs, s.2.size ≤ 1000000 := fun f hf s hs => by have := hg.vals f hf s hs; omega
    have hxW : RcdAt W ⟨r, a, c⟩ := RcdAt.below hx h (Nat.le_refl _)
    exact rSubjects ⟨r, a, c⟩ W hxW hl hsu hg.codes (join_small hg ⟨#[45, 45]⟩ (by decide) [97, 120, 121, 122]))
  have HLN : Hid (validR r = true → (subjL (begL [54] r.fields)).length ≤ 1000) := Lib.hid (fun hv => by
    have h1 := subjL_len (begL [54] r.fields)
    have h2 : (begL [54] r.fields).length ≤ r.fields.length := List.length_filter_le _ _
    have h3 := (good_of hv hq).len
    omega)
  obtain ⟨T2, hT2⟩ : ∃ x, x = authP tagsA r.fields := ⟨_, rfl⟩
  obtain ⟨Y, hY⟩ : ∃ x, x = yearL r.fields := ⟨_, rfl⟩
  obtain ⟨XS, hXS⟩ : ∃ x, x = subjL (begL [54] r.fields) := ⟨_, rfl⟩
  rw [← hT2] at HPA HRA
  rw [← hY] at HPY HRY
  rw [← hXS] at HPS HRS HLN
  obtain ⟨V, hV⟩ : ∃ S, S = validR r := ⟨_, rfl⟩
  rw [← hV] at HVA HPT HRT HPA HRA HPY HRY HPS HRS HLN
  clear hx0 hx hq hE hV hT1 hT2 hY hXS
  obtain ⟨id, ver, kind, lang, rf⟩ := r
  simp only at HVA HPT HRT HPA HRA HPY HRY HPS HRS ⊢
  obtain ⟨n, hn⟩ : ∃ n, n = rf.length := ⟨_, rfl⟩
  rw [← hn] at HVA HPT HRT HPA HRA HPY HRY HPS HRS ⊢
  clear hn
  obtain ⟨ra, hra⟩ : ∃ x, x = a := ⟨_, rfl⟩
  obtain ⟨rc, hrc⟩ : ∃ x, x = c := ⟨_, rfl⟩
  rw [← hra, ← hrc] at HVA HPT HRT HPA HRA HPY HRY HPS HRS ⊢
  clear hra hrc

  obtain ⟨W0, hW0⟩ : ∃ W, W = w.alloc (recO id ver kind lang ra n rc) := ⟨_, rfl⟩
  have hb0 : Below w.heap.size w W0 := by rw [hW0]; exact (Below.refl _ _).alloc (Nat.le_refl _) _
  have h0 : W0.heap[w.heap.size]? = some (recO id ver kind lang ra n rc) := by rw [hW0]; exact alloc_at rfl
  have hs0 : W0.heap.size = w.heap.size + 1 := by rw [hW0]; simp
  have HBK : Hid (∀ W, Below W0.heap.size W0 W → W.heap[w.heap.size]? = some (recO id ver kind lang ra n rc) ∧ Below w.heap.size w W) := Lib.hid (fun W h => by
    have k0 := (h.block w.heap.size (by omega)).trans h0
    exact ⟨k0, hb0.bt h⟩)
  have HW0 := Lib.hid hW0
  have HB0 := Lib.hid hb0
  have p0 := Lib.cell_of_heap h0 0
  have p1 := Lib.cell_of_heap h0 1
  have p2 := Lib.cell_of_heap h0 2
  have p3 := Lib.cell_of_heap h0 3
  have p4 := Lib.cell_of_heap h0 4
  rw [hW0] at p0 p1 p2 p3 p4
  clear hb0 h0 hs0 hW0
  go_enter Tryz.func7, Tryz.ntmps7
  go_wp2_with fail
  rw [← HW0.out]
  refine (HVA.out W0 HB0.out).mono ?_
  rintro e w1 ⟨rfl, b1⟩
  obtain ⟨h1, hb1⟩ := HBK.out w1 b1
  have HA1 := Lib.hid (HAL.out w1 hb1)
  have HBW1 := Lib.hid hb1
  have HH1 := Lib.hid h1
  clear hb1 b1 h1 p0 p1 p2 p3 p4
  cases V with
  | false =>
    clear HPT HRT HPA HRA HPY HRY HPS HRS HLN
    go_wp2_with fail
    refine HA1.out.mono ?_
    rintro e w2 ⟨rfl, b2⟩
    have HB2 := Lib.hid (HBW1.out.bt b2)
    clear b2
    go_wp2
    go_ret
    exact ⟨rfl, HB2.out⟩
  | true =>
    have CHPT := Lib.hid (fun W (h : Below w1.heap.size w1 W) => HPT.out (by trivial) W (HBW1.out.bt h))
    have CHRT := Lib.hid (fun W (h : Below w1.heap.size w1 W) => HRT.out (by trivial) W (HBW1.out.bt h))
    have CHPA := Lib.hid (fun W (h : Below w1.heap.size w1 W) => HPA.out (by trivial) W (HBW1.out.bt h))
    have CHRA := Lib.hid (fun W (h : Below w1.heap.size w1 W) => HRA.out (by trivial) W (HBW1.out.bt h))
    have CHPY := Lib.hid (fun W (h : Below w1.heap.size w1 W) => HPY.out (by trivial) W (HBW1.out.bt h))
    have CHRY := Lib.hid (fun W (h : Below w1.heap.size w1 W) => HRY.out (by trivial) W (HBW1.out.bt h))
    have CHPS := Lib.hid (fun W (h : Below w1.heap.size w1 W) => HPS.out (by trivial) W (HBW1.out.bt h))
    have CHRS := Lib.hid (fun W (h : Below w1.heap.size w1 W) => HRS.out (by trivial) W (HBW1.out.bt h))
    have CHAL := Lib.hid (fun W (h : Below w1.heap.size w1 W) => HAL.out W (HBW1.out.bt h))
    have CHLN := Lib.hid (HLN.out (by trivial))
    clear HA1 HVA HAL HLN HPT HRT HPA HRA HPY HRY HPS HRS
    go_upto_region 3 with fail
    refine rd_region w.heap.size id ver kind lang ra n rc T1 T2 Y XS HH1.out CHPT CHRT CHPA CHRA CHPY CHRY CHPS CHRS CHAL CHLN (by kernel_rfl) rfl ?_
    intro xs W hb e2
    replace e2 : xs 2 = .bool true := e2
    have HB2 := Lib.hid (HBW1.out.bt hb)
    clear hb
    simp only [e2]
    go_wp2
    go_ret
    exact ⟨rfl, HB2.out⟩
end Go.Proofs.YtkfjeolpbopcnaaGreatDoor
