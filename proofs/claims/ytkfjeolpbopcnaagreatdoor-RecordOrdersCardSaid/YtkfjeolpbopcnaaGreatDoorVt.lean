/- Sorting fields (layer 08): the walks of stableCmpFunc and SortStableFunc, of any number of fields up to a thousand. -/
import Derived.Test.YtkfjeolpbopcnaaGreatDoorVn
import Derived.LoopN
namespace Go.Proofs.YtkfjeolpbopcnaaGreatDoor
open Go Go.RowKit

/-- A list that is in order block by block. -/
inductive Blocks (k : Nat) : List Fld → Prop
  | last (l : List Fld) (h : l.length ≤ k) (hs : SortedK K0 l) : Blocks k l
  | more (a l : List Fld) (h : a.length = k) (hs : SortedK K0 a) (t : Blocks k l) : Blocks k (a ++ l)
/-- Behind this list a list of blocks makes a list of blocks. -/
def Ahead (k : Nat) (D : List Fld) : Prop := ∀ R, Blocks k R → Blocks k (D ++ R)
theorem Ahead.nil (k : Nat) : Ahead k [] := fun _ h => h
theorem Ahead.add {k : Nat} {D x : List Fld} (h : Ahead k D) (hl : x.length = k) (hs : SortedK K0 x) : Ahead k (D ++ x) := fun R hR => by
  rw [List.append_assoc]
  exact h _ (.more x R hl hs hR)
theorem Blocks.small {k : Nat} {l : List Fld} (h : Blocks k l) (hl : l.length ≤ k) (_ : 0 < k) : SortedK K0 l := by
  cases h with
  | last _ _ hs => exact hs
  | more a l' ha hs ht =>
    have : l' = [] := List.length_eq_zero_iff.1 (by simp at hl; omega)
    subst this
    simpa using hs
/-- The first block, and what is behind it. -/
theorem Blocks.open {k : Nat} {l : List Fld} (h : Blocks k l) (hl : k ≤ l.length) (_ : 0 < k) : ∃ a r, l = a ++ r ∧ a.length = k ∧ SortedK K0 a ∧ Blocks k r := by
  cases h with
  | last _ h1 hs => exact ⟨l, [], by simp, by omega, hs, .last [] (by simp) List.Pairwise.nil⟩
  | more a l' ha hs ht => exact ⟨a, l', rfl, ha, hs, ht⟩

abbrev tagFn : Value := .func (.func 50) #[] #[]
section
variable {w0 w : World} {blk : Nat} {l : List Fld}
set_option maxRecDepth 100000 in
set_option maxHeartbeats 4000000 in
theorem sStable (h : SInv w0 blk w l) (hE : Env w0) (n cap : Nat) (hn : n = l.length) (hn2 : n ≤ 1000) :
    Calls Tryz.prog 83 #[.slice (some ⟨blk, 0, none⟩) n cap, .int .i64 n, .func (.func 50) #[] #[]] w fun e w' =>
      e = .returned (.tuple #[]) ∧ ∃ l', SInv w0 blk w' l' ∧ l'.Stab l ∧ SortedK K0 l' := by
  have HI := Lib.hid h
  have HN := Lib.hid hn
  have HE := Lib.hid hE
  clear h hn hE
  go_enter Tryz.func83, Tryz.ntmps83
  go_wp2
  -- blocks of twenty
  go_loopw [7, 8] (fun va vb wr => ∃ a b : Nat, va = .int .i64 a ∧ vb = .int .i64 b ∧ b = a + 20 ∧ a ≤ n ∧ Hid (∃ D R, SInv w0 blk wr (D ++ R) ∧ D.length = a ∧ Ahead 20 D ∧ (D ++ R).Stab l)) (fun va _ _ => n - (intOf va).toNat)
  case atStart => exact ⟨0, 20, rfl, rfl, rfl, by omega, Lib.hid ⟨[], l, by simpa using HI.out, rfl, Ahead.nil 20, by simpa using List.Stab.refl l⟩⟩
  case round =>
    obtain ⟨a, b, rfl, rfl, rfl, han, HK⟩ := hrel
    by_cases hle : a + 20 ≤ n
    · obtain ⟨D, R, hS, hD, hA, hp⟩ := HK.out
      have hlen : D.length + R.length = n := by have := hp.length_eq; have := HN.out; simp at *; omega
      have hi := sInsertion (p := D) (x := R.take 20) (s := R.drop 20) (hS.eq (by rw [List.take_append_drop])) HE.out n cap a (a + 20) (by rw [List.take_append_drop]; simp; omega) hn2 hD.symm (by simp; omega)
      have HC := Lib.hid hi
      have HX := Lib.hid (And.intro hD (And.intro hA (And.intro hp hlen)))
      have hlez : (a : Int) + 20 ≤ (n : Int) := by omega
      clear hS hD hA hp hlen hi HK
      push_cast at HC
      go_wp2_with fail
      refine HC.out.mono ?_
      rintro e w1 ⟨rfl, x, h1, h2, h3⟩
      have HR := Lib.hid (And.intro h1 (And.intro h2 h3))
      clear h1 h2 h3
      go_wp2
      go_roundw
      case rel =>
        obtain ⟨hD, hA, hp, hlen⟩ := HX.out
        obtain ⟨h1, h2, h3⟩ := HR.out
        have hx : x.length = 20 := by have := h2.length_eq; simp at this; omega
        refine ⟨a + 20, a + 20 + 20, by go_num, by go_num, rfl, hle, Lib.hid ⟨D ++ x, R.drop 20, h1.eq (by simp), by simp; omega, hA.add hx h3, ?_⟩⟩
        rw [List.append_assoc]
        refine (List.Stab.append_left D (h2.append_right (R.drop 20))).trans ?_
        rw [List.take_append_drop]
        exact hp
      case measure => simp [intOf]; omega
    · obtain ⟨D, R, hS, hD, hA, hp⟩ := HK.out
      have hlen : D.length + R.length = n := by have := hp.length_eq; have := HN.out; simp at *; omega
      have hi := sInsertion (p := D) (x := R) (s := []) (hS.eq (by simp)) HE.out n cap a n (by simp; omega) hn2 hD.symm (by omega)
      have HC := Lib.hid hi
      have HX := Lib.hid (And.intro hD (And.intro hA (And.intro hp hlen)))
      have hlez : ¬ (a : Int) + 20 ≤ (n : Int) := by omega
      clear hS hD hA hp hlen hi HK
      go_wp2_with fail
      refine HC.out.mono ?_
      rintro e w1 ⟨rfl, x, h1, h2, h3⟩
      have hfin : ∃ l', SInv w0 blk w1 l' ∧ l'.Stab l ∧ Blocks 20 l' := by
        obtain ⟨hD, hA, hp, hlen⟩ := HX.out
        exact ⟨D ++ x, h1.eq (by simp), (List.Stab.append_left D h2).trans hp, hA x (.last x (by have := h2.length_eq; omega) h3)⟩
      have HF := Lib.hid hfin
      clear h1 h2 h3 hfin HX HC
      go_wp2
      -- the blocks are merged, two by two
      go_loopw [6] (fun vk wr => ∃ k : Nat, vk = .int .i64 k ∧ 0 < k ∧ k < 4000 ∧ Hid (∃ l', SInv w0 blk wr l' ∧ l'.Stab l ∧ Blocks k l')) (fun vk _ => 4000 - (intOf vk).toNat)
      case atStart => exact ⟨20, rfl, by omega, by omega, HF⟩
      case round =>
        obtain ⟨k, rfl, hk0, hk1, HK⟩ := hrel
        by_cases hkn : k < n
        · have hknz : (k : Int) < (n : Int) := by omega
          go_wp2
          go_loopw [7, 8] (fun va vb wr => ∃ a b : Nat, va = .int .i64 a ∧ vb = .int .i64 b ∧ b = a + 2 * k ∧ a ≤ n ∧ Hid (∃ D R, SInv w0 blk wr (D ++ R) ∧ D.length = a ∧ Ahead (2 * k) D ∧ Blocks k R ∧ (D ++ R).Stab l)) (fun va _ _ => n - (intOf va).toNat)
          case atStart =>
            obtain ⟨l', h1, h2, h3⟩ := HK.out
            exact ⟨0, 2 * k, rfl, by go_num, by omega, by omega, Lib.hid ⟨[], l', by simpa using h1, rfl, Ahead.nil _, h3, by simpa using h2⟩⟩
          case round =>
            obtain ⟨a, b, rfl, rfl, hb, han, HM⟩ := hrel
            have HBB := Lib.hid hb
            by_cases hle : b ≤ n
            · obtain ⟨D, R, hS, hD, hA, hB, hp⟩ := HM.out
              have hlen : D.length + R.length = n := by have := hp.length_eq; have := HN.out; simp at *; omega
              obtain ⟨x, R1, rfl, hx, hsx, hB1⟩ := hB.open (by omega) hk0
              rw [List.length_append] at hlen
              obtain ⟨y, R2, rfl, hy, hsy, hB2⟩ := hB1.open (by omega) hk0
              rw [List.length_append] at hlen
              have hm := sMerge (w0 := w0) (blk := blk) HE.out 4000 wr D x y R2 (by omega) (by intro e; rw [e] at hx; simp at hx; omega) (by intro e; rw [e] at hy; simp at hy; omega) hS hsx hsy n cap a (a + k) b (by simp; omega) hn2 hD.symm (by omega) (by omega)
              have HC := Lib.hid hm
              have HX := Lib.hid (And.intro hD (And.intro hA (And.intro hp (And.intro hlen (And.intro hx (And.intro hy hB2))))))
              have hlez : (b : Int) ≤ (n : Int) := by omega
              clear hS hD hA hp hlen hm HM hB hB1 hx hy hsx hsy hB2 hb
              push_cast at HC
              go_wp2_with fail
              refine HC.out.mono ?_
              rintro e w2 ⟨rfl, z, h1, h2, h3⟩
              have HR := Lib.hid (And.intro h1 (And.intro h2 h3))
              clear h1 h2 h3
              go_wp2
              go_roundw
              case rel =>
                obtain ⟨hD, hA, hp, hlen, hx, hy, hB2⟩ := HX.out
                obtain ⟨h1, h2, h3⟩ := HR.out
                have hb := HBB.out
                have hz : z.length = 2 * k := by have := h2.length_eq; simp at this; omega
                refine ⟨b, b + 2 * k, rfl, by go_num, rfl, hle, Lib.hid ⟨D ++ z, R2, h1.eq (by simp), by simp; omega, hA.add hz h3, hB2, ?_⟩⟩
                rw [List.append_assoc]
                refine (List.Stab.append_left D (h2.append_right R2)).trans ?_
                rw [List.append_assoc x y R2]
                exact hp
              case measure => have hb := HBB.out; simp [intOf]; omega
            · have hlez : ¬ (b : Int) ≤ (n : Int) := by omega
              obtain ⟨D, R, hS, hD, hA, hB, hp⟩ := HM.out
              have hlen : D.length + R.length = n := by have := hp.length_eq; have := HN.out; simp at *; omega
              by_cases hrest : a + k < n
              · have hrz : (a : Int) + (k : Int) < (n : Int) := by omega
                obtain ⟨x, R1, rfl, hx, hsx, hB1⟩ := hB.open (by omega) hk0
                rw [List.length_append] at hlen
                have hsy := hB1.small (by omega) hk0
                have hm := sMerge (w0 := w0) (blk := blk) HE.out 4000 wr D x R1 [] (by omega) (by intro e; rw [e] at hx; simp at hx; omega) (by intro e; rw [e] at hlen; simp at hlen; omega) (hS.eq (by simp)) hsx hsy n cap a (a + k) n (by simp; omega) hn2 hD.symm (by omega) (by omega)
                have HC := Lib.hid hm
                have HX := Lib.hid (And.intro hD (And.intro hA (And.intro hp (And.intro hlen hx))))
                clear hS hD hA hp hlen hm HM hB hB1 hx hsx hsy hb
                push_cast at HC
                go_wp2_with fail
                refine HC.out.mono ?_
                rintro e w2 ⟨rfl, z, h1, h2, h3⟩
                have hfin : ∃ l', SInv w0 blk w2 l' ∧ l'.Stab l ∧ Blocks (k * 2) l' := by
                  obtain ⟨hD, hA, hp, hlen, hx⟩ := HX.out
                  have hz := h2.length_eq
                  rw [List.length_append] at hz
                  have hb := HBB.out
                  refine ⟨D ++ z, h1.eq (by simp), (List.Stab.append_left D h2).trans hp, ?_⟩
                  rw [Nat.mul_comm]
                  exact hA z (.last z (by omega) h3)
                have HF2 := Lib.hid hfin
                clear h1 h2 h3 hfin HX HC
                go_wp2
                go_roundw
                case rel => exact ⟨k * 2, by go_num, by omega, by omega, HF2⟩
                case measure => simp [intOf]; omega
              · have hrz : ¬ (a : Int) + (k : Int) < (n : Int) := by omega
                have hfin : ∃ l', SInv w0 blk wr l' ∧ l'.Stab l ∧ Blocks (k * 2) l' := by
                  refine ⟨D ++ R, hS, hp, ?_⟩
                  rw [Nat.mul_comm]
                  exact hA R (.last R (by omega) (hB.small (by omega) hk0))
                have HF2 := Lib.hid hfin
                clear hS hD hA hp hlen HM hB hfin hb
                go_wp2
                go_roundw
                case rel => exact ⟨k * 2, by go_num, by omega, by omega, HF2⟩
                case measure => simp [intOf]; omega
        · have hknz : ¬ (k : Int) < (n : Int) := by omega
          have hfin : ∃ l', SInv w0 blk wr l' ∧ l'.Stab l ∧ SortedK K0 l' := by
            obtain ⟨l', h1, h2, h3⟩ := HK.out
            exact ⟨l', h1, h2, h3.small (by have := h2.length_eq; have := HN.out; omega) hk0⟩
          have HF2 := Lib.hid hfin
          clear hfin HK
          go_wp2
          go_end0
          exact ⟨rfl, HF2.out⟩

set_option maxRecDepth 100000 in
set_option maxHeartbeats 2000000 in
theorem sSortStable (h : SInv w0 blk w l) (hE : Env w0) (n cap : Nat) (hn : n = l.length) (hn2 : n ≤ 1000) :
    Calls Tryz.prog 49 #[.slice (some ⟨blk, 0, none⟩) n cap, .func (.func 50) #[] #[]] w fun e w' =>
      e = .returned (.tuple #[]) ∧ ∃ l', SInv w0 blk w' l' ∧ l'.Stab l ∧ SortedK K0 l' := by
  have HC := Lib.hid (sStable h hE n cap hn hn2)
  clear h hE hn
  go_enter Tryz.func49, Tryz.ntmps49
  go_wp2_with fail
  refine HC.out.mono ?_
  rintro e w1 ⟨rfl, l', h1, h2, h3⟩
  go_wp2
  go_end0
  exact ⟨rfl, l', h1, h2, h3⟩
end

set_option maxRecDepth 100000 in
set_option maxHeartbeats 2000000 in
theorem sIns0 (v fv : Value) (a : Nat) (ha : a ≤ 1000) (w : World) : Calls Tryz.prog 106 #[v, .int .i64 a, .int .i64 a, fv] w fun e w' => e = .returned (.tuple #[]) ∧ w' = w := by
  go_enter Tryz.func106, Tryz.ntmps106
  go_wp2
  refine wp_loop_rounds 1 ?_
  rw [rounds_succ]
  go_wp2
  go_end0
  exact ⟨rfl, rfl⟩
set_option maxRecDepth 100000 in
set_option maxHeartbeats 2000000 in
theorem sStable0 (v fv : Value) (w : World) : Calls Tryz.prog 83 #[v, .int .i64 0, fv] w fun e w' => e = .returned (.tuple #[]) ∧ w' = w := by
  have h0 := sIns0 v fv 0 (by omega) w
  have H0 := Lib.hid h0
  clear h0
  go_enter Tryz.func83, Tryz.ntmps83
  go_wp2
  refine wp_loop_rounds 1 ?_
  rw [rounds_succ]
  go_wp2_with fail
  refine H0.out.mono ?_
  rintro e w1 ⟨rfl, rfl⟩
  go_wp2
  refine wp_loop_rounds 1 ?_
  rw [rounds_succ]
  go_wp2
  go_end0
  exact ⟨rfl, rfl⟩
set_option maxRecDepth 100000 in
set_option maxHeartbeats 2000000 in
theorem sSortStable0 (a : Option Addr) (c : Nat) (fv : Value) (w : World) :
    Calls Tryz.prog 49 #[.slice a 0 c, fv] w fun e w' => e = .returned (.tuple #[]) ∧ w' = w := by
  have HC := Lib.hid (sStable0 (.slice a 0 c) fv w)
  go_enter Tryz.func49, Tryz.ntmps49
  go_wp2_with fail
  refine HC.out.mono ?_
  rintro e w1 ⟨rfl, rfl⟩
  go_wp2
  go_end0
  exact ⟨rfl, rfl⟩
end Go.Proofs.YtkfjeolpbopcnaaGreatDoor
