/- Sorting (layer 2): the walk of rotate. -/
import Derived.Test.YtieapjdkbigejaaDoorQs
namespace Go.Proofs.YtieapjdkbigejaaDoor
open Go Go.RowKit

set_option maxRecDepth 100000 in
set_option maxHeartbeats 400000 in
theorem sRotate {w0 w : World} {blk cl : Nat} {lang : ByteArray} {p u v s : List (List Nat)} (h : SInv w0 blk cl lang w (p ++ (u ++ (v ++ s)))) (hu : u ≠ []) (hv : v ≠ [])
    (n cap a m b : Nat) (hn : n = (p ++ (u ++ (v ++ s))).length) (hn2 : n ≤ 1000) (ha : a = p.length) (hm : m = a + u.length) (hb : b = m + v.length) (fv : Value) :
    Calls Tryd.prog 80 #[.slice (some ⟨blk, 0, none⟩) n cap, .int .i64 a, .int .i64 m, .int .i64 b, fv] w fun e w' => e = .returned (.tuple #[]) ∧ SInv w0 blk cl lang w' (p ++ (v ++ (u ++ s))) := by
  have hlen : n = a + u.length + v.length + s.length := by rw [hn]; simp; omega
  have hu0 : 0 < u.length := List.length_pos_iff.2 hu
  have hv0 : 0 < v.length := List.length_pos_iff.2 hv
  obtain ⟨d1, hd1⟩ : ∃ d1, m - a = d1 := ⟨_, rfl⟩
  obtain ⟨d2, hd2⟩ : ∃ d2, b - m = d2 := ⟨_, rfl⟩
  have hb2 : a ≤ m ∧ m ≤ b ∧ b ≤ n ∧ m ≤ n := by omega
  have HI : Hid (SInv w0 blk cl lang w (p ++ (u ++ (v ++ s)))) := Lib.hid h
  have HL := Lib.hid (And.intro hn (And.intro ha (And.intro hm (And.intro hb (And.intro hu0 hv0)))))
  clear h ha hm hb hn hlen hu hv hd1 hd2 d1 d2
  go_enter Tryd.func80, Tryd.ntmps80
  go_wp2
  -- i elements left of m and j right of m are still to be exchanged: p0 ++ u0 ++ v0 ++ s0, u0 of length i, v0 of length j
  go_loopw [10, 11] (fun vi vj wr => ∃ i j : Nat, vi = .int .i64 i ∧ vj = .int .i64 j ∧ 0 < i ∧ 0 < j ∧ i ≤ m ∧ m + j ≤ n ∧ Hid (∃ p0 u0 v0 s0, SInv w0 blk cl lang wr (p0 ++ (u0 ++ (v0 ++ s0))) ∧ u0.length = i ∧ v0.length = j ∧ p0.length + i = m ∧ p0 ++ (v0 ++ (u0 ++ s0)) = p ++ (v ++ (u ++ s)))) (fun vi vj _ => (intOf vi).toNat + (intOf vj).toNat)
  case atStart =>
    obtain ⟨hn, ha, hm, hb, hu0, hv0⟩ := HL.out
    exact ⟨u.length, v.length, by go_num, by go_num, hu0, hv0, by omega, by omega, Lib.hid ⟨p, u, v, s, HI.out, rfl, rfl, by omega, rfl⟩⟩
  case round =>
    obtain ⟨i, j, rfl, rfl, hi, hj, him, hjn, HK⟩ := hrel
    by_cases hij : i = j
    · subst hij
      obtain ⟨p0, u0, v0, s0, hS, hul, hvl, hpl, he⟩ := HK.out
      have hc := sSwapRange (p := p0) (x := u0) (q := []) (y := v0) (s := s0) hS (by omega) n cap (m - i) m i (by rw [(HL.out).1]; have := congrArg List.length he; simp at this ⊢; omega) hn2 (by omega) (by simp; omega) (by omega) fv
      rw [show ((m - i : Nat) : Int) = (m : Int) - (i : Int) by omega] at hc
      have HC := Lib.hid hc
      have HE : Hid (p0 ++ (v0 ++ (u0 ++ s0)) = p ++ (v ++ (u ++ s))) := Lib.hid he
      clear hS hul hvl hpl he hc
      go_wp2_with fail
      refine HC.out.mono ?_
      rintro e w1 ⟨rfl, h1⟩
      go_wp2
      go_end0
      exact ⟨rfl, h1.eq (by simpa using HE.out)⟩
    · by_cases hgt : j < i
      · obtain ⟨p0, u0, v0, s0, hS, hul, hvl, hpl, he⟩ := HK.out
        -- the first j of u0 change places with v0
        have hc := sSwapRange (p := p0) (x := u0.take j) (q := u0.drop j) (y := v0) (s := s0) (hS.eq (by rw [← List.append_assoc (u0.take j), List.take_append_drop])) (by simp; omega) n cap (m - i) m j (by rw [(HL.out).1]; have := congrArg List.length he; simp at this ⊢; omega) hn2 (by omega) (by simp; omega) (by simp; omega) fv
        rw [show ((m - i : Nat) : Int) = (m : Int) - (i : Int) by omega] at hc
        have HC := Lib.hid hc
        have HE := Lib.hid (And.intro hul (And.intro hvl (And.intro hpl he)))
        clear hS hul hvl hpl he hc
        go_wp2_with fail
        refine HC.out.mono ?_
        rintro e w1 ⟨rfl, h1⟩
        have H1 := Lib.hid h1
        clear h1
        go_wp2
        go_roundw
        case rel =>
          obtain ⟨hul, hvl, hpl, he⟩ := HE.out
          exact ⟨i - j, j, by go_num, rfl, by omega, hj, by omega, hjn, Lib.hid ⟨p0 ++ v0, u0.drop j, u0.take j, s0, H1.out.eq (by rw [List.append_assoc]), by simp; omega, by simp; omega, by simp; omega, by rw [← he, ← List.append_assoc (u0.take j), List.take_append_drop, List.append_assoc]⟩⟩
        case measure => simp [intOf]; omega
      · have hlt : i < j := by omega
        obtain ⟨p0, u0, v0, s0, hS, hul, hvl, hpl, he⟩ := HK.out
        -- u0 changes places with the last i of v0
        have hc := sSwapRange (p := p0) (x := u0) (q := v0.take (j - i)) (y := v0.drop (j - i)) (s := s0) (hS.eq (by rw [← List.append_assoc (v0.take (j - i)), List.take_append_drop])) (by simp; omega) n cap (m - i) (m + j - i) i (by rw [(HL.out).1]; have := congrArg List.length he; simp at this ⊢; omega) hn2 (by omega) (by simp; omega) (by omega) fv
        rw [show ((m - i : Nat) : Int) = (m : Int) - (i : Int) by omega, show ((m + j - i : Nat) : Int) = (m : Int) + (j : Int) - (i : Int) by omega] at hc
        have HC := Lib.hid hc
        have HE := Lib.hid (And.intro hul (And.intro hvl (And.intro hpl he)))
        clear hS hul hvl hpl he hc
        go_wp2_with fail
        refine HC.out.mono ?_
        rintro e w1 ⟨rfl, h1⟩
        have H1 := Lib.hid h1
        clear h1
        go_wp2
        go_roundw
        case rel =>
          obtain ⟨hul, hvl, hpl, he⟩ := HE.out
          exact ⟨i, j - i, rfl, by go_num, hi, by omega, him, by omega, Lib.hid ⟨p0, v0.drop (j - i), v0.take (j - i), u0 ++ s0, H1.out, by simp; omega, by simp; omega, by omega, by rw [← he, ← List.append_assoc (v0.take (j - i)), List.take_append_drop]⟩⟩
        case measure => simp [intOf]; omega
end Go.Proofs.YtieapjdkbigejaaDoor
