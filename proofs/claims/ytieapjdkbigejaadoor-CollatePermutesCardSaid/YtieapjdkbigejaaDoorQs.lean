/- Sorting (layer 2): the walk of swapRange. -/
import Derived.Test.YtieapjdkbigejaaDoorQa
import Derived.BigRegion
namespace Go.Proofs.YtieapjdkbigejaaDoor
open Go Go.RowKit

set_option maxRecDepth 100000 in
set_option maxHeartbeats 4000000 in
theorem sSwapRange {w0 w : World} {blk cl : Nat} {lang : ByteArray} {p x q y s : List (List Nat)} (h : SInv w0 blk cl lang w (p ++ (x ++ (q ++ (y ++ s))))) (hxy : x.length = y.length)
    (n cap a b c : Nat) (hn : n = (p ++ (x ++ (q ++ (y ++ s)))).length) (hn2 : n ≤ 1000) (ha : a = p.length) (hb : b = a + x.length + q.length) (hc : c = x.length) (fv : Value) :
    Calls Tryd.prog 87 #[.slice (some ⟨blk, 0, none⟩) n cap, .int .i64 a, .int .i64 b, .int .i64 c, fv] w fun e w' => e = .returned (.tuple #[]) ∧ SInv w0 blk cl lang w' (p ++ (y ++ (q ++ (x ++ s)))) := by
  have hlen : n = a + c + q.length + c + s.length := by rw [hn]; simp; omega
  have hb2 : a + c ≤ b ∧ b ≤ a + c + q.length ∧ a + c + q.length ≤ b ∧ b + c ≤ n := by omega
  have HI : Hid (SInv w0 blk cl lang w (p ++ (x ++ (q ++ (y ++ s))))) := Lib.hid h
  have HL := Lib.hid (And.intro hxy (And.intro ha (And.intro hb hc)))
  clear h hxy ha hb hc hn hlen
  go_enter Tryd.func87, Tryd.ntmps87
  go_wp2
  go_loopw [10] (fun i wr => ∃ k : Nat, i = .int .i64 k ∧ k ≤ c ∧ Hid (SInv w0 blk cl lang wr (p ++ (y.take k ++ (x.drop k ++ (q ++ (x.take k ++ (y.drop k ++ s)))))))) (fun i _ => c - (intOf i).toNat)
  case atStart => exact ⟨0, rfl, by omega, by simpa using HI⟩
  case round =>
    obtain ⟨k, rfl, hk, HK⟩ := hrel
    by_cases hlt : k < c
    · have hltz : (k : Int) < (c : Int) := by omega
      obtain ⟨hxy, ha, hb, hc⟩ := HL.out
      obtain ⟨xk, hxk⟩ : ∃ v, x[k]? = some v := ⟨_, List.getElem?_eq_getElem (by omega)⟩
      obtain ⟨yk, hyk⟩ : ∃ v, y[k]? = some v := ⟨_, List.getElem?_eq_getElem (by omega)⟩
      have dx : x.drop k = xk :: x.drop (k + 1) := by obtain ⟨h', rfl⟩ := List.getElem?_eq_some_iff.1 hxk; exact List.drop_eq_getElem_cons h'
      have dy : y.drop k = yk :: y.drop (k + 1) := by obtain ⟨h', rfl⟩ := List.getElem?_eq_some_iff.1 hyk; exact List.drop_eq_getElem_cons h'
      have tx : x.take (k + 1) = x.take k ++ [xk] := by rw [List.take_add_one, hxk]; rfl
      have ty : y.take (k + 1) = y.take k ++ [yk] := by rw [List.take_add_one, hyk]; rfl
      have e1 : p ++ (y.take k ++ (x.drop k ++ (q ++ (x.take k ++ (y.drop k ++ s))))) = (p ++ y.take k) ++ xk :: ((x.drop (k + 1) ++ (q ++ x.take k)) ++ yk :: (y.drop (k + 1) ++ s)) := by rw [dx, dy]; simp
      have e2 : (p ++ y.take k) ++ yk :: ((x.drop (k + 1) ++ (q ++ x.take k)) ++ xk :: (y.drop (k + 1) ++ s)) = p ++ (y.take (k + 1) ++ (x.drop (k + 1) ++ (q ++ (x.take (k + 1) ++ (y.drop (k + 1) ++ s))))) := by rw [tx, ty]; simp
      have i1 : a + k = (p ++ y.take k).length := by simp; omega
      have i2 : b + k = (p ++ y.take k).length + 1 + (x.drop (k + 1) ++ (q ++ x.take k)).length := by simp; omega
      have hS := HK.out.eq e1
      obtain ⟨c1, f1⟩ := hS.at rfl i1
      obtain ⟨c2, f2⟩ := hS.at (A := (p ++ y.take k) ++ xk :: (x.drop (k + 1) ++ (q ++ x.take k))) (x := yk) (C := y.drop (k + 1) ++ s) (by simp) (i := b + k) (by rw [i2]; simp; omega)
      have HS := Lib.hid (And.intro hS (And.intro e2 (And.intro i1 i2)))
      clear hxy ha hb hc hxk hyk dx dy tx ty e1 e2 i1 i2 hS
      go_wp2_with fail
      go_region
      all_goals go_wp2
      go_roundw
      case rel => exact ⟨k + 1, by go_num, by omega, Lib.hid (((HS.out.1.swap HS.out.2.2.1 HS.out.2.2.2).drew).eq HS.out.2.1)⟩
      case measure => simp [intOf]; omega
    · have hltz : ¬ (k : Int) < (c : Int) := by omega
      have hkc : k = c := by omega
      have HE : Hid (SInv w0 blk cl lang wr (p ++ (y ++ (q ++ (x ++ s))))) := Lib.hid (HK.out.eq (by
        obtain ⟨hxy, ha, hb, hc⟩ := HL.out
        rw [hkc, List.take_of_length_le (by omega), List.drop_eq_nil_of_le (by omega), List.take_of_length_le (by omega), List.drop_eq_nil_of_le (by omega)]; simp))
      clear HK hkc
      go_wp2
      go_end0
      exact ⟨rfl, HE.out⟩
end Go.Proofs.YtieapjdkbigejaaDoor
