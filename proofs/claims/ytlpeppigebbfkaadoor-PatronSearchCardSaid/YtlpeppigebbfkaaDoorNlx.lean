/- The walks of the statements PatronSearch, PatronAdds, PatronReplaces (layer 28): each returns true, and what was there before stays. -/
import Derived.Test.YtlpeppigebbfkaaDoorNlw
import Derived.Test.YtlpeppigebbfkaaDoorNrn
namespace Go.Proofs.YtlpeppigebbfkaaDoor
open Go Go.RowKit

set_option maxRecDepth 100000 in
set_option maxHeartbeats 2000000 in
theorem law_PatronSearch (v : Value) (l : List Pat) (s : ByteArray) (w : World) (hE : Env w) (hv : Pats w v l) (hl : l.length ≤ maxLen) (_ : ∀ p ∈ l, p.fits) (hs : s.size ≤ 9223372036854775807) :
    Calls Tryd.prog 6 #[v, .string s] w fun e w' => e = .returned (.bool true) ∧ Below w.heap.size w w' := by
  obtain ⟨F, hF⟩ := form_dec
  obtain ⟨G, hG⟩ := words_dec
  have HAL := Lib.hid (alive_any w hE)
  have hva := fun W (hW : Below w.heap.size w W) => lvalid hF v l W (hv.below hW (Nat.le_refl _)) (by unfold maxLen at hl; omega)
  have HVL := Lib.hid (fun W (hW : Below w.heap.size w W) => hv.below hW (Nat.le_refl _))
  have HE := Lib.hid (fun W (hW : Below w.heap.size w W) => hE.below hW)
  cases h : ((decide (l.length ≤ 60) && smallP l) && decide (right F l = 0)) with
  | false =>
    rw [h] at hva
    have HVA := Lib.hid hva
    clear hva h hv hE hl hF hG
    go_enter Tryd.func6, Tryd.ntmps6
    go_wp2_with fail
    refine HAL.out.mono ?_
    rintro e w1 ⟨rfl, b1⟩
    have HB1 := Lib.hid b1
    clear b1
    go_wp2_with fail
    refine (HVA.out w1 HB1.out).mono ?_
    rintro e w2 ⟨rfl, b2⟩
    have HB2 := Lib.hid (HB1.out.bt b2)
    clear b2
    go_wp2
    go_ret
    exact ⟨rfl, HB2.out⟩
  | true =>
    rw [h] at hva
    have HVA := Lib.hid hva
    simp only [Bool.and_eq_true, decide_eq_true_eq] at h
    obtain ⟨⟨h60, hsm⟩, hr⟩ := h
    have hnm := names_of hF hr
    by_cases hs1 : s.size ≤ 1000
    · cases ht : isText s.data.toList with
      | true =>
        obtain ⟨cs, hok, rfl⟩ := text_bs s ht
        have HP := Lib.hid (fun W (hW : Below w.heap.size w W) => pSearch hG v l cs W (hE.below hW) (hv.below hW (Nat.le_refl _)) (by omega) hnm hok hs1)
        have HR := Lib.hid (fun W (hW : Below w.heap.size w W) => rSearch hG v l cs W (hv.below hW (Nat.le_refl _)) (by omega) hnm hok hs1)
        have hval := fun W => rValid_true cs W hok (by omega)
        have hlen := search_len G ((words cs).map bs) l
        obtain ⟨X, hX⟩ : ∃ X, X = searchL G ((words cs).map bs) l := ⟨_, rfl⟩
        rw [← hX] at hlen
        have HX := Lib.hid (show X.length ≤ 1000000 by omega)
        have HP2 : Hid (∀ W (_ : Below w.heap.size w W), Calls Tryd.prog 22 #[v, .string (bs cs)] W (RetInts W X)) := Lib.hid (by rw [hX]; exact HP.out)
        have HR2 : Hid (∀ W (_ : Below w.heap.size w W), Calls Tryd.prog 23 #[v, .string (bs cs)] W (RetInts W X)) := Lib.hid (by rw [hX]; exact HR.out)
        have HVT := Lib.hid hval
        obtain ⟨S, hS⟩ : ∃ S, S = bs cs := ⟨_, rfl⟩
        rw [← hS] at HP2 HR2 HVT hs1 ⊢
        have hsz : ((S.size : Nat) : Int) ≤ 1000 := by omega
        clear hva hv hE hl hF hG hX hlen HP HR hval h60 hsm hr hnm ht hok hs hS
        go_enter Tryd.func6, Tryd.ntmps6
        go_wp2_with fail
        refine HAL.out.mono ?_
        rintro e w1 ⟨rfl, b1⟩
        have HB1 := Lib.hid b1
        clear b1
        go_wp2_with fail
        refine (HVA.out w1 HB1.out).mono ?_
        rintro e w2 ⟨rfl, b2⟩
        have HB2 := Lib.hid (HB1.out.bt b2)
        clear b2
        go_wp2_with fail
        refine (HVT.out w2).mono ?_
        rintro e w3 ⟨rfl, d3⟩
        have HB3 := Lib.hid (HB2.out.bt (d3.below _))
        clear d3
        go_wp2_with fail
        refine (HP2.out w3 HB3.out).mono ?_
        rintro e w4 ⟨v4, rfl, i4, b4⟩
        have HI4 := Lib.hid i4
        have HB4 := Lib.hid (HB3.out.bt b4)
        clear i4 b4
        go_wp2_with fail
        refine (HR2.out w4 HB4.out).mono ?_
        rintro e w5 ⟨v5, rfl, i5, b5⟩
        have HJ4 := Lib.hid (HI4.out.below b5 (Nat.le_refl _))
        have HI5 := Lib.hid i5
        have HB5 := Lib.hid (HB4.out.bt b5)
        clear i5 b5
        go_wp2_with fail
        refine (rSameInts v4 v5 X w5 HJ4.out HI5.out HX.out).mono ?_
        rintro e w6 ⟨rfl, d6⟩
        have HB6 := Lib.hid (HB5.out.bt (d6.below _))
        clear d6
        go_wp2
        go_ret
        exact ⟨rfl, HB6.out⟩
      | false =>
        have HVT := Lib.hid (fun W => rValid_false s W ht (by omega))
        have hsz : ((s.size : Nat) : Int) ≤ 1000 := by omega
        clear hva hv hE hl hF hG h60 hsm hr hnm ht hs
        go_enter Tryd.func6, Tryd.ntmps6
        go_wp2_with fail
        refine HAL.out.mono ?_
        rintro e w1 ⟨rfl, b1⟩
        have HB1 := Lib.hid b1
        clear b1
        go_wp2_with fail
        refine (HVA.out w1 HB1.out).mono ?_
        rintro e w2 ⟨rfl, b2⟩
        have HB2 := Lib.hid (HB1.out.bt b2)
        clear b2
        go_wp2_with fail
        refine (HVT.out w2).mono ?_
        rintro e w3 ⟨rfl, d3⟩
        have HB3 := Lib.hid (HB2.out.bt (d3.below _))
        clear d3
        go_wp2
        go_ret
        exact ⟨rfl, HB3.out⟩
    · have hsz : (1000 : Int) < ((s.size : Nat) : Int) := by omega
      clear hva hv hE hl hF hG h60 hsm hr hnm hs hs1
      go_enter Tryd.func6, Tryd.ntmps6
      go_wp2_with fail
      refine HAL.out.mono ?_
      rintro e w1 ⟨rfl, b1⟩
      have HB1 := Lib.hid b1
      clear b1
      go_wp2_with fail
      refine (HVA.out w1 HB1.out).mono ?_
      rintro e w2 ⟨rfl, b2⟩
      have HB2 := Lib.hid (HB1.out.bt b2)
      clear b2
      go_wp2
      go_ret
      exact ⟨rfl, HB2.out⟩
end Go.Proofs.YtlpeppigebbfkaaDoor
