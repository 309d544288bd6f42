/- The walk of the reference's Small (layer 2). -/
import Derived.Test.YtieapjdkbigejaaDoorKrs
import Derived.Test.YtieapjdkbigejaaDoorRvl
namespace Go.Proofs.YtieapjdkbigejaaDoor
open Go Go.RowKit

def smalls (xs : List ByteArray) : Bool := xs.all fun x => decide (x.size ≤ 300) && isText x.data.toList
set_option maxRecDepth 100000 in
set_option maxHeartbeats 2000000 in
theorem rSmall (v : Value) (xs : List ByteArray) (w : World) (hv : Strs w v xs) (hn : xs.length ≤ 9223372036854775807) (hx : ∀ x ∈ xs, x.size ≤ 9223372036854775807) :
    Calls Tryd.prog 11 #[v] w fun e w' => e = .returned (.bool (decide (xs.length ≤ 40) && smalls xs)) ∧ Dr w w' := by
  obtain ⟨p, c, rfl, hc, hcells⟩ := hv
  obtain ⟨A, hA⟩ : ∃ A, A = smalls xs := ⟨_, rfl⟩
  rw [← hA]
  obtain ⟨n, hnn⟩ : ∃ n, n = xs.length := ⟨_, rfl⟩
  rw [← hnn] at hn hc ⊢
  have HA := Lib.hid hA
  have HN := Lib.hid hnn
  have HX := Lib.hid hx
  have HC := Lib.hid hcells
  clear hA hnn hx hcells
  by_cases h40 : 40 < n
  · rw [decide_eq_false (by omega)]
    go_enter Tryd.func11, Tryd.ntmps11
    go_wp2
    go_ret
    exact ⟨rfl, Dr.refl _⟩
  · rw [decide_eq_true (by omega)]
    go_enter Tryd.func11, Tryd.ntmps11
    go_wp2
    go_loopw [3] (fun i wr => ∃ k : Nat, i = .int .i64 k ∧ k ≤ n ∧ Hid (A = smalls (xs.drop k)) ∧ Dr w wr) (fun i _ => n - (intOf i).toNat)
    case atStart => exact ⟨0, rfl, by omega, HA, Dr.refl _⟩
    case round =>
      obtain ⟨k, rfl, hk, HK, hd⟩ := hrel
      by_cases hlt : k < n
      · obtain ⟨x, hx⟩ : ∃ x, xs[k]? = some x := ⟨_, List.getElem?_eq_getElem (by have := HN.out; omega)⟩
        rcases HC.out with h0 | ⟨b, o, rfl, hblt, hcells⟩
        · rw [h0] at hx; cases hx
        have hcell : wr.cell? ⟨b, o + k, none⟩ = some (.string x) := ((hd.below w.heap.size).cell (p := ⟨b, o + k, none⟩) hblt).trans (hcells k x hx)
        have hxs := HX.out x (List.mem_of_getElem? hx)
        have hdr : xs.drop k = x :: xs.drop (k + 1) := by
          obtain ⟨h', rfl⟩ := List.getElem?_eq_some_iff.1 hx
          exact List.drop_eq_getElem_cons h'
        have hcell0 : k = 0 → wr.cell? ⟨b, o, none⟩ = some (.string x) := fun h => by subst h; simpa using hcell
        have hst : smalls (xs.drop k) = ((decide (x.size ≤ 300) && isText x.data.toList) && smalls (xs.drop (k + 1))) := by rw [hdr]; rfl
        clear hcells hx hdr
        by_cases hsz : 300 < x.size
        · have HT : Hid (A = false) := Lib.hid (by rw [HK.out, hst, decide_eq_false (by omega)]; rfl)
          clear hst HK HA
          go_wp2
          go_ret
          exact ⟨by rw [HT.out]; rfl, hd⟩
        · have hs2 : x.size ≤ 300 := by omega
          rw [decide_eq_true hs2, Bool.true_and] at hst
          cases ht : isText x.data.toList with
          | true =>
            rw [ht, Bool.true_and] at hst
            have HT : Hid (A = smalls (xs.drop (k + 1))) := Lib.hid (by rw [HK.out, hst])
            have HV := Lib.hid ht
            clear hst HK HA ht
            go_wp2_with (go_at_call 26; refine (rValid x _ (by omega)).mono ?_; rw [HV.out]; rintro e w2 ⟨rfl, d2⟩)
            go_roundw
            case rel => exact ⟨k + 1, by go_num, by omega, HT, hd.trans d2⟩
            case measure => simp [intOf]; omega
          | false =>
            rw [ht, Bool.false_and] at hst
            have HT : Hid (A = false) := Lib.hid (by rw [HK.out, hst])
            have HV := Lib.hid ht
            clear hst HK HA ht
            go_wp2_with (go_at_call 26; refine (rValid x _ (by omega)).mono ?_; rw [HV.out]; rintro e w2 ⟨rfl, d2⟩)
            go_ret
            exact ⟨by rw [HT.out]; rfl, hd.trans d2⟩
      · have HT : Hid (A = true) := by
          refine Lib.hid (HK.out.trans ?_)
          rw [List.drop_eq_nil_of_le (by have := HN.out; omega)]
          rfl
        clear HK HA
        go_wp2
        go_ret
        exact ⟨by rw [HT.out]; rfl, hd⟩
/-- A text among the small strings. -/
theorem small_text {x : ByteArray} (h : (decide (x.size ≤ 300) && isText x.data.toList) = true) : ∃ cs, okt cs = true ∧ x = bs cs ∧ (bs cs).size ≤ 300 := by
  simp only [Bool.and_eq_true, decide_eq_true_eq] at h
  obtain ⟨cs, hok, rfl⟩ := text_bs x h.2
  exact ⟨cs, hok, rfl, h.1⟩
end Go.Proofs.YtieapjdkbigejaaDoor
