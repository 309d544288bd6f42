/- Plain Lean and walks: the form of dates (layer 12). -/
import Derived.Test.YtbolkkpgahoeaaaDoorHpn
import Derived.Test.YtbolkkpgahoeaaaDoorHpu
import Derived.Shelf.Strings.SlTrimAscii
namespace Go.Proofs.YtbolkkpgahoeaaaDoor
open Go Go.RowKit

def okAt (l : List UInt8) (i : Nat) : Bool := if i = 4 then l[i]? == some 45 else (l[i]?.map digitB).getD false
def goodTo (l : List UInt8) : Nat → Bool
  | 0 => true
  | k + 1 => goodTo l k && okAt l k
theorem goodTo_false {l : List UInt8} {k : Nat} (h : okAt l k = false) : ∀ n, k < n → goodTo l n = false
  | 0, hk => absurd hk (Nat.not_lt_zero _)
  | n + 1, hk => by
    unfold goodTo
    by_cases e : k = n
    · subst e; rw [h, Bool.and_false]
    · rw [goodTo_false h n (by omega)]; rfl
theorem dates_loop (l : List UInt8) : datesB l = ((l.length == 5 || l.length == 9) && goodTo l l.length) := by
  by_cases h5 : l.length = 5
  · match l, h5 with
    | [a, b, c, d, e], _ => simp [datesB, digits4, goodTo, okAt, Bool.and_assoc]
  · by_cases h9 : l.length = 9
    · match l, h9 with
      | [a, b, c, d, e, f, g, h, i], _ => simp [datesB, digits4, goodTo, okAt, Bool.and_assoc]
    · have hr : (l.length == 5 || l.length == 9) = false := by simp [h5, h9]
      rw [hr, Bool.false_and]
      unfold datesB digits4
      by_cases h4 : 4 < l.length
      · have h6 : (l.drop 5).isEmpty = false := by
          cases hd : l.drop 5 with
          | nil =>
            have := congrArg List.length hd
            rw [List.length_drop, List.length_nil] at this
            omega
          | cons a b => rfl
        have h7 : ((l.drop 5).length == 4) = false := by
          rw [List.length_drop]
          have : l.length - 5 ≠ 4 := by omega
          simpa using this
        rw [h6, h7]
        simp
      · have : (l[4]? == some 45) = false := by
          rw [List.getElem?_eq_none (by omega)]; rfl
        rw [this]; simp
theorem digit_set (b : UInt8) : ([48, 49, 50, 51, 52, 53, 54, 55, 56, 57] : List UInt8).contains b = digitB b := by
  have h : ∀ n : Fin 256, ([48, 49, 50, 51, 52, 53, 54, 55, 56, 57] : List UInt8).contains (UInt8.ofNat n.val) = digitB (UInt8.ofNat n.val) := by decide +kernel
  have h2 := h ⟨b.toNat, by have := b.toNat_lt; omega⟩
  simpa using h2
theorem dropWhile_nil {α : Type} (p : α → Bool) (l : List α) : (l.dropWhile p).isEmpty = l.all p := by
  induction l with
  | nil => rfl
  | cons a l ih =>
    rw [List.dropWhile_cons, List.all_cons]
    cases h : p a with
    | true => simpa using ih
    | false => simp
theorem trim_digits (l : List UInt8) : (Lib.trimS l [48, 49, 50, 51, 52, 53, 54, 55, 56, 57]).isEmpty = l.all digitB := by
  have hp : (fun b => ([48, 49, 50, 51, 52, 53, 54, 55, 56, 57] : List UInt8).contains b) = digitB := funext digit_set
  unfold Lib.trimS Lib.trimLeftS Lib.trimRightS
  rw [hp, dropWhile_nil]
  rw [Bool.eq_iff_iff]
  simp only [List.all_eq_true]
  constructor
  · intro h b hb
    by_cases hm : ∃ x ∈ l.reverse, digitB x = false
    · exfalso
      obtain ⟨x, hx, hxd⟩ := hm
      have hne : l.reverse.dropWhile digitB ≠ [] := by
        intro e
        have := dropWhile_nil digitB l.reverse
        rw [e] at this
        have h2 := List.all_eq_true.1 this.symm x hx
        rw [hxd] at h2; cases h2
      obtain ⟨y, t, hy⟩ := List.exists_cons_of_ne_nil hne
      have hyd : digitB y = false := by
        have := List.head_dropWhile_not digitB hne
        simpa [hy] using this
      have := h y (by rw [hy]; simp)
      rw [hyd] at this; cases this
    · cases hd : digitB b with
      | true => rfl
      | false => exact absurd ⟨b, List.mem_reverse.2 hb, hd⟩ hm
  · intro h b hb
    exact h b (List.mem_reverse.1 ((List.dropWhile_sublist _).subset (List.mem_reverse.1 hb)))

set_option maxRecDepth 100000 in
set_option maxHeartbeats 1000000 in
theorem pDigits (s : ByteArray) (w : World) (hs : s.size ≤ 4000000000) :
    Calls Tryd.prog 62 #[.string s] w fun e w' => e = .returned (.bool (digits4 s.data.toList)) ∧ Below w.heap.size w w' := by
  have ht : Calls Tryd.prog 74 #[.string s, .string ⟨#[48, 49, 50, 51, 52, 53, 54, 55, 56, 57]⟩] w fun e w' => e = .returned (.string ⟨(Lib.trimS s.data.toList [48, 49, 50, 51, 52, 53, 54, 55, 56, 57]).toArray⟩) ∧ Below w.heap.size w w' :=
    Any.strings_Trim_laid Tryd.lays160 (by kernel_rfl) s ⟨#[48, 49, 50, 51, 52, 53, 54, 55, 56, 57]⟩ w (by omega) (by decide) (ascii_of_all (by decide))
  have hq : (⟨(Lib.trimS s.data.toList [48, 49, 50, 51, 52, 53, 54, 55, 56, 57]).toArray⟩ : ByteArray).toList.isEmpty = s.data.toList.all digitB := by
    rw [ByteArray.toList_eq]
    exact trim_digits s.data.toList
  obtain ⟨T, hT⟩ : ∃ T : ByteArray, T = ⟨(Lib.trimS s.data.toList [48, 49, 50, 51, 52, 53, 54, 55, 56, 57]).toArray⟩ := ⟨_, rfl⟩
  rw [← hT] at ht hq
  have hl := len_data s
  by_cases h4 : s.size = 4
  · have hz : ((s.size : Nat) : Int) = 4 := by omega
    have hr : digits4 s.data.toList = s.data.toList.all digitB := by unfold digits4; rw [hl, h4]; simp
    rw [hr]
    obtain ⟨D, hD⟩ : ∃ D, D = s.data.toList.all digitB := ⟨_, rfl⟩
    rw [← hD] at hq ⊢
    have HT := Lib.hid ht
    have hb : (((s.size : Nat) : Int) == 4) = true := by simpa using hz
    clear ht hT hl h4 hr hD hz
    cases D
    all_goals
      go_enter Tryd.func62, Tryd.ntmps62
      go_wp2_with fail
      refine HT.out.mono ?_
      rintro e w1 ⟨rfl, b1⟩
      go_wp2
      go_ret
      exact ⟨rfl, b1⟩
  · have hr : digits4 s.data.toList = false := by unfold digits4; rw [hl]; simp [h4]
    rw [hr]
    have hb : (((s.size : Nat) : Int) == 4) = false := by
      have : ((s.size : Nat) : Int) ≠ 4 := by omega
      simpa using this
    clear ht hT hl h4 hr hq
    go_enter Tryd.func62, Tryd.ntmps62
    go_wp2
    go_ret
    exact ⟨rfl, Below.refl _ _⟩

set_option maxRecDepth 100000 in
set_option maxHeartbeats 1000000 in
theorem pDates (s : ByteArray) (w : World) (hE : Env w) (hs : s.size ≤ 4000000000) :
    Calls Tryd.prog 42 #[.string s] w fun e w' => e = .returned (.bool (datesB s.data.toList)) ∧ Below w.heap.size w w' := by
  obtain ⟨m, hm⟩ := hE.max
  have hc := Tryd.strings_Cut s ⟨#[45]⟩ m w (by omega) hm
  have hd : (⟨#[45]⟩ : ByteArray).data.toList = [45] := rfl
  rw [hd] at hc
  rw [dates_cut]
  have hl := len_data s
  have hz1 : (Lib.cut s.data.toList [45]).1.length ≤ s.size := by
    unfold Lib.cut
    split
    · rw [List.length_take]; omega
    · exact Nat.le_of_eq hl
  have hz2 : (Lib.cut s.data.toList [45]).2.1.length ≤ s.size := by
    unfold Lib.cut
    split
    · rw [List.length_drop]; omega
    · simp
  obtain ⟨A, hA⟩ : ∃ A : ByteArray, A = ⟨(Lib.cut s.data.toList [45]).1.toArray⟩ := ⟨_, rfl⟩
  obtain ⟨B, hB⟩ : ∃ B : ByteArray, B = ⟨(Lib.cut s.data.toList [45]).2.1.toArray⟩ := ⟨_, rfl⟩
  obtain ⟨is, hi⟩ : ∃ is, is = (Lib.cut s.data.toList [45]).2.2 := ⟨_, rfl⟩
  have hAd : (Lib.cut s.data.toList [45]).1 = A.data.toList := by rw [hA]
  have hBd : (Lib.cut s.data.toList [45]).2.1 = B.data.toList := by rw [hB]
  rw [← hA, ← hB, ← hi] at hc
  rw [← hi]
  rw [hAd, hBd]
  rw [hAd, len_data] at hz1
  rw [hBd, len_data] at hz2
  have hda := fun W => pDigits A W (by omega)
  have hdb := fun W => pDigits B W (by omega)
  have hbe : B.toList.isEmpty = B.data.toList.isEmpty := by rw [ByteArray.toList_eq]
  obtain ⟨da, h1⟩ : ∃ da, da = digits4 A.data.toList := ⟨_, rfl⟩
  obtain ⟨db, h2⟩ : ∃ db, db = digits4 B.data.toList := ⟨_, rfl⟩
  obtain ⟨be, h3⟩ : ∃ be, be = B.data.toList.isEmpty := ⟨_, rfl⟩
  rw [← h3] at hbe
  rw [← h1, ← h2, ← h3]
  simp only [← h1] at hda
  simp only [← h2] at hdb
  have HC := Lib.hid hc
  have HA := Lib.hid hda
  have HB := Lib.hid hdb
  clear hc hda hdb h1 h2 h3 hA hB hi hAd hBd hd hm hE hl hz1 hz2
  cases is with
  | false =>
    go_enter Tryd.func42, Tryd.ntmps42
    go_wp2_with fail
    refine HC.out.mono ?_
    rintro e w1 ⟨rfl, d1⟩
    have HB1 := Lib.hid (Dr.below (b := w1) d1 w.heap.size)
    clear d1
    go_wp2
    go_ret
    exact ⟨rfl, HB1.out⟩
  | true =>
    cases da with
    | false =>
      go_enter Tryd.func42, Tryd.ntmps42
      go_wp2_with fail
      refine HC.out.mono ?_
      rintro e w1 ⟨rfl, d1⟩
      have HB1 := Lib.hid (Dr.below (b := w1) d1 w.heap.size)
      clear d1
      go_wp2_with fail
      refine (HA.out w1).mono ?_
      rintro e w2 ⟨rfl, b2⟩
      have HB2 := Lib.hid (HB1.out.bt b2)
      clear b2
      go_wp2
      go_ret
      exact ⟨rfl, HB2.out⟩
    | true =>
      cases be with
      | true =>
        go_enter Tryd.func42, Tryd.ntmps42
        go_wp2_with fail
        refine HC.out.mono ?_
        rintro e w1 ⟨rfl, d1⟩
        have HB1 := Lib.hid (Dr.below (b := w1) d1 w.heap.size)
        clear d1
        go_wp2_with fail
        refine (HA.out w1).mono ?_
        rintro e w2 ⟨rfl, b2⟩
        have HB2 := Lib.hid (HB1.out.bt b2)
        clear b2
        go_wp2
        go_ret
        exact ⟨rfl, HB2.out⟩
      | false =>
        cases db
        all_goals
          go_enter Tryd.func42, Tryd.ntmps42
          go_wp2_with fail
          refine HC.out.mono ?_
          rintro e w1 ⟨rfl, d1⟩
          have HB1 := Lib.hid (Dr.below (b := w1) d1 w.heap.size)
          clear d1
          go_wp2_with fail
          refine (HA.out w1).mono ?_
          rintro e w2 ⟨rfl, b2⟩
          have HB2 := Lib.hid (HB1.out.bt b2)
          clear b2
          go_wp2_with fail
          refine (HB.out w2).mono ?_
          rintro e w3 ⟨rfl, b3⟩
          have HB3 := Lib.hid (HB2.out.bt b3)
          clear b3
          go_wp2
          go_ret
          exact ⟨rfl, HB3.out⟩

set_option maxRecDepth 100000 in
set_option maxHeartbeats 1000000 in
theorem rDates_at (s : ByteArray) (w : World) (R b5 b9 : Bool) (hs : s.size ≤ 4000000000) (h5 : (((s.size : Nat) : Int) == 5) = b5) (h9 : (((s.size : Nat) : Int) == 9) = b9) (hor : (b5 || b9) = true) (hR : R = goodTo s.data.toList s.size) :
    Calls Tryd.prog 43 #[.string s] w fun e w' => e = .returned (.bool R) ∧ w' = w := by
  have HR := Lib.hid hR
  clear hR
  have hcase : (b5 = true) ∨ (b5 = false ∧ b9 = true) := by cases b5 <;> simp_all
  clear hor
  rcases hcase with rfl | ⟨rfl, rfl⟩
  · have n5 : (((s.size : Nat) : Int) != 5) = false := by rw [bne, h5]; rfl
    clear h9 b9 h5
    go_enter Tryd.func43, Tryd.ntmps43
    go_wp2
    go_loop [3] (fun iv => ∃ k : Nat, iv = .int .i64 k ∧ k ≤ s.size ∧ Hid (goodTo s.data.toList k = true)) (fun iv => s.size - (intOf iv).toNat)
    case atStart => exact ⟨0, rfl, Nat.zero_le _, Lib.hid rfl⟩
    case round =>
      obtain ⟨k, rfl, hk, HK⟩ := hrel
      by_cases hlt : k < s.size
      · have hltz : (k : Int) < ((s.size : Nat) : Int) := by omega
        have hx : s.data.toList[k]? = some s[k] := by
          rw [List.getElem?_eq_getElem (by rw [len_data]; exact hlt)]; rfl
        have hok : okAt s.data.toList k = if k = 4 then decide ((s[k].toNat : Int) = 45) else decide ((48 : Int) ≤ (s[k].toNat : Int) ∧ (s[k].toNat : Int) ≤ 57) := by
          unfold okAt
          rw [hx]
          by_cases e : k = 4
          · rw [if_pos e, if_pos e, Bool.eq_iff_iff]
            simp only [beq_iff_eq, Option.some.injEq, decide_eq_true_eq]
            constructor
            · intro h; rw [h]; rfl
            · intro h
              have : s[k].toNat = 45 := by omega
              exact UInt8.toNat_inj.1 this
          · rw [if_neg e, if_neg e]
            simp only [Option.map_some, Option.getD_some, digitB]
            rw [Bool.eq_iff_iff]
            simp only [decide_eq_true_eq]
            omega
        have HF : Hid (okAt s.data.toList k = false → R = false) := Lib.hid (fun h => by rw [HR.out]; exact goodTo_false h _ hlt)
        have HT : Hid (okAt s.data.toList k = true → goodTo s.data.toList (k + 1) = true) := Lib.hid (fun h => by unfold goodTo; rw [HK.out, h]; rfl)
        clear hx
        by_cases e4 : k = 4
        · rw [if_pos e4] at hok
          have hb4 : (((k : Nat) : Int) == 4) = true := by
            have : ((k : Nat) : Int) = 4 := by omega
            simpa using this
          by_cases hb : (s[k].toNat : Int) = 45
          · have HT2 := Lib.hid (HT.out (by rw [hok]; exact decide_eq_true hb))
            clear hok HT HF e4
            go_wp2
            go_round
            case rel => exact ⟨k + 1, by go_num, by omega, HT2⟩
            case measure => simp [intOf]; omega
          · have HF2 := Lib.hid (HF.out (by rw [hok]; exact decide_eq_false hb))
            clear hok HT HF e4
            go_wp2
            go_ret
            exact ⟨by rw [HF2.out]; rfl, rfl⟩
        · rw [if_neg e4] at hok
          have hb4 : (((k : Nat) : Int) == 4) = false := by
            have : ((k : Nat) : Int) ≠ 4 := by omega
            simpa using this
          have nb4 : (((k : Nat) : Int) != 4) = true := by rw [bne, hb4]; rfl
          by_cases h48 : (48 : Int) ≤ (s[k].toNat : Int)
          · by_cases h57 : (s[k].toNat : Int) ≤ 57
            · have HT2 := Lib.hid (HT.out (by rw [hok]; exact decide_eq_true ⟨h48, h57⟩))
              clear hok HT HF e4
              go_wp2
              go_round
              case rel => exact ⟨k + 1, by go_num, by omega, HT2⟩
              case measure => simp [intOf]; omega
            · have HF2 := Lib.hid (HF.out (by rw [hok]; exact decide_eq_false (fun h => h57 h.2)))
              have h58 : (57 : Int) < (s[k].toNat : Int) := by omega
              clear hok HT HF e4 h57
              go_wp2
              go_ret
              exact ⟨by rw [HF2.out]; rfl, rfl⟩
          · have HF2 := Lib.hid (HF.out (by rw [hok]; exact decide_eq_false (fun h => h48 h.1)))
            have h47 : (s[k].toNat : Int) < 48 := by omega
            clear hok HT HF e4 h48
            go_wp2
            go_ret
            exact ⟨by rw [HF2.out]; rfl, rfl⟩
      · have hltz : ¬ (k : Int) < ((s.size : Nat) : Int) := by omega
        have HF : Hid (R = true) := Lib.hid (by rw [HR.out, ← HK.out, show k = s.size by omega])
        go_wp2
        go_ret
        exact ⟨by rw [HF.out]; rfl, rfl⟩
  · have n5 : (((s.size : Nat) : Int) != 5) = true := by rw [bne, h5]; rfl
    have n9 : (((s.size : Nat) : Int) != 9) = false := by rw [bne, h9]; rfl
    clear h5 h9
    go_enter Tryd.func43, Tryd.ntmps43
    go_wp2
    go_loop [3] (fun iv => ∃ k : Nat, iv = .int .i64 k ∧ k ≤ s.size ∧ Hid (goodTo s.data.toList k = true)) (fun iv => s.size - (intOf iv).toNat)
    case atStart => exact ⟨0, rfl, Nat.zero_le _, Lib.hid rfl⟩
    case round =>
      obtain ⟨k, rfl, hk, HK⟩ := hrel
      by_cases hlt : k < s.size
      · have hltz : (k : Int) < ((s.size : Nat) : Int) := by omega
        have hx : s.data.toList[k]? = some s[k] := by
          rw [List.getElem?_eq_getElem (by rw [len_data]; exact hlt)]; rfl
        have hok : okAt s.data.toList k = if k = 4 then decide ((s[k].toNat : Int) = 45) else decide ((48 : Int) ≤ (s[k].toNat : Int) ∧ (s[k].toNat : Int) ≤ 57) := by
          unfold okAt
          rw [hx]
          by_cases e : k = 4
          · rw [if_pos e, if_pos e, Bool.eq_iff_iff]
            simp only [beq_iff_eq, Option.some.injEq, decide_eq_true_eq]
            constructor
            · intro h; rw [h]; rfl
            · intro h
              have : s[k].toNat = 45 := by omega
              exact UInt8.toNat_inj.1 this
          · rw [if_neg e, if_neg e]
            simp only [Option.map_some, Option.getD_some, digitB]
            rw [Bool.eq_iff_iff]
            simp only [decide_eq_true_eq]
            omega
        have HF : Hid (okAt s.data.toList k = false → R = false) := Lib.hid (fun h => by rw [HR.out]; exact goodTo_false h _ hlt)
        have HT : Hid (okAt s.data.toList k = true → goodTo s.data.toList (k + 1) = true) := Lib.hid (fun h => by unfold goodTo; rw [HK.out, h]; rfl)
        clear hx
        by_cases e4 : k = 4
        · rw [if_pos e4] at hok
          have hb4 : (((k : Nat) : Int) == 4) = true := by
            have : ((k : Nat) : Int) = 4 := by omega
            simpa using this
          by_cases hb : (s[k].toNat : Int) = 45
          · have HT2 := Lib.hid (HT.out (by rw [hok]; exact decide_eq_true hb))
            clear hok HT HF e4
            go_wp2
            go_round
            case rel => exact ⟨k + 1, by go_num, by omega, HT2⟩
            case measure => simp [intOf]; omega
          · have HF2 := Lib.hid (HF.out (by rw [hok]; exact decide_eq_false hb))
            clear hok HT HF e4
            go_wp2
            go_ret
            exact ⟨by rw [HF2.out]; rfl, rfl⟩
        · rw [if_neg e4] at hok
          have hb4 : (((k : Nat) : Int) == 4) = false := by
            have : ((k : Nat) : Int) ≠ 4 := by omega
            simpa using this
          have nb4 : (((k : Nat) : Int) != 4) = true := by rw [bne, hb4]; rfl
          by_cases h48 : (48 : Int) ≤ (s[k].toNat : Int)
          · by_cases h57 : (s[k].toNat : Int) ≤ 57
            · have HT2 := Lib.hid (HT.out (by rw [hok]; exact decide_eq_true ⟨h48, h57⟩))
              clear hok HT HF e4
              go_wp2
              go_round
              case rel => exact ⟨k + 1, by go_num, by omega, HT2⟩
              case measure => simp [intOf]; omega
            · have HF2 := Lib.hid (HF.out (by rw [hok]; exact decide_eq_false (fun h => h57 h.2)))
              have h58 : (57 : Int) < (s[k].toNat : Int) := by omega
              clear hok HT HF e4 h57
              go_wp2
              go_ret
              exact ⟨by rw [HF2.out]; rfl, rfl⟩
          · have HF2 := Lib.hid (HF.out (by rw [hok]; exact decide_eq_false (fun h => h48 h.1)))
            have h47 : (s[k].toNat : Int) < 48 := by omega
            clear hok HT HF e4 h48
            go_wp2
            go_ret
            exact ⟨by rw [HF2.out]; rfl, rfl⟩
      · have hltz : ¬ (k : Int) < ((s.size : Nat) : Int) := by omega
        have HF : Hid (R = true) := Lib.hid (by rw [HR.out, ← HK.out, show k = s.size by omega])
        go_wp2
        go_ret
        exact ⟨by rw [HF.out]; rfl, rfl⟩
theorem rDates (s : ByteArray) (w : World) (hs : s.size ≤ 4000000000) :
    Calls Tryd.prog 43 #[.string s] w fun e w' => e = .returned (.bool (datesB s.data.toList)) ∧ w' = w := by
  by_cases h59 : (s.size == 5 || s.size == 9) = true
  · refine rDates_at s w _ _ _ hs rfl rfl ?_ ?_
    · simp only [Bool.or_eq_true, beq_iff_eq] at h59 ⊢
      omega
    · rw [dates_loop, len_data, h59]; rfl
  · have hr : datesB s.data.toList = false := by rw [dates_loop, len_data]; simp [h59]
    simp only [Bool.or_eq_true, beq_iff_eq, not_or] at h59
    have h5 : ((s.size : Nat) : Int) ≠ 5 := by omega
    have h9 : ((s.size : Nat) : Int) ≠ 9 := by omega
    have hb5 : (((s.size : Nat) : Int) != 5) = true := by simpa using h5
    have hb9 : (((s.size : Nat) : Int) != 9) = true := by simpa using h9
    rw [hr]
    clear hr h59 h5 h9
    go_enter Tryd.func43, Tryd.ntmps43
    go_wp2
    go_ret
    exact ⟨rfl, rfl⟩
end Go.Proofs.YtbolkkpgahoeaaaDoor
