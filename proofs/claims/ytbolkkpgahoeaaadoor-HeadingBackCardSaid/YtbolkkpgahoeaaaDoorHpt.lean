/- The walks of part and Plain: may a text be a part? (layer 12). -/
import Derived.Test.YtbolkkpgahoeaaaDoorHpo
import Derived.Test.YtbolkkpgahoeaaaDoorHpq
import Derived.Test.YtbolkkpgahoeaaaDoorPvl
import Derived.Test.YtbolkkpgahoeaaaDoorRvl
namespace Go.Proofs.YtbolkkpgahoeaaaDoor
open Go Go.RowKit

/-- What the tests of a part see: no mark inside, no dash at the ends. -/
def noMark (p : List Nat) : Bool := decide ((split mark p).length ≤ 1)
theorem plainP_eq {p : List Nat} (hne : p ≠ []) : plainP p = (decide (clean p = p) && noMark p && !(p.head? == some 45) && !(p.getLast? == some 45)) := by
  unfold plainP noMark
  cases p with
  | nil => exact absurd rfl hne
  | cons a b => simp
theorem part_text {P : ByteArray → Bool} (hP : ∀ s, P s = true ↔ ∃ cs, okt cs = true ∧ s = bs cs ∧ plainP cs = true) (cs : List Nat) (hok : okt cs = true) : P (bs cs) = plainP cs := by
  rw [Bool.eq_iff_iff, hP]
  constructor
  · rintro ⟨ds, hd, e, h⟩
    rw [bs_inj _ _ hok hd e]; exact h
  · intro h; exact ⟨cs, hok, rfl, h⟩
theorem part_bad {P : ByteArray → Bool} (hP : ∀ s, P s = true ↔ ∃ cs, okt cs = true ∧ s = bs cs ∧ plainP cs = true) (s : ByteArray) (h : isText s.data.toList = false) : P s = false := by
  cases hf : P s with
  | false => rfl
  | true =>
    obtain ⟨cs, hok, rfl, -⟩ := (hP s).1 hf
    rw [isText_bs cs hok] at h
    cases h
theorem contains_mark (cs : List Nat) (hok : okt cs = true) : Lib.contains (enc cs) [45, 45] = !noMark cs := by
  have h1 := split_contains (sep := [45, 45]) (by simp) (enc cs)
  have h2 : (enc mark : List UInt8) = [45, 45] := by decide
  have h3 := split_enc mark_ne mark_ascii cs hok
  rw [h2] at h3
  rw [h3, List.length_map] at h1
  unfold noMark
  rw [h1, Bool.not_not]
theorem prefix_dash (cs : List Nat) (hok : okt cs = true) : Lib.hasPrefix (enc cs) [45] = (cs.head? == some 45) := by
  rw [← enc_head cs hok]
  unfold Lib.hasPrefix
  cases enc cs with
  | nil => rfl
  | cons b t =>
    simp only [List.isPrefixOf, Bool.and_true, List.head?_cons]
    rw [Bool.eq_iff_iff]
    simp only [beq_iff_eq, Option.some.injEq]
    exact eq_comm
theorem suffix_dash (cs : List Nat) (hok : okt cs = true) : Lib.hasSuffix (enc cs) [45] = (cs.getLast? == some 45) := by
  rw [← enc_last cs hok]
  unfold Lib.hasSuffix List.isSuffixOf
  rw [List.getLast?_eq_head?_reverse]
  cases (enc cs).reverse with
  | nil => rfl
  | cons b t =>
    simp only [List.reverse_singleton, List.isPrefixOf, Bool.and_true, List.head?_cons]
    rw [Bool.eq_iff_iff]
    simp only [beq_iff_eq, Option.some.injEq]
    exact eq_comm

set_option maxRecDepth 100000 in
set_option maxHeartbeats 1000000 in
theorem pPart {P : ByteArray → Bool} (hP : ∀ s, P s = true ↔ ∃ cs, okt cs = true ∧ s = bs cs ∧ plainP cs = true) (s : ByteArray) (w : World) (hE : Env w) (hs : s.size ≤ 4000000000) :
    Calls Tryd.prog 38 #[.string s] w fun e w' => e = .returned (.int .i64 (if s.size = 0 then 8 else if P s = false then 3 else 0)) ∧ Below w.heap.size w w' := by
  obtain ⟨R, hR⟩ : ∃ R : Int, R = if s.size = 0 then 8 else if P s = false then 3 else 0 := ⟨_, rfl⟩
  rw [← hR]
  cases he : s.toList.isEmpty with
  | true =>
    have h0 : s.size = 0 := by
      rw [ByteArray.toList_eq] at he
      have := len_data s
      rw [List.isEmpty_iff.1 he] at this
      exact this.symm
    rw [if_pos h0] at hR
    have HR := Lib.hid hR
    clear hR h0
    go_enter Tryd.func38, Tryd.ntmps38
    go_wp2
    go_ret
    exact ⟨by rw [HR.out]; rfl, Below.refl _ _⟩
  | false =>
    have h0 : ¬ s.size = 0 := by
      intro h
      have := len_data s
      rw [h] at this
      rw [ByteArray.toList_eq, List.eq_nil_of_length_eq_zero this] at he
      cases he
    rw [if_neg h0] at hR
    cases ht : isText s.data.toList with
    | false =>
      rw [part_bad hP s ht, if_pos rfl] at hR
      have HR := Lib.hid hR
      have HV := Lib.hid (pValid_false s w hE ht hs)
      clear hR h0 ht hE
      go_enter Tryd.func38, Tryd.ntmps38
      go_wp2_with fail
      refine HV.out.mono ?_
      rintro e w1 ⟨rfl, b1⟩
      have HB1 := Lib.hid b1
      clear b1
      go_wp2
      go_ret
      exact ⟨by rw [HR.out]; rfl, HB1.out⟩
    | true =>
      obtain ⟨cs, hok, rfl⟩ := text_bs s ht
      have hne : cs ≠ [] := bs_full he
      rw [part_text hP cs hok, plainP_eq hne] at hR
      have HV := Lib.hid (pValid_true cs w hE hok hs)
      have HCN := Lib.hid (fun W => pClean cs W hok hs)
      have hq := bytes_eq (clean_okt cs hok) hok
      obtain ⟨m, hm⟩ := hE.max
      have hml := lt_of_cell hm
      have hco := fun W (hW : Below w.heap.size w W) => Tryd.strings_Contains (bs cs) ⟨#[45, 45]⟩ m W (by omega) ((hW.cell (p := ⟨_, 0, none⟩) hml).trans hm)
      simp only [bs_data, contains_mark cs hok] at hco
      have hpf := fun W => Tryd.strings_HasPrefix (bs cs) ⟨#[45]⟩ W
      simp only [bs_data, prefix_dash cs hok] at hpf
      have hsf := fun W => Tryd.strings_HasSuffix (bs cs) ⟨#[45]⟩ W (by omega)
      simp only [bs_data, suffix_dash cs hok] at hsf
      obtain ⟨c1, h1⟩ : ∃ c1, c1 = decide (clean cs = cs) := ⟨_, rfl⟩
      obtain ⟨c2, h2⟩ : ∃ c2, c2 = noMark cs := ⟨_, rfl⟩
      obtain ⟨c3, h3⟩ : ∃ c3, c3 = (cs.head? == some 45) := ⟨_, rfl⟩
      obtain ⟨c4, h4⟩ : ∃ c4, c4 = (cs.getLast? == some 45) := ⟨_, rfl⟩
      obtain ⟨C, hC⟩ : ∃ C, C = bs (clean cs) := ⟨_, rfl⟩
      obtain ⟨S, hS⟩ : ∃ S, S = bs cs := ⟨_, rfl⟩
      rw [← hC] at hq
      rw [← h1] at hq hR
      rw [← h2] at hR
      rw [← h3] at hR
      rw [← h4] at hR
      simp only [← h2] at hco
      simp only [← h3] at hpf
      simp only [← h4] at hsf
      have HCN2 : Hid (∀ W, Calls Tryd.prog 31 #[.string S] W fun e w' => e = .returned (.string C) ∧ Below W.heap.size W w') := Lib.hid (by rw [hC, hS]; exact HCN.out)
      rw [← hS] at hq hco hpf hsf HV he ⊢
      have HCO := Lib.hid hco
      have HPF := Lib.hid hpf
      have HSF := Lib.hid hsf
      have HR := Lib.hid hR
      clear hR hco hpf hsf h1 h2 h3 h4 hC hS HCN hE hm hml hne ht h0 hok
      cases c1 with
      | false =>
        go_enter Tryd.func38, Tryd.ntmps38
        go_wp2_with fail
        refine HV.out.mono ?_
        rintro e w1 ⟨rfl, b1⟩
        have HB1 := Lib.hid b1
        clear b1
        go_wp2_with fail
        refine (HCN2.out w1).mono ?_
        rintro e w2 ⟨rfl, b2⟩
        have HB2 := Lib.hid (HB1.out.bt b2)
        clear b2
        go_wp2
        go_ret
        exact ⟨by rw [HR.out]; rfl, HB2.out⟩
      | true =>
        cases c2 with
        | false =>
          go_enter Tryd.func38, Tryd.ntmps38
          go_wp2_with fail
          refine HV.out.mono ?_
          rintro e w1 ⟨rfl, b1⟩
          have HB1 := Lib.hid b1
          clear b1
          go_wp2_with fail
          refine (HCN2.out w1).mono ?_
          rintro e w2 ⟨rfl, b2⟩
          have HB2 := Lib.hid (HB1.out.bt b2)
          clear b2
          go_wp2_with fail
          refine (HCO.out w2 HB2.out).mono ?_
          rintro e w3 ⟨rfl, rfl⟩
          go_wp2
          go_ret
          exact ⟨by rw [HR.out]; rfl, HB2.out⟩
        | true =>
          cases c3 with
          | true =>
            go_enter Tryd.func38, Tryd.ntmps38
            go_wp2_with fail
            refine HV.out.mono ?_
            rintro e w1 ⟨rfl, b1⟩
            have HB1 := Lib.hid b1
            clear b1
            go_wp2_with fail
            refine (HCN2.out w1).mono ?_
            rintro e w2 ⟨rfl, b2⟩
            have HB2 := Lib.hid (HB1.out.bt b2)
            clear b2
            go_wp2_with fail
            refine (HCO.out w2 HB2.out).mono ?_
            rintro e w3 ⟨rfl, rfl⟩
            go_wp2_with fail
            refine (HPF.out _).mono ?_
            rintro e w4 ⟨rfl, rfl⟩
            go_wp2
            go_ret
            exact ⟨by rw [HR.out]; rfl, HB2.out⟩
          | false =>
            have HR2 : Hid (R = if c4 = true then 3 else 0) := Lib.hid (by rw [HR.out]; cases c4 <;> rfl)
            clear HR
            cases c4
            all_goals
              go_enter Tryd.func38, Tryd.ntmps38
              go_wp2_with fail
              refine HV.out.mono ?_
              rintro e w1 ⟨rfl, b1⟩
              have HB1 := Lib.hid b1
              clear b1
              go_wp2_with fail
              refine (HCN2.out w1).mono ?_
              rintro e w2 ⟨rfl, b2⟩
              have HB2 := Lib.hid (HB1.out.bt b2)
              clear b2
              go_wp2_with fail
              refine (HCO.out w2 HB2.out).mono ?_
              rintro e w3 ⟨rfl, rfl⟩
              go_wp2_with fail
              refine (HPF.out _).mono ?_
              rintro e w4 ⟨rfl, rfl⟩
              go_wp2_with fail
              refine (HSF.out _).mono ?_
              rintro e w5 ⟨rfl, rfl⟩
              go_wp2
              go_ret
              exact ⟨by rw [HR2.out]; rfl, HB2.out⟩
end Go.Proofs.YtbolkkpgahoeaaaDoor
