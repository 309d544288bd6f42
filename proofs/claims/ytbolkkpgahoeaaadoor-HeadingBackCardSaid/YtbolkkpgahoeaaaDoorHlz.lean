/- The walk of the statement HeadingBack (layer 12): it returns true, and what was there before stays. -/
import Derived.Test.YtbolkkpgahoeaaaDoorHlw
namespace Go.Proofs.YtbolkkpgahoeaaaDoor
open Go Go.RowKit

theorem textB_bs (n : List Nat × List Nat × List Nat) : textB (bs n.1) (bs n.2.1) (bs n.2.2) = bs (nameText n) := by
  obtain ⟨x, y, z⟩ := n
  have h1 : ∀ s p : List Nat, addB (bs s) (bs p) = bs (s ++ if p = [] then [] else comma ++ p) := by
    intro s p
    unfold addB
    rw [bs_isEmpty]
    by_cases h : p = []
    · subst h; simp
    · have he : p.isEmpty = false := by cases p with | nil => exact absurd rfl h | cons a b => rfl
      rw [he, if_neg h, if_neg (by simp)]
      have e : (⟨#[44, 32]⟩ : ByteArray) = bs comma := rfl
      rw [e, bs_append, bs_append]
  unfold textB nameText
  rw [h1, h1]
theorem name_back {N : ByteArray → Option (ByteArray × ByteArray × ByteArray)} (hN : NameDec N) {s x y z : ByteArray} (h : N s = some (x, y, z)) : textB x y z = s := by
  cases ht : isText s.data.toList with
  | false => rw [hN.bad s ht] at h; cases h
  | true =>
    obtain ⟨cs, hok, rfl⟩ := text_bs s ht
    rw [hN.text cs hok] at h
    cases hn : nameOf cs with
    | none => rw [hn] at h; cases h
    | some n =>
      rw [hn] at h
      simp only [Option.map_some, Option.some.injEq, Prod.mk.injEq] at h
      obtain ⟨rfl, rfl, rfl⟩ := h
      rw [textB_bs, nameText_of hn]
theorem addB_ge (s p : ByteArray) : s.size ≤ (addB s p).size ∧ p.size ≤ (addB s p).size := by
  unfold addB
  split
  · rename_i h
    rw [size_empty] at h
    have := of_decide_eq_true h
    omega
  · rw [ByteArray.size_append, ByteArray.size_append]
    omega
theorem textB_ge (x y z : ByteArray) : x.size ≤ (textB x y z).size ∧ y.size ≤ (textB x y z).size ∧ z.size ≤ (textB x y z).size := by
  have h1 := addB_ge (addB x y) z
  have h2 := addB_ge x y
  unfold textB
  omega

set_option maxRecDepth 100000 in
set_option maxHeartbeats 4000000 in
/-- The second half: Name and Text. -/
theorem back_tail {N : ByteArray → Option (ByteArray × ByteArray × ByteArray)} (hN : NameDec N) (s : ByteArray) (hz : s.size ≤ 1000) :
    (N s = none ∧ nameR N s = (⟨#[]⟩, ⟨#[]⟩, ⟨#[]⟩, 3)) ∨ ∃ x y z, nameR N s = (x, y, z, 0) ∧ textR N x y z = (s, 0) ∧ x.size ≤ 1000 ∧ y.size ≤ 1000 ∧ z.size ≤ 1000 := by
  cases h : N s with
  | none => exact .inl ⟨rfl, nameR_none h⟩
  | some q =>
    obtain ⟨x, y, z⟩ := q
    have hb := name_back hN h
    have hg := textB_ge x y z
    rw [hb] at hg
    refine .inr ⟨x, y, z, nameR_some h, ?_, by omega, by omega, by omega⟩
    unfold textR
    rw [hb, h, if_pos rfl]

set_option maxRecDepth 100000 in
set_option maxHeartbeats 4000000 in
theorem law_HeadingBack (v : Value) (xs : List ByteArray) (s : ByteArray) (w : World) (hE : Env w) (hv : Strs w v xs) (hl : xs.length ≤ maxLen) (_ : ∀ x ∈ xs, x.size ≤ maxLen) (_ : s.size ≤ 9223372036854775807) :
    Calls Tryd.prog 10 #[v, .string s] w fun e w' => e = .returned (.bool true) ∧ Below w.heap.size w w' := by
  obtain ⟨P, hP⟩ := part_dec
  obtain ⟨N, hN⟩ := name_dec
  have HAL := Lib.hid (alive_any w hE)
  have hT := fun W (hW : Below w.heap.size w W) => lShort v xs W (hv.below hW (Nat.le_refl _)) (by unfold maxLen at hl; omega)
  cases h : (decide (xs.length ≤ 60) && shortS xs) with
  | false =>
    rw [h] at hT
    have HT := Lib.hid hT
    clear hT h hl hE hv hP hN
    go_enter Tryd.func10, Tryd.ntmps10
    go_wp2_with fail
    refine HAL.out.mono ?_
    rintro e w1 ⟨rfl, b1⟩
    have HB1 := Lib.hid b1
    clear b1
    go_wp2_with fail
    refine (HT.out w1 HB1.out).mono ?_
    rintro e w2 ⟨rfl, rfl⟩
    go_wp2
    go_ret
    exact ⟨rfl, HB1.out⟩
  | true =>
    rw [h] at hT
    simp only [Bool.and_eq_true, decide_eq_true_eq] at h
    have hxz : ∀ x ∈ xs, x.size ≤ 1000000 := fun x hx => by
      have := List.all_eq_true.1 h.2 x hx
      have := of_decide_eq_true this
      omega
    have HV := Lib.hid (fun W (hW : Below w.heap.size w W) => hv.below hW (Nat.le_refl _))
    by_cases hz : s.size ≤ 1000
    · have hzz : ((s.size : Nat) : Int) ≤ 1000 := by omega
      have hp := fun W (hW : Below w.heap.size w W) => pJoin hP xs v W (hE.below hW) (hv.below hW (Nat.le_refl _)) (by omega) hxz
      have hn := fun W (hW : Below w.heap.size w W) => pName hN s W (hE.below hW) (by omega)
      have HT := Lib.hid hT
      -- the end of the walk, from region 8 on, in whatever world
      by_cases hj : (joinR P xs).2 = 0
      · obtain ⟨cs, hok, hj1, hjz, hpm, hx0, hx4⟩ := join_parts hP hj
        have hpp := fun W (hW : Below w.heap.size w W) => pParts cs W (hE.below hW) hok (by omega)
        have hpa := fun W (hW : Below w.heap.size w W) => pAbove cs W (hE.below hW) hok (by omega)
        simp only [hpm] at hpp
        have hal : ((above cs).map bs).length = xs.length - 1 := by
          have h2 : (above cs).length = (parts cs).length - 1 := upFrom_len _ _
          have h3 := congrArg List.length hpm
          rw [List.length_map] at h3 ⊢
          rw [h2, h3]
        simp only [hj, hj1] at hp
        obtain ⟨H, hH⟩ : ∃ H, H = bs cs := ⟨_, rfl⟩
        simp only [← hH] at hp hpp hpa
        obtain ⟨AB, hAB⟩ : ∃ AB, AB = (above cs).map bs := ⟨_, rfl⟩
        rw [← hAB] at hal
        simp only [← hAB] at hpa
        obtain ⟨n, hnn⟩ : ∃ n, n = xs.length := ⟨_, rfl⟩
        rw [← hnn] at hal hx0 hx4
        have hn1 : (1 : Int) ≤ (n : Int) := by omega
        have HJ := Lib.hid hp
        have HPP := Lib.hid hpp
        have HPA := Lib.hid hpa
        have HAB := Lib.hid hal
        have HNN := Lib.hid hnn
        have HE := Lib.hid (fun W (hW : Below w.heap.size w W) => hE.below hW)
        have HNM := Lib.hid hn
        have HTL := Lib.hid (back_tail hN s hz)
        have HTX := Lib.hid (fun x y z W (hW : Below w.heap.size w W) (h1 : x.size ≤ 1000) (h2 : y.size ≤ 1000) (h3 : z.size ≤ 1000) => pText hN x y z W (hE.below hW) (by omega) (by omega) (by omega))
        obtain ⟨va, vc, rfl, -, -⟩ := hv
        rw [← HNN.out] at HT HJ HV ⊢
        have hab2 : ((n - 1 : Nat) : Int) = (n : Int) - 1 := by omega
        have hneq : (((n : Int) - 1) != ((n : Int) - 1)) = false := by simp
        clear hT h hl hE hP hN hp hn hpp hpa hal hok hj1 hjz hpm hH hAB hnn hxz hz hj
        go_enter Tryd.func10, Tryd.ntmps10
        go_wp2_with fail
        refine HAL.out.mono ?_
        rintro e w1 ⟨rfl, b1⟩
        have HB1 := Lib.hid b1
        clear b1
        go_wp2_with fail
        refine (HT.out w1 HB1.out).mono ?_
        rintro e w2 ⟨rfl, rfl⟩
        go_wp2_with fail
        refine (HJ.out _ HB1.out).mono ?_
        rintro e w3 ⟨rfl, b3⟩
        have HB3 := Lib.hid (HB1.out.bt b3)
        clear b3
        go_wp2_with fail
        refine (HPP.out w3 HB3.out).mono ?_
        rintro e w4 ⟨v4, rfl, i4, b4⟩
        have HB4 := Lib.hid (HB3.out.bt b4)
        have HI4 := Lib.hid i4
        clear b4 i4
        go_wp2_with fail
        refine (rSameS _ _ xs w4 HI4.out (HV.out w4 HB4.out) (by rw [← HNN.out]; omega)).mono ?_
        rintro e w5 ⟨rfl, d5⟩
        have HB5 := Lib.hid (HB4.out.bt (d5.below _))
        clear d5
        go_wp2_with fail
        refine (HPA.out w5 HB5.out).mono ?_
        rintro e w6 ⟨v6, rfl, i6, b6⟩
        have HB6 := Lib.hid (HB5.out.bt b6)
        obtain ⟨aa, ac, rfl, -, -⟩ := i6
        rw [HAB.out]
        clear b6
        go_wp2_with fail
        refine (HNM.out w6 HB6.out).mono ?_
        rintro e w7 ⟨rfl, b7⟩
        have HB7 := Lib.hid (HB6.out.bt b7)
        clear b7
        rcases HTL.out with ⟨-, hr⟩ | ⟨x, y, z, hr, htx, hx1, hy1, hz1⟩
        · rw [hr]
          simp only
          go_wp2
          go_ret
          exact ⟨rfl, HB7.out.alloc HB7.out.size _⟩
        · rw [hr]
          simp only
          have h2 := fun W (hW : Below w.heap.size w W) => HTX.out x y z W hW hx1 hy1 hz1
          simp only [htx] at h2
          have HTX2 := Lib.hid h2
          clear hr htx hx1 hy1 hz1 h2
          go_wp2_with fail
          refine (HTX2.out _ (HB7.out.alloc HB7.out.size _)).mono ?_
          rintro e w9 ⟨rfl, b9⟩
          have HB9 := Lib.hid ((HB7.out.alloc HB7.out.size _).bt b9)
          clear b9
          go_wp2
          go_ret
          exact ⟨by simp, HB9.out⟩
      · obtain ⟨er, her⟩ : ∃ er, er = (joinR P xs).2 := ⟨_, rfl⟩
        obtain ⟨H, hH⟩ : ∃ H, H = (joinR P xs).1 := ⟨_, rfl⟩
        simp only [← her, ← hH] at hp hj
        have hne : (er == 0) = false := by simpa using hj
        have HJ := Lib.hid hp
        have HNM := Lib.hid hn
        have HTL := Lib.hid (back_tail hN s hz)
        have HTX := Lib.hid (fun x y z W (hW : Below w.heap.size w W) (h1 : x.size ≤ 1000) (h2 : y.size ≤ 1000) (h3 : z.size ≤ 1000) => pText hN x y z W (hE.below hW) (by omega) (by omega) (by omega))
        clear hT h hl hE hP hN hp hn hxz hz hj her hH hv
        go_enter Tryd.func10, Tryd.ntmps10
        go_wp2_with fail
        refine HAL.out.mono ?_
        rintro e w1 ⟨rfl, b1⟩
        have HB1 := Lib.hid b1
        clear b1
        go_wp2_with fail
        refine (HT.out w1 HB1.out).mono ?_
        rintro e w2 ⟨rfl, rfl⟩
        go_wp2_with fail
        refine (HJ.out _ HB1.out).mono ?_
        rintro e w3 ⟨rfl, b3⟩
        have HB3 := Lib.hid (HB1.out.bt b3)
        clear b3
        go_wp2_with fail
        refine (HNM.out w3 HB3.out).mono ?_
        rintro e w7 ⟨rfl, b7⟩
        have HB7 := Lib.hid (HB3.out.bt b7)
        clear b7
        rcases HTL.out with ⟨-, hr⟩ | ⟨x, y, z, hr, htx, hx1, hy1, hz1⟩
        · rw [hr]
          simp only
          go_wp2
          go_ret
          exact ⟨rfl, HB7.out.alloc HB7.out.size _⟩
        · rw [hr]
          simp only
          have h2 := fun W (hW : Below w.heap.size w W) => HTX.out x y z W hW hx1 hy1 hz1
          simp only [htx] at h2
          have HTX2 := Lib.hid h2
          clear hr htx hx1 hy1 hz1 h2
          go_wp2_with fail
          refine (HTX2.out _ (HB7.out.alloc HB7.out.size _)).mono ?_
          rintro e w9 ⟨rfl, b9⟩
          have HB9 := Lib.hid ((HB7.out.alloc HB7.out.size _).bt b9)
          clear b9
          go_wp2
          go_ret
          exact ⟨by simp, HB9.out⟩
    · have hzz : (1000 : Int) < ((s.size : Nat) : Int) := by omega
      have HT := Lib.hid hT
      clear hT h hl hE hv hP hN hxz hz
      go_enter Tryd.func10, Tryd.ntmps10
      go_wp2_with fail
      refine HAL.out.mono ?_
      rintro e w1 ⟨rfl, b1⟩
      have HB1 := Lib.hid b1
      clear b1
      go_wp2_with fail
      refine (HT.out w1 HB1.out).mono ?_
      rintro e w2 ⟨rfl, rfl⟩
      go_wp2
      go_ret
      exact ⟨rfl, HB1.out⟩
end Go.Proofs.YtbolkkpgahoeaaaDoor
