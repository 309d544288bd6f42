/- The walks of Search, the program's and the reference's (layer 28). -/
import Derived.Test.YtlpeppigebbfkaaDoorNbg
import Derived.Test.YtlpeppigebbfkaaDoorNcl
import Derived.Test.YtlpeppigebbfkaaDoorPwd
import Derived.Test.YtlpeppigebbfkaaDoorRwd
namespace Go.Proofs.YtlpeppigebbfkaaDoor
open Go Go.RowKit

theorem words_dec : ∃ G : ByteArray → List ByteArray, ∀ cs, okt cs = true → G (bs cs) = (words cs).map bs := by
  refine ⟨fun n => @dite _ (∃ cs, okt cs = true ∧ n = bs cs) (Classical.propDecidable _) (fun h => (words h.choose).map bs) (fun _ => []), fun cs hok => ?_⟩
  have h : ∃ ds, okt ds = true ∧ bs cs = bs ds := ⟨cs, hok, rfl⟩
  show @dite _ (∃ ds, okt ds = true ∧ bs cs = bs ds) (Classical.propDecidable _) _ _ = _
  rw [dif_pos h]
  have := h.choose_spec
  rw [← bs_inj _ _ hok this.1 this.2]
theorem own_below {w w' : World} {base n size : Nat} {e : TypeId} {v : Value} {xs : List Value} (h : w.ownsRow base e size v n xs) (b : Below w.heap.size w w') : w'.ownsRow base e size v n xs := by
  refine ⟨h.1, ?_⟩
  rcases h.2 with h0 | ⟨g, cap, cur, hv, hg, hh, rest⟩
  · exact .inl h0
  · exact .inr ⟨g, cap, cur, hv, hg, (b.block g (Array.getElem?_eq_some_iff.1 hh).1).trans hh, rest⟩
/-- Is a patron found by these words? -/
def hit (G : ByteArray → List ByteArray) (W : List ByteArray) (p : Pat) : Bool := !W.isEmpty && !(W.any fun word => !begW word (G p.name))
def searchL (G : ByteArray → List ByteArray) (W : List ByteArray) (l : List Pat) : List Int := (l.filter (hit G W)).map Pat.id
theorem search_step (G : ByteArray → List ByteArray) (W : List ByteArray) (l : List Pat) (k : Nat) (p : Pat) (h : l[k]? = some p) : searchL G W (l.drop k) = if hit G W p = true then p.id :: searchL G W (l.drop (k + 1)) else searchL G W (l.drop (k + 1)) := by
  have hd : l.drop k = p :: l.drop (k + 1) := by
    obtain ⟨h', rfl⟩ := List.getElem?_eq_some_iff.1 h
    exact List.drop_eq_getElem_cons h'
  unfold searchL
  rw [hd, List.filter_cons]
  split <;> simp
theorem infoInt : (Tryd.prog.info? 3).map (fun i => (i.zero, i.size, i.bytes)) = some (some (.int .i64 0), 1, 8) := by kernel_rfl
theorem Ints.of_own {w : World} {v : Value} {base : Nat} {e : TypeId} {xs : List Int} {n : Nat} (h : w.ownsRow base e 1 v n (xs.map (Value.int .i64))) (hn : n = xs.length) : Ints w v xs := by
  subst hn
  rcases h.2 with ⟨rfl, h0⟩ | ⟨g, cap, cur, rfl, hg, hh, hc, -, -, ht⟩
  · have : xs = [] := List.eq_nil_of_length_eq_zero h0
    subst this
    exact ⟨none, 0, rfl, Nat.le_refl _, .inl rfl⟩
  · refine ⟨_, cap, rfl, hc, .inr ⟨g, 0, rfl, (Array.getElem?_eq_some_iff.1 hh).1, fun j x hj => ?_⟩⟩
    have hjl : j < xs.length := (List.getElem?_eq_some_iff.1 hj).1
    have h1 : (cur.toList.take xs.length)[j]? = (xs.map (Value.int .i64))[j]? := by rw [Nat.mul_one] at ht; rw [ht]
    rw [List.getElem?_take_of_lt hjl, List.getElem?_map, hj] at h1
    rw [Nat.zero_add, Lib.cell_of_heap hh, ← Array.getElem?_toList, h1]
    rfl
def RetInts (w : World) (xs : List Int) (e : Ending) (w' : World) : Prop := ∃ v, e = .returned v ∧ Ints w' v xs ∧ Below w.heap.size w w'

set_option maxRecDepth 100000 in
set_option maxHeartbeats 2000000 in
theorem pSearch {G : ByteArray → List ByteArray} (hG : ∀ cs, okt cs = true → G (bs cs) = (words cs).map bs) (v : Value) (l : List Pat) (ss : List Nat) (w : World) (hE : Env w) (hv : Pats w v l) (hl : l.length ≤ 1000) (hn : ∀ p ∈ l, p.name.size ≤ 1000 ∧ ∃ cs, okt cs = true ∧ p.name = bs cs) (hok : okt ss = true) (hs : (bs ss).size ≤ 1000) :
    Calls Tryd.prog 22 #[v, .string (bs ss)] w (RetInts w (searchL G ((words ss).map bs) l)) := by
  obtain ⟨pa, pc, rfl, hpc, hcells⟩ := hv
  obtain ⟨i0, hi, hz0, hz1, hz2⟩ := info_parts infoInt
  have HI := Lib.hid hi; have HZ0 := Lib.hid hz0; have HZ1 := Lib.hid hz1; have HZ2 := Lib.hid hz2
  have hw0 := pWords ss w hE hok (by omega)
  have hwl : ((words ss).map bs).length ≤ 1000 := by rw [List.length_map]; exact Nat.le_trans (words_len ss hok) hs
  obtain ⟨W, hW⟩ : ∃ W, W = (words ss).map bs := ⟨_, rfl⟩
  rw [← hW] at hw0 hwl ⊢
  obtain ⟨R, hR⟩ : ∃ R, R = searchL G W l := ⟨_, rfl⟩
  rw [← hR]
  obtain ⟨n, hnn⟩ : ∃ n, n = l.length := ⟨_, rfl⟩
  rw [← hnn] at hl hpc ⊢
  have HW0 := Lib.hid hw0
  have HN := Lib.hid hnn
  have HC := Lib.hid hcells
  have HR := Lib.hid hR
  have HS := Lib.hid hn
  have HE := Lib.hid hE
  have HG := Lib.hid hG
  clear hi hz0 hz1 hz2 hw0 hW hR hnn hcells hn hE hG hok hs
  go_enter Tryd.func22, Tryd.ntmps22
  go_wp2_with fail
  refine HW0.out.mono ?_
  rintro e w1 ⟨vw, rfl, hvw, b1⟩
  have HVW := Lib.hid hvw
  obtain ⟨pw, cw, rfl, hcw, -⟩ := hvw
  have HB1 := Lib.hid b1
  clear b1
  obtain ⟨nw, hnw⟩ : ∃ nw, nw = W.length := ⟨_, rfl⟩
  rw [← hnw] at hwl hcw HVW ⊢
  have HNW := Lib.hid hnw
  clear hnw
  go_wp2
  go_loopw [5, 15] (fun vo vk wr => ∃ (k : Nat) (done : List Int), vk = .int .i64 k ∧ k ≤ n ∧ done.length ≤ k ∧ Hid (R = done ++ searchL G W (l.drop k)) ∧ Hid (wr.ownsRow w1.heap.size 3 1 vo done.length (done.map (Value.int .i64))) ∧ Hid (Below w1.heap.size w1 wr)) (fun _ vk _ => n - (intOf vk).toNat)
  case atStart => exact ⟨0, [], rfl, by omega, by simp, Lib.hid (by rw [HR.out]; simp), Lib.hid (World.ownsRow_nil _ _ _ _), Lib.hid (Below.refl _ _)⟩
  case round =>
    obtain ⟨k, done, rfl, hk, hdn, HK, HO, HB⟩ := hrel
    by_cases hlt : k < n
    · have hltz : (k : Int) < (n : Int) := by omega
      obtain ⟨p, hp⟩ : ∃ p, l[k]? = some p := ⟨_, List.getElem?_eq_getElem (by have := HN.out; omega)⟩
      rcases HC.out with h0 | ⟨b, o, rfl, hbl, hcl⟩
      · rw [h0] at hp; cases hp
      have hbw : Below w.heap.size w wr := HB1.out.bt HB.out
      have hst := HK.out
      rw [search_step G W l k p hp] at hst
      have hh : hit G W p = (!W.isEmpty && !(W.any fun word => !begW word (G p.name))) := rfl
      have h6 := (six_of (hcl k p hp)).below hbw hbl
      obtain ⟨hsz, cs, hcs, hnm⟩ := HS.out p (List.mem_of_getElem? hp)
      obtain ⟨X, hX⟩ : ∃ X, X = wr.alloc (.cells #[.int .i64 p.id, .int .i64 p.kind, .int .i64 p.branch, .int .i64 p.till, .bool p.stop, .string p.name] 28) := ⟨_, rfl⟩
      have hbX : Below wr.heap.size wr X := by rw [hX]; exact (Below.refl _ _).alloc (Nat.le_refl _) _
      have hwp := pWords cs X (HE.out.below (hbw.bt hbX)) hcs (by rw [hnm] at hsz; omega)
      rw [← hnm, ← HG.out cs hcs, ← hnm] at hwp
      have hnl : (G p.name).length ≤ 1000 := by rw [hnm, HG.out cs hcs, List.length_map]; exact Nat.le_trans (words_len cs hcs) (by rw [← hnm]; exact hsz)
      obtain ⟨Nm, hNm⟩ : ∃ Nm, Nm = G p.name := ⟨_, rfl⟩
      rw [← hNm] at hwp hh hnl
      have HWP := Lib.hid hwp
      have HX := Lib.hid hX
      have HBX := Lib.hid hbX
      have HH := Lib.hid hh
      have hszX : wr.heap.size < X.heap.size := by rw [hX, World.size_alloc]; exact Nat.lt_succ_self _
      have hX0 : X.cell? ⟨wr.heap.size, 0, none⟩ = some (.int .i64 p.id) := by rw [hX, Lib.cell_of_heap (heap_alloc_new wr _)]; rfl
      have HX0 := Lib.hid (And.intro hX0 hszX)
      obtain ⟨T, hT⟩ : ∃ T, T = hit G W p := ⟨_, rfl⟩
      rw [← hT] at hst hh
      have HST := Lib.hid hst
      have HTT := Lib.hid hh
      clear hwp hX hbX hh hX0 hst hNm hnm hsz hcs hcl hp hT HK
      obtain ⟨q0, q1, q2, q3, q4, q5⟩ := h6
      obtain ⟨id, kind, branch, till, stop, name⟩ := p
      simp only at q0 q1 q2 q3 q4 q5
      go_wp2_with fail
      rw [← HX.out]
      refine HWP.out.mono ?_
      rintro e w2 ⟨vn, rfl, hvn, b2⟩
      have HVN := Lib.hid hvn
      obtain ⟨pn, cn, rfl, hcn, -⟩ := hvn
      obtain ⟨Y, hY⟩ : ∃ Y, Y = w2.alloc (.cells #[.slice pn Nm.length cn] 46) := ⟨_, rfl⟩
      have hbY : Below w2.heap.size w2 Y := by rw [hY]; exact (Below.refl _ _).alloc (Nat.le_refl _) _
      have hwY : Below wr.heap.size wr Y := (HBX.out.bt b2).bt hbY
      have hw1Y : Below w1.heap.size w1 Y := HB.out.bt hwY
      have hY0 : Y.cell? ⟨w2.heap.size, 0, none⟩ = some (.slice pn Nm.length cn) := by rw [hY, Lib.cell_of_heap (heap_alloc_new w2 _)]; rfl
      have hYid : Y.cell? ⟨wr.heap.size, 0, none⟩ = some (.int .i64 id) := (hbY.cell (p := ⟨wr.heap.size, 0, none⟩) (Nat.lt_of_lt_of_le HX0.out.2 b2.size)).trans ((b2.cell (p := ⟨wr.heap.size, 0, none⟩) HX0.out.2).trans HX0.out.1)
      have hlY : wr.heap.size < Y.heap.size := Nat.lt_of_lt_of_le HX0.out.2 (Nat.le_trans b2.size hbY.size)
      have hsY : w2.heap.size < Y.heap.size := by rw [hY, World.size_alloc]; exact Nat.lt_succ_self _
      have hany := sContainsS (.slice pw nw cw) W (fun word => !begW word Nm) w2.heap.size Y (HVW.out.below hw1Y (Nat.le_refl _)) (by rw [← HNW.out]; omega) (fun V hV word _ => cMissing word (.slice pn Nm.length cn) Nm w2.heap.size V ((hV.cell (p := ⟨w2.heap.size, 0, none⟩) hsY).trans hY0) (HVN.out.below (hbY.trans (hV.mono hbY.size)) (Nat.le_refl _)) (by omega))
      have HANY := Lib.hid hany
      have HY := Lib.hid hY
      have HWY := Lib.hid (And.intro hwY (And.intro hYid hlY))
      clear hany hY hbY hwY hw1Y hY0 hYid hlY hsY b2
      by_cases hW0 : nw ≤ 0
      · have hTf : T = false := by
          rw [HTT.out, List.eq_nil_of_length_eq_zero (show W.length = 0 by rw [← HNW.out]; omega)]
          rfl
        subst hTf
        have hST2 : Hid (R = done ++ searchL G W (l.drop (k + 1))) := Lib.hid (by have := HST.out; rwa [if_neg (by simp)] at this)
        have hnz : ¬ (0 : Int) < (nw : Int) := by omega
        clear HST HTT
        have HOY : Hid (Y.ownsRow w1.heap.size 3 1 _ done.length (done.map (Value.int .i64))) := Lib.hid (own_below HO.out HWY.out.1)
        have HBY : Hid (Below w1.heap.size w1 Y) := Lib.hid (HB.out.bt HWY.out.1)
        go_wp2
        go_roundw
        case rel => exact ⟨k + 1, done, by go_num, by omega, by omega, hST2, by rw [← HY.out]; exact HOY, by rw [← HY.out]; exact HBY⟩
        case measure => simp [intOf]; omega
      · have hnz : (0 : Int) < (nw : Int) := by omega
        have hT2 : T = !(W.any fun word => !begW word Nm) := by
          rw [HTT.out]
          cases hWW : W with
          | nil => have := HNW.out; rw [hWW] at this; simp at this; omega
          | cons a r => rfl
        obtain ⟨An, hAn⟩ : ∃ An, An = W.any fun word => !begW word Nm := ⟨_, rfl⟩
        rw [← hAn] at hT2
        have HANY2 : Hid (Calls Tryd.prog 44 #[.slice pw nw cw, .func (.func 42) #[] #[.pointer (some ⟨w2.heap.size, 0, none⟩)]] Y fun e w' => e = .returned (.bool An) ∧ Below Y.heap.size Y w') := Lib.hid (by rw [hAn]; exact HANY.out)
        subst hT2
        clear hAn HANY HTT
        go_wp2_with fail
        rw [← HY.out]
        refine HANY2.out.mono ?_
        rintro e w3 ⟨rfl, b3⟩
        have hw3 : Below wr.heap.size wr w3 := HWY.out.1.bt b3
        have HO3 : Hid (w3.ownsRow w1.heap.size 3 1 _ done.length (done.map (Value.int .i64))) := Lib.hid (own_below HO.out hw3)
        have HB3 : Hid (Below w1.heap.size w1 w3) := Lib.hid (HB.out.bt hw3)
        have hid3 : w3.cell? ⟨wr.heap.size, 0, none⟩ = some (.int .i64 id) := (b3.cell (p := ⟨wr.heap.size, 0, none⟩) HWY.out.2.2).trans HWY.out.2.1
        have hs13 : w1.heap.size ≤ w3.heap.size := HB3.out.size
        clear b3 hw3 HANY2
        cases An with
        | true =>
          have hST2 : Hid (R = done ++ searchL G W (l.drop (k + 1))) := Lib.hid (by have := HST.out; rwa [if_neg (by simp)] at this)
          clear HST
          go_wp2
          go_roundw
          case rel => exact ⟨k + 1, done, by go_num, by omega, by omega, hST2, HO3, HB3⟩
          case measure => simp [intOf]; omega
        | false =>
          have hST2 : Hid (R = (done ++ [id]) ++ searchL G W (l.drop (k + 1))) := Lib.hid (by have := HST.out; rw [if_pos (by rfl)] at this; rw [this]; simp)
          clear HST
          go_wp2_with (at_builtin; refine wpList_append_own _ rfl _ _ 36 rfl w1.heap.size 3 i0 (.int .i64 0) 1 8 Tryd.underlying36 HI.out HZ0.out HZ1.out HZ2.out rfl (by decide) _ _ _ rfl (HO3.out.alloc _) ⟨w3.heap.size, 0, none⟩ 1 1 [.int .i64 id] rfl rfl ?c1 ?c2 ?c3 ?c4 ?c5 ?_)
          case c1 => exact cell_one_new _ _ _
          case c2 => simp [Value.oneCell']
          case c3 => unfold maxLen; omega
          case c4 => omega
          case c5 => simp; omega
          intro v' w4 hown hgrow _
          have HO4 : Hid (w4.ownsRow w1.heap.size 3 1 v' (done ++ [id]).length ((done ++ [id]).map (Value.int .i64))) := Lib.hid (by simpa using hown)
          have HB4 : Hid (Below w1.heap.size w1 w4) := Lib.hid ((HB3.out.alloc hs13 _).grown hgrow (by simp; omega) (fun q hq => (HO3.out.lt q hq).1))
          clear hown hgrow
          go_wp2
          go_roundw
          case rel => exact ⟨k + 1, done ++ [id], by go_num, by omega, by simp; omega, hST2, HO4, HB4⟩
          case measure => simp [intOf]; omega
    · have hltz : ¬ (k : Int) < (n : Int) := by omega
      have HT : Hid (R = done) := Lib.hid (by rw [HK.out, List.drop_eq_nil_of_le (by have := HN.out; omega)]; simp [searchL])
      go_wp2
      go_ret
      exact ⟨_, rfl, by rw [HT.out]; exact Ints.of_own HO.out rfl, HB1.out.bt HB.out⟩
end Go.Proofs.YtlpeppigebbfkaaDoor
