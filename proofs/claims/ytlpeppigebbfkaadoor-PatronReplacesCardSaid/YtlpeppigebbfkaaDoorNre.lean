/- The walks of Reasons, the program's and the reference's (layer 28). -/
import Derived.Test.YtlpeppigebbfkaaDoorNse
namespace Go.Proofs.YtlpeppigebbfkaaDoor
open Go Go.RowKit

theorem cell_new_at {w : World} {v : Value} {T : TypeId} {g : Nat} (hg : w.heap.size = g) : ∀ j u, [v][j]? = some u → (w.alloc (.cells #[v] T)).cell? ((⟨g, 0, none⟩ : Addr).add j) = some u := by
  subst hg
  exact cell_one_new _ _ _
def rsFrom : Nat → List Bool → List Int
  | _, [] => []
  | k, b :: r => if b = true then ((k : Int) + 1) :: rsFrom (k + 1) r else rsFrom (k + 1) r
/-- The reasons why a patron may not borrow. -/
def reasons (p : Pat) (day owed late : Int) : List Int := rsFrom 0 [p.stop, decide (p.till < day), decide (1000 < owed), decide (2 < late)]
theorem rs_step (bl : List Bool) (k : Nat) (b : Bool) (h : bl[k]? = some b) : rsFrom k (bl.drop k) = if b = true then ((k : Int) + 1) :: rsFrom (k + 1) (bl.drop (k + 1)) else rsFrom (k + 1) (bl.drop (k + 1)) := by
  have hd : bl.drop k = b :: bl.drop (k + 1) := by
    obtain ⟨h', rfl⟩ := List.getElem?_eq_some_iff.1 h
    exact List.drop_eq_getElem_cons h'
  rw [hd]
  rfl

set_option maxRecDepth 100000 in
set_option maxHeartbeats 2000000 in
theorem pReasons (p : Pat) (day owed late : Int) (w : World) :
    Calls Tryd.prog 19 #[.agg #[.int .i64 p.id, .int .i64 p.kind, .int .i64 p.branch, .int .i64 p.till, .bool p.stop, .string p.name], .int .i64 day, .int .i64 owed, .int .i64 late] w (RetInts w (reasons p day owed late)) := by
  obtain ⟨id, kind, branch, till, stop, name⟩ := p
  obtain ⟨i0, hi, hz0, hz1, hz2⟩ := info_parts infoInt
  have HI := Lib.hid hi; have HZ0 := Lib.hid hz0; have HZ1 := Lib.hid hz1; have HZ2 := Lib.hid hz2
  unfold reasons
  simp only
  obtain ⟨bl, hbl⟩ : ∃ bl, bl = [stop, decide (till < day), decide (1000 < owed), decide (2 < late)] := ⟨_, rfl⟩
  rw [← hbl]
  obtain ⟨R, hR⟩ : ∃ R, R = rsFrom 0 bl := ⟨_, rfl⟩
  rw [← hR]
  obtain ⟨X1, hX1⟩ : ∃ X1, X1 = w.alloc (.cells #[.int .i64 id, .int .i64 kind, .int .i64 branch, .int .i64 till, .bool stop, .string name] 28) := ⟨_, rfl⟩
  obtain ⟨X, hX⟩ : ∃ X, X = X1.alloc (.cells #[.bool stop, .bool (decide (till < day)), .bool (decide (1000 < owed)), .bool (decide (2 < late))] 4) := ⟨_, rfl⟩
  have hbX1 : Below w.heap.size w X1 := by rw [hX1]; exact (Below.refl _ _).alloc (Nat.le_refl _) _
  have hbX : Below w.heap.size w X := by rw [hX]; exact hbX1.alloc hbX1.size _
  have hs1 : X1.heap.size = w.heap.size + 1 := by rw [hX1, World.size_alloc]
  have hbv : ∀ k b, bl[k]? = some b → X.cell? ⟨w.heap.size + 1, k, none⟩ = some (.bool b) := by
    intro k b hk
    rw [hX, ← hs1, Lib.cell_of_heap (heap_alloc_new X1 _)]
    rw [hbl] at hk
    have : k = 0 ∨ k = 1 ∨ k = 2 ∨ k = 3 := by have := (List.getElem?_eq_some_iff.1 hk).1; simp at this; omega
    rcases this with rfl | rfl | rfl | rfl <;> (cases hk; rfl)
  have hsX : w.heap.size + 1 < X.heap.size := by rw [hX, World.size_alloc, hs1]; exact Nat.lt_succ_self _
  have hlen : bl.length = 4 := by rw [hbl]; rfl
  have HR := Lib.hid hR
  have HV := Lib.hid (And.intro hbv (And.intro hsX (And.intro hlen hbX)))
  have HXX := Lib.hid (And.intro hX1 hX)
  clear hi hz0 hz1 hz2 hbl hR hX1 hX hbX1 hbX hs1 hbv hsX hlen
  go_enter Tryd.func19, Tryd.ntmps19
  go_wp2
  rw [← HXX.out.1, ← HXX.out.2]
  go_loopw [9, 24] (fun vo vk wr => ∃ (k : Nat) (done : List Int), vk = .int .i64 k ∧ k ≤ 4 ∧ done.length ≤ k ∧ Hid (R = done ++ rsFrom k (bl.drop k)) ∧ Hid (wr.ownsRow X.heap.size 3 1 vo done.length (done.map (Value.int .i64))) ∧ Hid (Below X.heap.size X wr)) (fun _ vk _ => 4 - (intOf vk).toNat)
  case atStart => exact ⟨0, [], rfl, by omega, by simp, Lib.hid (by rw [HR.out]; simp), Lib.hid (World.ownsRow_nil _ _ _ _), Lib.hid (Below.refl _ _)⟩
  case round =>
    obtain ⟨k, done, rfl, hk, hdn, HK, HO, HB⟩ := hrel
    by_cases hlt : k < 4
    · have hltz : (k : Int) < 4 := by omega
      obtain ⟨b, hb⟩ : ∃ b, bl[k]? = some b := ⟨_, List.getElem?_eq_getElem (by rw [HV.out.2.2.1]; exact hlt)⟩
      have hcell : wr.cell? ⟨w.heap.size + 1, k, none⟩ = some (.bool b) := (HB.out.cell (p := ⟨w.heap.size + 1, k, none⟩) HV.out.2.1).trans (HV.out.1 k b hb)
      have hst := HK.out
      rw [rs_step bl k b hb] at hst
      have hsz : X.heap.size ≤ wr.heap.size := HB.out.size
      clear hb
      cases b with
      | false =>
        have HS : Hid (R = done ++ rsFrom (k + 1) (bl.drop (k + 1))) := Lib.hid (by rw [hst, if_neg (by simp)])
        clear hst HK
        go_wp2
        go_roundw
        case rel => exact ⟨k + 1, done, by go_num, by omega, by omega, HS, HO, HB⟩
        case measure => simp [intOf]; omega
      | true =>
        have HS : Hid (R = (done ++ [(k : Int) + 1]) ++ rsFrom (k + 1) (bl.drop (k + 1))) := Lib.hid (by rw [hst, if_pos rfl]; simp)
        clear hst HK
        go_wp2_with (at_builtin; refine wpList_append_own _ rfl _ _ 36 rfl X.heap.size 3 i0 (.int .i64 0) 1 8 Tryd.underlying36 HI.out HZ0.out HZ1.out HZ2.out rfl (by decide) _ _ _ rfl (HO.out.alloc _) _ 1 1 [.int .i64 ((k : Int) + 1)] rfl rfl ?c1 ?c2 ?c3 ?c4 ?c5 ?_)
        case c1 => exact cell_new_at (by simp)
        case c2 => simp [Value.oneCell']
        case c3 => unfold maxLen; omega
        case c4 => omega
        case c5 => first | omega | (simp; omega)
        intro v' w4 hown hgrow _
        have HO4 : Hid (w4.ownsRow X.heap.size 3 1 v' (done ++ [(k : Int) + 1]).length ((done ++ [(k : Int) + 1]).map (Value.int .i64))) := Lib.hid (by simpa using hown)
        have HB4 : Hid (Below X.heap.size X w4) := Lib.hid ((HB.out.alloc hsz _).grown hgrow (by simp; omega) (fun q hq => (HO.out.lt q hq).1))
        clear hown hgrow
        go_wp2
        go_roundw
        case rel => exact ⟨k + 1, done ++ [(k : Int) + 1], by go_num, by omega, by simp; omega, HS, HO4, HB4⟩
        case measure => simp [intOf]; omega
    · have hltz : ¬ (k : Int) < 4 := by omega
      have hT : Hid (R = done) := Lib.hid (by rw [HK.out, List.drop_eq_nil_of_le (by rw [HV.out.2.2.1]; omega)]; simp [rsFrom])
      go_wp2
      go_ret
      exact ⟨_, rfl, by rw [hT.out]; exact Ints.of_own HO.out rfl, HV.out.2.2.2.trans (HB.out.mono HV.out.2.2.2.size)⟩

set_option maxRecDepth 100000 in
set_option maxHeartbeats 1000000 in
theorem rReasons (p : Pat) (day owed late : Int) (w : World) :
    Calls Tryd.prog 20 #[.agg #[.int .i64 p.id, .int .i64 p.kind, .int .i64 p.branch, .int .i64 p.till, .bool p.stop, .string p.name], .int .i64 day, .int .i64 owed, .int .i64 late] w (RetInts w (reasons p day owed late)) := by
  obtain ⟨id, kind, branch, till, stop, name⟩ := p
  obtain ⟨i0, hi, hz0, hz1, hz2⟩ := info_parts infoInt
  have HI := Lib.hid hi; have HZ0 := Lib.hid hz0; have HZ1 := Lib.hid hz1; have HZ2 := Lib.hid hz2
  obtain ⟨R, hR⟩ : ∃ R, R = reasons ⟨id, kind, branch, till, stop, name⟩ day owed late := ⟨_, rfl⟩
  rw [← hR]
  unfold reasons at hR
  simp only at hR
  obtain ⟨X1, hX1⟩ : ∃ X1, X1 = w.alloc (.cells #[.int .i64 id, .int .i64 kind, .int .i64 branch, .int .i64 till, .bool stop, .string name] 28) := ⟨_, rfl⟩
  have hbX1 : Below w.heap.size w X1 := by rw [hX1]; exact (Below.refl _ _).alloc (Nat.le_refl _) _
  have hs1 : X1.heap.size = w.heap.size + 1 := by rw [hX1, World.size_alloc]
  have HB0 : Hid (Below X1.heap.size X1 ((w.alloc (.cells #[.int .i64 id, .int .i64 kind, .int .i64 branch, .int .i64 till, .bool stop, .string name] 28)).alloc (.cells #[] 3))) := Lib.hid (by rw [← hX1]; exact (Below.refl _ _).alloc (Nat.le_refl _) _)
  have HO0 : Hid (((w.alloc (.cells #[.int .i64 id, .int .i64 kind, .int .i64 branch, .int .i64 till, .bool stop, .string name] 28)).alloc (.cells #[] 3)).ownsRow X1.heap.size 3 1 (.slice (some ⟨w.heap.size + 1, 0, none⟩) 0 0) 0 []) := Lib.hid (by rw [← hX1, ← hs1]; exact World.ownsRow_made X1 #[] 0 (Nat.le_refl _) (Nat.zero_le _) (by simp))
  have HT : Hid (X1.cell? ⟨w.heap.size, 3, none⟩ = some (.int .i64 till) ∧ w.heap.size < X1.heap.size) := Lib.hid ⟨by rw [hX1, Lib.cell_of_heap (heap_alloc_new w _)]; rfl, by omega⟩
  have HBX := Lib.hid hbX1
  have hx1a : X1.heap.size ≤ w.heap.size + 1 ∧ w.heap.size + 1 ≤ X1.heap.size := by omega
  have hr := hR
  clear hi hz0 hz1 hz2 hR hX1 hbX1 hs1
  cases stop with
  | true =>
    by_cases h1 : till < day
    · have hd1 : decide (till < day) = true := decide_eq_true h1
      by_cases h2 : 1000 < owed
      · have hd2 : decide (1000 < owed) = true := decide_eq_true h2
        by_cases h3 : 2 < late
        · have hd3 : decide (2 < late) = true := decide_eq_true h3
          have hr2 := hr
          rw [hd1, hd2, hd3] at hr2
          have HR := Lib.hid hr2
          clear hr hr2 hd1 hd2 hd3
          go_enter Tryd.func20, Tryd.ntmps20
          have hs1 := HB0.out.size
          go_wp2_with (at_builtin; refine wpList_append_own _ rfl _ _ 36 rfl X1.heap.size 3 i0 (.int .i64 0) 1 8 Tryd.underlying36 HI.out HZ0.out HZ1.out HZ2.out rfl (by decide) _ _ _ rfl (HO0.out.alloc _) _ 1 1 [.int .i64 1] rfl rfl ?c1 ?c2 ?c3 ?c4 ?c5 ?_)
          try (case c1 => exact cell_new_at (by simp))
          try (case c2 => simp [Value.oneCell'])
          try (case c3 => unfold maxLen; omega)
          try (case c4 => omega)
          try (case c5 => first | omega | (simp; omega))
          intro v1 w1 hown1 hgrow1 _
          have HO1 : Hid (w1.ownsRow X1.heap.size 3 1 v1 1 [.int .i64 1]) := Lib.hid (by simpa using hown1)
          have HB1 : Hid (Below X1.heap.size X1 w1) := Lib.hid ((HB0.out.alloc hs1 _).grown hgrow1 (by simp; omega) (fun q hq => (HO0.out.lt q hq).1))
          have hx1 : w1.cell? ⟨w.heap.size, 3, none⟩ = some (.int .i64 till) := (HB1.out.cell (p := ⟨w.heap.size, 3, none⟩) HT.out.2).trans HT.out.1
          clear hown1 hgrow1
          have hs2 := HB1.out.size
          go_wp2_with (at_builtin; refine wpList_append_own _ rfl _ _ 36 rfl X1.heap.size 3 i0 (.int .i64 0) 1 8 Tryd.underlying36 HI.out HZ0.out HZ1.out HZ2.out rfl (by decide) _ _ _ rfl (HO1.out.alloc _) _ 1 1 [.int .i64 2] rfl rfl ?c1 ?c2 ?c3 ?c4 ?c5 ?_)
          try (case c1 => exact cell_new_at (by simp))
          try (case c2 => simp [Value.oneCell'])
          try (case c3 => unfold maxLen; omega)
          try (case c4 => omega)
          try (case c5 => first | omega | (simp; omega))
          intro v2 w2 hown2 hgrow2 _
          have HO2 : Hid (w2.ownsRow X1.heap.size 3 1 v2 2 [.int .i64 1, .int .i64 2]) := Lib.hid (by simpa using hown2)
          have HB2 : Hid (Below X1.heap.size X1 w2) := Lib.hid ((HB1.out.alloc hs2 _).grown hgrow2 (by simp; omega) (fun q hq => (HO1.out.lt q hq).1))
          have hx2 : w2.cell? ⟨w.heap.size, 3, none⟩ = some (.int .i64 till) := (HB2.out.cell (p := ⟨w.heap.size, 3, none⟩) HT.out.2).trans HT.out.1
          clear hown2 hgrow2
          have hs3 := HB2.out.size
          go_wp2_with (at_builtin; refine wpList_append_own _ rfl _ _ 36 rfl X1.heap.size 3 i0 (.int .i64 0) 1 8 Tryd.underlying36 HI.out HZ0.out HZ1.out HZ2.out rfl (by decide) _ _ _ rfl (HO2.out.alloc _) _ 1 1 [.int .i64 3] rfl rfl ?c1 ?c2 ?c3 ?c4 ?c5 ?_)
          try (case c1 => exact cell_new_at (by simp))
          try (case c2 => simp [Value.oneCell'])
          try (case c3 => unfold maxLen; omega)
          try (case c4 => omega)
          try (case c5 => first | omega | (simp; omega))
          intro v3 w3 hown3 hgrow3 _
          have HO3 : Hid (w3.ownsRow X1.heap.size 3 1 v3 3 [.int .i64 1, .int .i64 2, .int .i64 3]) := Lib.hid (by simpa using hown3)
          have HB3 : Hid (Below X1.heap.size X1 w3) := Lib.hid ((HB2.out.alloc hs3 _).grown hgrow3 (by simp; omega) (fun q hq => (HO2.out.lt q hq).1))
          have hx3 : w3.cell? ⟨w.heap.size, 3, none⟩ = some (.int .i64 till) := (HB3.out.cell (p := ⟨w.heap.size, 3, none⟩) HT.out.2).trans HT.out.1
          clear hown3 hgrow3
          have hs4 := HB3.out.size
          go_wp2_with (at_builtin; refine wpList_append_own _ rfl _ _ 36 rfl X1.heap.size 3 i0 (.int .i64 0) 1 8 Tryd.underlying36 HI.out HZ0.out HZ1.out HZ2.out rfl (by decide) _ _ _ rfl (HO3.out.alloc _) _ 1 1 [.int .i64 4] rfl rfl ?c1 ?c2 ?c3 ?c4 ?c5 ?_)
          try (case c1 => exact cell_new_at (by simp))
          try (case c2 => simp [Value.oneCell'])
          try (case c3 => unfold maxLen; omega)
          try (case c4 => omega)
          try (case c5 => first | omega | (simp; omega))
          intro v4 w4 hown4 hgrow4 _
          have HO4 : Hid (w4.ownsRow X1.heap.size 3 1 v4 4 [.int .i64 1, .int .i64 2, .int .i64 3, .int .i64 4]) := Lib.hid (by simpa using hown4)
          have HB4 : Hid (Below X1.heap.size X1 w4) := Lib.hid ((HB3.out.alloc hs4 _).grown hgrow4 (by simp; omega) (fun q hq => (HO3.out.lt q hq).1))
          have hx4 : w4.cell? ⟨w.heap.size, 3, none⟩ = some (.int .i64 till) := (HB4.out.cell (p := ⟨w.heap.size, 3, none⟩) HT.out.2).trans HT.out.1
          clear hown4 hgrow4
          go_wp2
          go_ret
          exact ⟨_, rfl, by rw [HR.out]; exact Ints.of_own (xs := ([1, 2, 3, 4] : List Int)) HO4.out rfl, HBX.out.trans (HB4.out.mono HBX.out.size)⟩
        · have hd3 : decide (2 < late) = false := decide_eq_false h3
          have g3 : late ≤ 2 := by omega
          clear h3
          have hr2 := hr
          rw [hd1, hd2, hd3] at hr2
          have HR := Lib.hid hr2
          clear hr hr2 hd1 hd2 hd3
          go_enter Tryd.func20, Tryd.ntmps20
          have hs1 := HB0.out.size
          go_wp2_with (at_builtin; refine wpList_append_own _ rfl _ _ 36 rfl X1.heap.size 3 i0 (.int .i64 0) 1 8 Tryd.underlying36 HI.out HZ0.out HZ1.out HZ2.out rfl (by decide) _ _ _ rfl (HO0.out.alloc _) _ 1 1 [.int .i64 1] rfl rfl ?c1 ?c2 ?c3 ?c4 ?c5 ?_)
          try (case c1 => exact cell_new_at (by simp))
          try (case c2 => simp [Value.oneCell'])
          try (case c3 => unfold maxLen; omega)
          try (case c4 => omega)
          try (case c5 => first | omega | (simp; omega))
          intro v1 w1 hown1 hgrow1 _
          have HO1 : Hid (w1.ownsRow X1.heap.size 3 1 v1 1 [.int .i64 1]) := Lib.hid (by simpa using hown1)
          have HB1 : Hid (Below X1.heap.size X1 w1) := Lib.hid ((HB0.out.alloc hs1 _).grown hgrow1 (by simp; omega) (fun q hq => (HO0.out.lt q hq).1))
          have hx1 : w1.cell? ⟨w.heap.size, 3, none⟩ = some (.int .i64 till) := (HB1.out.cell (p := ⟨w.heap.size, 3, none⟩) HT.out.2).trans HT.out.1
          clear hown1 hgrow1
          have hs2 := HB1.out.size
          go_wp2_with (at_builtin; refine wpList_append_own _ rfl _ _ 36 rfl X1.heap.size 3 i0 (.int .i64 0) 1 8 Tryd.underlying36 HI.out HZ0.out HZ1.out HZ2.out rfl (by decide) _ _ _ rfl (HO1.out.alloc _) _ 1 1 [.int .i64 2] rfl rfl ?c1 ?c2 ?c3 ?c4 ?c5 ?_)
          try (case c1 => exact cell_new_at (by simp))
          try (case c2 => simp [Value.oneCell'])
          try (case c3 => unfold maxLen; omega)
          try (case c4 => omega)
          try (case c5 => first | omega | (simp; omega))
          intro v2 w2 hown2 hgrow2 _
          have HO2 : Hid (w2.ownsRow X1.heap.size 3 1 v2 2 [.int .i64 1, .int .i64 2]) := Lib.hid (by simpa using hown2)
          have HB2 : Hid (Below X1.heap.size X1 w2) := Lib.hid ((HB1.out.alloc hs2 _).grown hgrow2 (by simp; omega) (fun q hq => (HO1.out.lt q hq).1))
          have hx2 : w2.cell? ⟨w.heap.size, 3, none⟩ = some (.int .i64 till) := (HB2.out.cell (p := ⟨w.heap.size, 3, none⟩) HT.out.2).trans HT.out.1
          clear hown2 hgrow2
          have hs3 := HB2.out.size
          go_wp2_with (at_builtin; refine wpList_append_own _ rfl _ _ 36 rfl X1.heap.size 3 i0 (.int .i64 0) 1 8 Tryd.underlying36 HI.out HZ0.out HZ1.out HZ2.out rfl (by decide) _ _ _ rfl (HO2.out.alloc _) _ 1 1 [.int .i64 3] rfl rfl ?c1 ?c2 ?c3 ?c4 ?c5 ?_)
          try (case c1 => exact cell_new_at (by simp))
          try (case c2 => simp [Value.oneCell'])
          try (case c3 => unfold maxLen; omega)
          try (case c4 => omega)
          try (case c5 => first | omega | (simp; omega))
          intro v3 w3 hown3 hgrow3 _
          have HO3 : Hid (w3.ownsRow X1.heap.size 3 1 v3 3 [.int .i64 1, .int .i64 2, .int .i64 3]) := Lib.hid (by simpa using hown3)
          have HB3 : Hid (Below X1.heap.size X1 w3) := Lib.hid ((HB2.out.alloc hs3 _).grown hgrow3 (by simp; omega) (fun q hq => (HO2.out.lt q hq).1))
          have hx3 : w3.cell? ⟨w.heap.size, 3, none⟩ = some (.int .i64 till) := (HB3.out.cell (p := ⟨w.heap.size, 3, none⟩) HT.out.2).trans HT.out.1
          clear hown3 hgrow3
          go_wp2
          go_ret
          exact ⟨_, rfl, by rw [HR.out]; exact Ints.of_own (xs := ([1, 2, 3] : List Int)) HO3.out rfl, HBX.out.trans (HB3.out.mono HBX.out.size)⟩
      · have hd2 : decide (1000 < owed) = false := decide_eq_false h2
        have g2 : owed ≤ 1000 := by omega
        clear h2
        by_cases h3 : 2 < late
        · have hd3 : decide (2 < late) = true := decide_eq_true h3
          have hr2 := hr
          rw [hd1, hd2, hd3] at hr2
          have HR := Lib.hid hr2
          clear hr hr2 hd1 hd2 hd3
          go_enter Tryd.func20, Tryd.ntmps20
          have hs1 := HB0.out.size
          go_wp2_with (at_builtin; refine wpList_append_own _ rfl _ _ 36 rfl X1.heap.size 3 i0 (.int .i64 0) 1 8 Tryd.underlying36 HI.out HZ0.out HZ1.out HZ2.out rfl (by decide) _ _ _ rfl (HO0.out.alloc _) _ 1 1 [.int .i64 1] rfl rfl ?c1 ?c2 ?c3 ?c4 ?c5 ?_)
          try (case c1 => exact cell_new_at (by simp))
          try (case c2 => simp [Value.oneCell'])
          try (case c3 => unfold maxLen; omega)
          try (case c4 => omega)
          try (case c5 => first | omega | (simp; omega))
          intro v1 w1 hown1 hgrow1 _
          have HO1 : Hid (w1.ownsRow X1.heap.size 3 1 v1 1 [.int .i64 1]) := Lib.hid (by simpa using hown1)
          have HB1 : Hid (Below X1.heap.size X1 w1) := Lib.hid ((HB0.out.alloc hs1 _).grown hgrow1 (by simp; omega) (fun q hq => (HO0.out.lt q hq).1))
          have hx1 : w1.cell? ⟨w.heap.size, 3, none⟩ = some (.int .i64 till) := (HB1.out.cell (p := ⟨w.heap.size, 3, none⟩) HT.out.2).trans HT.out.1
          clear hown1 hgrow1
          have hs2 := HB1.out.size
          go_wp2_with (at_builtin; refine wpList_append_own _ rfl _ _ 36 rfl X1.heap.size 3 i0 (.int .i64 0) 1 8 Tryd.underlying36 HI.out HZ0.out HZ1.out HZ2.out rfl (by decide) _ _ _ rfl (HO1.out.alloc _) _ 1 1 [.int .i64 2] rfl rfl ?c1 ?c2 ?c3 ?c4 ?c5 ?_)
          try (case c1 => exact cell_new_at (by simp))
          try (case c2 => simp [Value.oneCell'])
          try (case c3 => unfold maxLen; omega)
          try (case c4 => omega)
          try (case c5 => first | omega | (simp; omega))
          intro v2 w2 hown2 hgrow2 _
          have HO2 : Hid (w2.ownsRow X1.heap.size 3 1 v2 2 [.int .i64 1, .int .i64 2]) := Lib.hid (by simpa using hown2)
          have HB2 : Hid (Below X1.heap.size X1 w2) := Lib.hid ((HB1.out.alloc hs2 _).grown hgrow2 (by simp; omega) (fun q hq => (HO1.out.lt q hq).1))
          have hx2 : w2.cell? ⟨w.heap.size, 3, none⟩ = some (.int .i64 till) := (HB2.out.cell (p := ⟨w.heap.size, 3, none⟩) HT.out.2).trans HT.out.1
          clear hown2 hgrow2
          have hs3 := HB2.out.size
          go_wp2_with (at_builtin; refine wpList_append_own _ rfl _ _ 36 rfl X1.heap.size 3 i0 (.int .i64 0) 1 8 Tryd.underlying36 HI.out HZ0.out HZ1.out HZ2.out rfl (by decide) _ _ _ rfl (HO2.out.alloc _) _ 1 1 [.int .i64 4] rfl rfl ?c1 ?c2 ?c3 ?c4 ?c5 ?_)
          try (case c1 => exact cell_new_at (by simp))
          try (case c2 => simp [Value.oneCell'])
          try (case c3 => unfold maxLen; omega)
          try (case c4 => omega)
          try (case c5 => first | omega | (simp; omega))
          intro v3 w3 hown3 hgrow3 _
          have HO3 : Hid (w3.ownsRow X1.heap.size 3 1 v3 3 [.int .i64 1, .int .i64 2, .int .i64 4]) := Lib.hid (by simpa using hown3)
          have HB3 : Hid (Below X1.heap.size X1 w3) := Lib.hid ((HB2.out.alloc hs3 _).grown hgrow3 (by simp; omega) (fun q hq => (HO2.out.lt q hq).1))
          have hx3 : w3.cell? ⟨w.heap.size, 3, none⟩ = some (.int .i64 till) := (HB3.out.cell (p := ⟨w.heap.size, 3, none⟩) HT.out.2).trans HT.out.1
          clear hown3 hgrow3
          go_wp2
          go_ret
          exact ⟨_, rfl, by rw [HR.out]; exact Ints.of_own (xs := ([1, 2, 4] : List Int)) HO3.out rfl, HBX.out.trans (HB3.out.mono HBX.out.size)⟩
        · have hd3 : decide (2 < late) = false := decide_eq_false h3
          have g3 : late ≤ 2 := by omega
          clear h3
          have hr2 := hr
          rw [hd1, hd2, hd3] at hr2
          have HR := Lib.hid hr2
          clear hr hr2 hd1 hd2 hd3
          go_enter Tryd.func20, Tryd.ntmps20
          have hs1 := HB0.out.size
          go_wp2_with (at_builtin; refine wpList_append_own _ rfl _ _ 36 rfl X1.heap.size 3 i0 (.int .i64 0) 1 8 Tryd.underlying36 HI.out HZ0.out HZ1.out HZ2.out rfl (by decide) _ _ _ rfl (HO0.out.alloc _) _ 1 1 [.int .i64 1] rfl rfl ?c1 ?c2 ?c3 ?c4 ?c5 ?_)
          try (case c1 => exact cell_new_at (by simp))
          try (case c2 => simp [Value.oneCell'])
          try (case c3 => unfold maxLen; omega)
          try (case c4 => omega)
          try (case c5 => first | omega | (simp; omega))
          intro v1 w1 hown1 hgrow1 _
          have HO1 : Hid (w1.ownsRow X1.heap.size 3 1 v1 1 [.int .i64 1]) := Lib.hid (by simpa using hown1)
          have HB1 : Hid (Below X1.heap.size X1 w1) := Lib.hid ((HB0.out.alloc hs1 _).grown hgrow1 (by simp; omega) (fun q hq => (HO0.out.lt q hq).1))
          have hx1 : w1.cell? ⟨w.heap.size, 3, none⟩ = some (.int .i64 till) := (HB1.out.cell (p := ⟨w.heap.size, 3, none⟩) HT.out.2).trans HT.out.1
          clear hown1 hgrow1
          have hs2 := HB1.out.size
          go_wp2_with (at_builtin; refine wpList_append_own _ rfl _ _ 36 rfl X1.heap.size 3 i0 (.int .i64 0) 1 8 Tryd.underlying36 HI.out HZ0.out HZ1.out HZ2.out rfl (by decide) _ _ _ rfl (HO1.out.alloc _) _ 1 1 [.int .i64 2] rfl rfl ?c1 ?c2 ?c3 ?c4 ?c5 ?_)
          try (case c1 => exact cell_new_at (by simp))
          try (case c2 => simp [Value.oneCell'])
          try (case c3 => unfold maxLen; omega)
          try (case c4 => omega)
          try (case c5 => first | omega | (simp; omega))
          intro v2 w2 hown2 hgrow2 _
          have HO2 : Hid (w2.ownsRow X1.heap.size 3 1 v2 2 [.int .i64 1, .int .i64 2]) := Lib.hid (by simpa using hown2)
          have HB2 : Hid (Below X1.heap.size X1 w2) := Lib.hid ((HB1.out.alloc hs2 _).grown hgrow2 (by simp; omega) (fun q hq => (HO1.out.lt q hq).1))
          have hx2 : w2.cell? ⟨w.heap.size, 3, none⟩ = some (.int .i64 till) := (HB2.out.cell (p := ⟨w.heap.size, 3, none⟩) HT.out.2).trans HT.out.1
          clear hown2 hgrow2
          go_wp2
          go_ret
          exact ⟨_, rfl, by rw [HR.out]; exact Ints.of_own (xs := ([1, 2] : List Int)) HO2.out rfl, HBX.out.trans (HB2.out.mono HBX.out.size)⟩
    · have hd1 : decide (till < day) = false := decide_eq_false h1
      have g1 : day ≤ till := by omega
      clear h1
      by_cases h2 : 1000 < owed
      · have hd2 : decide (1000 < owed) = true := decide_eq_true h2
        by_cases h3 : 2 < late
        · have hd3 : decide (2 < late) = true := decide_eq_true h3
          have hr2 := hr
          rw [hd1, hd2, hd3] at hr2
          have HR := Lib.hid hr2
          clear hr hr2 hd1 hd2 hd3
          go_enter Tryd.func20, Tryd.ntmps20
          have hs1 := HB0.out.size
          go_wp2_with (at_builtin; refine wpList_append_own _ rfl _ _ 36 rfl X1.heap.size 3 i0 (.int .i64 0) 1 8 Tryd.underlying36 HI.out HZ0.out HZ1.out HZ2.out rfl (by decide) _ _ _ rfl (HO0.out.alloc _) _ 1 1 [.int .i64 1] rfl rfl ?c1 ?c2 ?c3 ?c4 ?c5 ?_)
          try (case c1 => exact cell_new_at (by simp))
          try (case c2 => simp [Value.oneCell'])
          try (case c3 => unfold maxLen; omega)
          try (case c4 => omega)
          try (case c5 => first | omega | (simp; omega))
          intro v1 w1 hown1 hgrow1 _
          have HO1 : Hid (w1.ownsRow X1.heap.size 3 1 v1 1 [.int .i64 1]) := Lib.hid (by simpa using hown1)
          have HB1 : Hid (Below X1.heap.size X1 w1) := Lib.hid ((HB0.out.alloc hs1 _).grown hgrow1 (by simp; omega) (fun q hq => (HO0.out.lt q hq).1))
          have hx1 : w1.cell? ⟨w.heap.size, 3, none⟩ = some (.int .i64 till) := (HB1.out.cell (p := ⟨w.heap.size, 3, none⟩) HT.out.2).trans HT.out.1
          clear hown1 hgrow1
          have hs2 := HB1.out.size
          go_wp2_with (at_builtin; refine wpList_append_own _ rfl _ _ 36 rfl X1.heap.size 3 i0 (.int .i64 0) 1 8 Tryd.underlying36 HI.out HZ0.out HZ1.out HZ2.out rfl (by decide) _ _ _ rfl (HO1.out.alloc _) _ 1 1 [.int .i64 3] rfl rfl ?c1 ?c2 ?c3 ?c4 ?c5 ?_)
          try (case c1 => exact cell_new_at (by simp))
          try (case c2 => simp [Value.oneCell'])
          try (case c3 => unfold maxLen; omega)
          try (case c4 => omega)
          try (case c5 => first | omega | (simp; omega))
          intro v2 w2 hown2 hgrow2 _
          have HO2 : Hid (w2.ownsRow X1.heap.size 3 1 v2 2 [.int .i64 1, .int .i64 3]) := Lib.hid (by simpa using hown2)
          have HB2 : Hid (Below X1.heap.size X1 w2) := Lib.hid ((HB1.out.alloc hs2 _).grown hgrow2 (by simp; omega) (fun q hq => (HO1.out.lt q hq).1))
          have hx2 : w2.cell? ⟨w.heap.size, 3, none⟩ = some (.int .i64 till) := (HB2.out.cell (p := ⟨w.heap.size, 3, none⟩) HT.out.2).trans HT.out.1
          clear hown2 hgrow2
          have hs3 := HB2.out.size
          go_wp2_with (at_builtin; refine wpList_append_own _ rfl _ _ 36 rfl X1.heap.size 3 i0 (.int .i64 0) 1 8 Tryd.underlying36 HI.out HZ0.out HZ1.out HZ2.out rfl (by decide) _ _ _ rfl (HO2.out.alloc _) _ 1 1 [.int .i64 4] rfl rfl ?c1 ?c2 ?c3 ?c4 ?c5 ?_)
          try (case c1 => exact cell_new_at (by simp))
          try (case c2 => simp [Value.oneCell'])
          try (case c3 => unfold maxLen; omega)
          try (case c4 => omega)
          try (case c5 => first | omega | (simp; omega))
          intro v3 w3 hown3 hgrow3 _
          have HO3 : Hid (w3.ownsRow X1.heap.size 3 1 v3 3 [.int .i64 1, .int .i64 3, .int .i64 4]) := Lib.hid (by simpa using hown3)
          have HB3 : Hid (Below X1.heap.size X1 w3) := Lib.hid ((HB2.out.alloc hs3 _).grown hgrow3 (by simp; omega) (fun q hq => (HO2.out.lt q hq).1))
          have hx3 : w3.cell? ⟨w.heap.size, 3, none⟩ = some (.int .i64 till) := (HB3.out.cell (p := ⟨w.heap.size, 3, none⟩) HT.out.2).trans HT.out.1
          clear hown3 hgrow3
          go_wp2
          go_ret
          exact ⟨_, rfl, by rw [HR.out]; exact Ints.of_own (xs := ([1, 3, 4] : List Int)) HO3.out rfl, HBX.out.trans (HB3.out.mono HBX.out.size)⟩
        · have hd3 : decide (2 < late) = false := decide_eq_false h3
          have g3 : late ≤ 2 := by omega
          clear h3
          have hr2 := hr
          rw [hd1, hd2, hd3] at hr2
          have HR := Lib.hid hr2
          clear hr hr2 hd1 hd2 hd3
          go_enter Tryd.func20, Tryd.ntmps20
          have hs1 := HB0.out.size
          go_wp2_with (at_builtin; refine wpList_append_own _ rfl _ _ 36 rfl X1.heap.size 3 i0 (.int .i64 0) 1 8 Tryd.underlying36 HI.out HZ0.out HZ1.out HZ2.out rfl (by decide) _ _ _ rfl (HO0.out.alloc _) _ 1 1 [.int .i64 1] rfl rfl ?c1 ?c2 ?c3 ?c4 ?c5 ?_)
          try (case c1 => exact cell_new_at (by simp))
          try (case c2 => simp [Value.oneCell'])
          try (case c3 => unfold maxLen; omega)
          try (case c4 => omega)
          try (case c5 => first | omega | (simp; omega))
          intro v1 w1 hown1 hgrow1 _
          have HO1 : Hid (w1.ownsRow X1.heap.size 3 1 v1 1 [.int .i64 1]) := Lib.hid (by simpa using hown1)
          have HB1 : Hid (Below X1.heap.size X1 w1) := Lib.hid ((HB0.out.alloc hs1 _).grown hgrow1 (by simp; omega) (fun q hq => (HO0.out.lt q hq).1))
          have hx1 : w1.cell? ⟨w.heap.size, 3, none⟩ = some (.int .i64 till) := (HB1.out.cell (p := ⟨w.heap.size, 3, none⟩) HT.out.2).trans HT.out.1
          clear hown1 hgrow1
          have hs2 := HB1.out.size
          go_wp2_with (at_builtin; refine wpList_append_own _ rfl _ _ 36 rfl X1.heap.size 3 i0 (.int .i64 0) 1 8 Tryd.underlying36 HI.out HZ0.out HZ1.out HZ2.out rfl (by decide) _ _ _ rfl (HO1.out.alloc _) _ 1 1 [.int .i64 3] rfl rfl ?c1 ?c2 ?c3 ?c4 ?c5 ?_)
          try (case c1 => exact cell_new_at (by simp))
          try (case c2 => simp [Value.oneCell'])
          try (case c3 => unfold maxLen; omega)
          try (case c4 => omega)
          try (case c5 => first | omega | (simp; omega))
          intro v2 w2 hown2 hgrow2 _
          have HO2 : Hid (w2.ownsRow X1.heap.size 3 1 v2 2 [.int .i64 1, .int .i64 3]) := Lib.hid (by simpa using hown2)
          have HB2 : Hid (Below X1.heap.size X1 w2) := Lib.hid ((HB1.out.alloc hs2 _).grown hgrow2 (by simp; omega) (fun q hq => (HO1.out.lt q hq).1))
          have hx2 : w2.cell? ⟨w.heap.size, 3, none⟩ = some (.int .i64 till) := (HB2.out.cell (p := ⟨w.heap.size, 3, none⟩) HT.out.2).trans HT.out.1
          clear hown2 hgrow2
          go_wp2
          go_ret
          exact ⟨_, rfl, by rw [HR.out]; exact Ints.of_own (xs := ([1, 3] : List Int)) HO2.out rfl, HBX.out.trans (HB2.out.mono HBX.out.size)⟩
      · have hd2 : decide (1000 < owed) = false := decide_eq_false h2
        have g2 : owed ≤ 1000 := by omega
        clear h2
        by_cases h3 : 2 < late
        · have hd3 : decide (2 < late) = true := decide_eq_true h3
          have hr2 := hr
          rw [hd1, hd2, hd3] at hr2
          have HR := Lib.hid hr2
          clear hr hr2 hd1 hd2 hd3
          go_enter Tryd.func20, Tryd.ntmps20
          have hs1 := HB0.out.size
          go_wp2_with (at_builtin; refine wpList_append_own _ rfl _ _ 36 rfl X1.heap.size 3 i0 (.int .i64 0) 1 8 Tryd.underlying36 HI.out HZ0.out HZ1.out HZ2.out rfl (by decide) _ _ _ rfl (HO0.out.alloc _) _ 1 1 [.int .i64 1] rfl rfl ?c1 ?c2 ?c3 ?c4 ?c5 ?_)
          try (case c1 => exact cell_new_at (by simp))
          try (case c2 => simp [Value.oneCell'])
          try (case c3 => unfold maxLen; omega)
          try (case c4 => omega)
          try (case c5 => first | omega | (simp; omega))
          intro v1 w1 hown1 hgrow1 _
          have HO1 : Hid (w1.ownsRow X1.heap.size 3 1 v1 1 [.int .i64 1]) := Lib.hid (by simpa using hown1)
          have HB1 : Hid (Below X1.heap.size X1 w1) := Lib.hid ((HB0.out.alloc hs1 _).grown hgrow1 (by simp; omega) (fun q hq => (HO0.out.lt q hq).1))
          have hx1 : w1.cell? ⟨w.heap.size, 3, none⟩ = some (.int .i64 till) := (HB1.out.cell (p := ⟨w.heap.size, 3, none⟩) HT.out.2).trans HT.out.1
          clear hown1 hgrow1
          have hs2 := HB1.out.size
          go_wp2_with (at_builtin; refine wpList_append_own _ rfl _ _ 36 rfl X1.heap.size 3 i0 (.int .i64 0) 1 8 Tryd.underlying36 HI.out HZ0.out HZ1.out HZ2.out rfl (by decide) _ _ _ rfl (HO1.out.alloc _) _ 1 1 [.int .i64 4] rfl rfl ?c1 ?c2 ?c3 ?c4 ?c5 ?_)
          try (case c1 => exact cell_new_at (by simp))
          try (case c2 => simp [Value.oneCell'])
          try (case c3 => unfold maxLen; omega)
          try (case c4 => omega)
          try (case c5 => first | omega | (simp; omega))
          intro v2 w2 hown2 hgrow2 _
          have HO2 : Hid (w2.ownsRow X1.heap.size 3 1 v2 2 [.int .i64 1, .int .i64 4]) := Lib.hid (by simpa using hown2)
          have HB2 : Hid (Below X1.heap.size X1 w2) := Lib.hid ((HB1.out.alloc hs2 _).grown hgrow2 (by simp; omega) (fun q hq => (HO1.out.lt q hq).1))
          have hx2 : w2.cell? ⟨w.heap.size, 3, none⟩ = some (.int .i64 till) := (HB2.out.cell (p := ⟨w.heap.size, 3, none⟩) HT.out.2).trans HT.out.1
          clear hown2 hgrow2
          go_wp2
          go_ret
          exact ⟨_, rfl, by rw [HR.out]; exact Ints.of_own (xs := ([1, 4] : List Int)) HO2.out rfl, HBX.out.trans (HB2.out.mono HBX.out.size)⟩
        · have hd3 : decide (2 < late) = false := decide_eq_false h3
          have g3 : late ≤ 2 := by omega
          clear h3
          have hr2 := hr
          rw [hd1, hd2, hd3] at hr2
          have HR := Lib.hid hr2
          clear hr hr2 hd1 hd2 hd3
          go_enter Tryd.func20, Tryd.ntmps20
          have hs1 := HB0.out.size
          go_wp2_with (at_builtin; refine wpList_append_own _ rfl _ _ 36 rfl X1.heap.size 3 i0 (.int .i64 0) 1 8 Tryd.underlying36 HI.out HZ0.out HZ1.out HZ2.out rfl (by decide) _ _ _ rfl (HO0.out.alloc _) _ 1 1 [.int .i64 1] rfl rfl ?c1 ?c2 ?c3 ?c4 ?c5 ?_)
          try (case c1 => exact cell_new_at (by simp))
          try (case c2 => simp [Value.oneCell'])
          try (case c3 => unfold maxLen; omega)
          try (case c4 => omega)
          try (case c5 => first | omega | (simp; omega))
          intro v1 w1 hown1 hgrow1 _
          have HO1 : Hid (w1.ownsRow X1.heap.size 3 1 v1 1 [.int .i64 1]) := Lib.hid (by simpa using hown1)
          have HB1 : Hid (Below X1.heap.size X1 w1) := Lib.hid ((HB0.out.alloc hs1 _).grown hgrow1 (by simp; omega) (fun q hq => (HO0.out.lt q hq).1))
          have hx1 : w1.cell? ⟨w.heap.size, 3, none⟩ = some (.int .i64 till) := (HB1.out.cell (p := ⟨w.heap.size, 3, none⟩) HT.out.2).trans HT.out.1
          clear hown1 hgrow1
          go_wp2
          go_ret
          exact ⟨_, rfl, by rw [HR.out]; exact Ints.of_own (xs := ([1] : List Int)) HO1.out rfl, HBX.out.trans (HB1.out.mono HBX.out.size)⟩
  | false =>
    by_cases h1 : till < day
    · have hd1 : decide (till < day) = true := decide_eq_true h1
      by_cases h2 : 1000 < owed
      · have hd2 : decide (1000 < owed) = true := decide_eq_true h2
        by_cases h3 : 2 < late
        · have hd3 : decide (2 < late) = true := decide_eq_true h3
          have hr2 := hr
          rw [hd1, hd2, hd3] at hr2
          have HR := Lib.hid hr2
          clear hr hr2 hd1 hd2 hd3
          go_enter Tryd.func20, Tryd.ntmps20
          have hs1 := HB0.out.size
          go_wp2_with (at_builtin; refine wpList_append_own _ rfl _ _ 36 rfl X1.heap.size 3 i0 (.int .i64 0) 1 8 Tryd.underlying36 HI.out HZ0.out HZ1.out HZ2.out rfl (by decide) _ _ _ rfl (HO0.out.alloc _) _ 1 1 [.int .i64 2] rfl rfl ?c1 ?c2 ?c3 ?c4 ?c5 ?_)
          try (case c1 => exact cell_new_at (by simp))
          try (case c2 => simp [Value.oneCell'])
          try (case c3 => unfold maxLen; omega)
          try (case c4 => omega)
          try (case c5 => first | omega | (simp; omega))
          intro v1 w1 hown1 hgrow1 _
          have HO1 : Hid (w1.ownsRow X1.heap.size 3 1 v1 1 [.int .i64 2]) := Lib.hid (by simpa using hown1)
          have HB1 : Hid (Below X1.heap.size X1 w1) := Lib.hid ((HB0.out.alloc hs1 _).grown hgrow1 (by simp; omega) (fun q hq => (HO0.out.lt q hq).1))
          have hx1 : w1.cell? ⟨w.heap.size, 3, none⟩ = some (.int .i64 till) := (HB1.out.cell (p := ⟨w.heap.size, 3, none⟩) HT.out.2).trans HT.out.1
          clear hown1 hgrow1
          have hs2 := HB1.out.size
          go_wp2_with (at_builtin; refine wpList_append_own _ rfl _ _ 36 rfl X1.heap.size 3 i0 (.int .i64 0) 1 8 Tryd.underlying36 HI.out HZ0.out HZ1.out HZ2.out rfl (by decide) _ _ _ rfl (HO1.out.alloc _) _ 1 1 [.int .i64 3] rfl rfl ?c1 ?c2 ?c3 ?c4 ?c5 ?_)
          try (case c1 => exact cell_new_at (by simp))
          try (case c2 => simp [Value.oneCell'])
          try (case c3 => unfold maxLen; omega)
          try (case c4 => omega)
          try (case c5 => first | omega | (simp; omega))
          intro v2 w2 hown2 hgrow2 _
          have HO2 : Hid (w2.ownsRow X1.heap.size 3 1 v2 2 [.int .i64 2, .int .i64 3]) := Lib.hid (by simpa using hown2)
          have HB2 : Hid (Below X1.heap.size X1 w2) := Lib.hid ((HB1.out.alloc hs2 _).grown hgrow2 (by simp; omega) (fun q hq => (HO1.out.lt q hq).1))
          have hx2 : w2.cell? ⟨w.heap.size, 3, none⟩ = some (.int .i64 till) := (HB2.out.cell (p := ⟨w.heap.size, 3, none⟩) HT.out.2).trans HT.out.1
          clear hown2 hgrow2
          have hs3 := HB2.out.size
          go_wp2_with (at_builtin; refine wpList_append_own _ rfl _ _ 36 rfl X1.heap.size 3 i0 (.int .i64 0) 1 8 Tryd.underlying36 HI.out HZ0.out HZ1.out HZ2.out rfl (by decide) _ _ _ rfl (HO2.out.alloc _) _ 1 1 [.int .i64 4] rfl rfl ?c1 ?c2 ?c3 ?c4 ?c5 ?_)
          try (case c1 => exact cell_new_at (by simp))
          try (case c2 => simp [Value.oneCell'])
          try (case c3 => unfold maxLen; omega)
          try (case c4 => omega)
          try (case c5 => first | omega | (simp; omega))
          intro v3 w3 hown3 hgrow3 _
          have HO3 : Hid (w3.ownsRow X1.heap.size 3 1 v3 3 [.int .i64 2, .int .i64 3, .int .i64 4]) := Lib.hid (by simpa using hown3)
          have HB3 : Hid (Below X1.heap.size X1 w3) := Lib.hid ((HB2.out.alloc hs3 _).grown hgrow3 (by simp; omega) (fun q hq => (HO2.out.lt q hq).1))
          have hx3 : w3.cell? ⟨w.heap.size, 3, none⟩ = some (.int .i64 till) := (HB3.out.cell (p := ⟨w.heap.size, 3, none⟩) HT.out.2).trans HT.out.1
          clear hown3 hgrow3
          go_wp2
          go_ret
          exact ⟨_, rfl, by rw [HR.out]; exact Ints.of_own (xs := ([2, 3, 4] : List Int)) HO3.out rfl, HBX.out.trans (HB3.out.mono HBX.out.size)⟩
        · have hd3 : decide (2 < late) = false := decide_eq_false h3
          have g3 : late ≤ 2 := by omega
          clear h3
          have hr2 := hr
          rw [hd1, hd2, hd3] at hr2
          have HR := Lib.hid hr2
          clear hr hr2 hd1 hd2 hd3
          go_enter Tryd.func20, Tryd.ntmps20
          have hs1 := HB0.out.size
          go_wp2_with (at_builtin; refine wpList_append_own _ rfl _ _ 36 rfl X1.heap.size 3 i0 (.int .i64 0) 1 8 Tryd.underlying36 HI.out HZ0.out HZ1.out HZ2.out rfl (by decide) _ _ _ rfl (HO0.out.alloc _) _ 1 1 [.int .i64 2] rfl rfl ?c1 ?c2 ?c3 ?c4 ?c5 ?_)
          try (case c1 => exact cell_new_at (by simp))
          try (case c2 => simp [Value.oneCell'])
          try (case c3 => unfold maxLen; omega)
          try (case c4 => omega)
          try (case c5 => first | omega | (simp; omega))
          intro v1 w1 hown1 hgrow1 _
          have HO1 : Hid (w1.ownsRow X1.heap.size 3 1 v1 1 [.int .i64 2]) := Lib.hid (by simpa using hown1)
          have HB1 : Hid (Below X1.heap.size X1 w1) := Lib.hid ((HB0.out.alloc hs1 _).grown hgrow1 (by simp; omega) (fun q hq => (HO0.out.lt q hq).1))
          have hx1 : w1.cell? ⟨w.heap.size, 3, none⟩ = some (.int .i64 till) := (HB1.out.cell (p := ⟨w.heap.size, 3, none⟩) HT.out.2).trans HT.out.1
          clear hown1 hgrow1
          have hs2 := HB1.out.size
          go_wp2_with (at_builtin; refine wpList_append_own _ rfl _ _ 36 rfl X1.heap.size 3 i0 (.int .i64 0) 1 8 Tryd.underlying36 HI.out HZ0.out HZ1.out HZ2.out rfl (by decide) _ _ _ rfl (HO1.out.alloc _) _ 1 1 [.int .i64 3] rfl rfl ?c1 ?c2 ?c3 ?c4 ?c5 ?_)
          try (case c1 => exact cell_new_at (by simp))
          try (case c2 => simp [Value.oneCell'])
          try (case c3 => unfold maxLen; omega)
          try (case c4 => omega)
          try (case c5 => first | omega | (simp; omega))
          intro v2 w2 hown2 hgrow2 _
          have HO2 : Hid (w2.ownsRow X1.heap.size 3 1 v2 2 [.int .i64 2, .int .i64 3]) := Lib.hid (by simpa using hown2)
          have HB2 : Hid (Below X1.heap.size X1 w2) := Lib.hid ((HB1.out.alloc hs2 _).grown hgrow2 (by simp; omega) (fun q hq => (HO1.out.lt q hq).1))
          have hx2 : w2.cell? ⟨w.heap.size, 3, none⟩ = some (.int .i64 till) := (HB2.out.cell (p := ⟨w.heap.size, 3, none⟩) HT.out.2).trans HT.out.1
          clear hown2 hgrow2
          go_wp2
          go_ret
          exact ⟨_, rfl, by rw [HR.out]; exact Ints.of_own (xs := ([2, 3] : List Int)) HO2.out rfl, HBX.out.trans (HB2.out.mono HBX.out.size)⟩
      · have hd2 : decide (1000 < owed) = false := decide_eq_false h2
        have g2 : owed ≤ 1000 := by omega
        clear h2
        by_cases h3 : 2 < late
        · have hd3 : decide (2 < late) = true := decide_eq_true h3
          have hr2 := hr
          rw [hd1, hd2, hd3] at hr2
          have HR := Lib.hid hr2
          clear hr hr2 hd1 hd2 hd3
          go_enter Tryd.func20, Tryd.ntmps20
          have hs1 := HB0.out.size
          go_wp2_with (at_builtin; refine wpList_append_own _ rfl _ _ 36 rfl X1.heap.size 3 i0 (.int .i64 0) 1 8 Tryd.underlying36 HI.out HZ0.out HZ1.out HZ2.out rfl (by decide) _ _ _ rfl (HO0.out.alloc _) _ 1 1 [.int .i64 2] rfl rfl ?c1 ?c2 ?c3 ?c4 ?c5 ?_)
          try (case c1 => exact cell_new_at (by simp))
          try (case c2 => simp [Value.oneCell'])
          try (case c3 => unfold maxLen; omega)
          try (case c4 => omega)
          try (case c5 => first | omega | (simp; omega))
          intro v1 w1 hown1 hgrow1 _
          have HO1 : Hid (w1.ownsRow X1.heap.size 3 1 v1 1 [.int .i64 2]) := Lib.hid (by simpa using hown1)
          have HB1 : Hid (Below X1.heap.size X1 w1) := Lib.hid ((HB0.out.alloc hs1 _).grown hgrow1 (by simp; omega) (fun q hq => (HO0.out.lt q hq).1))
          have hx1 : w1.cell? ⟨w.heap.size, 3, none⟩ = some (.int .i64 till) := (HB1.out.cell (p := ⟨w.heap.size, 3, none⟩) HT.out.2).trans HT.out.1
          clear hown1 hgrow1
          have hs2 := HB1.out.size
          go_wp2_with (at_builtin; refine wpList_append_own _ rfl _ _ 36 rfl X1.heap.size 3 i0 (.int .i64 0) 1 8 Tryd.underlying36 HI.out HZ0.out HZ1.out HZ2.out rfl (by decide) _ _ _ rfl (HO1.out.alloc _) _ 1 1 [.int .i64 4] rfl rfl ?c1 ?c2 ?c3 ?c4 ?c5 ?_)
          try (case c1 => exact cell_new_at (by simp))
          try (case c2 => simp [Value.oneCell'])
          try (case c3 => unfold maxLen; omega)
          try (case c4 => omega)
          try (case c5 => first | omega | (simp; omega))
          intro v2 w2 hown2 hgrow2 _
          have HO2 : Hid (w2.ownsRow X1.heap.size 3 1 v2 2 [.int .i64 2, .int .i64 4]) := Lib.hid (by simpa using hown2)
          have HB2 : Hid (Below X1.heap.size X1 w2) := Lib.hid ((HB1.out.alloc hs2 _).grown hgrow2 (by simp; omega) (fun q hq => (HO1.out.lt q hq).1))
          have hx2 : w2.cell? ⟨w.heap.size, 3, none⟩ = some (.int .i64 till) := (HB2.out.cell (p := ⟨w.heap.size, 3, none⟩) HT.out.2).trans HT.out.1
          clear hown2 hgrow2
          go_wp2
          go_ret
          exact ⟨_, rfl, by rw [HR.out]; exact Ints.of_own (xs := ([2, 4] : List Int)) HO2.out rfl, HBX.out.trans (HB2.out.mono HBX.out.size)⟩
        · have hd3 : decide (2 < late) = false := decide_eq_false h3
          have g3 : late ≤ 2 := by omega
          clear h3
          have hr2 := hr
          rw [hd1, hd2, hd3] at hr2
          have HR := Lib.hid hr2
          clear hr hr2 hd1 hd2 hd3
          go_enter Tryd.func20, Tryd.ntmps20
          have hs1 := HB0.out.size
          go_wp2_with (at_builtin; refine wpList_append_own _ rfl _ _ 36 rfl X1.heap.size 3 i0 (.int .i64 0) 1 8 Tryd.underlying36 HI.out HZ0.out HZ1.out HZ2.out rfl (by decide) _ _ _ rfl (HO0.out.alloc _) _ 1 1 [.int .i64 2] rfl rfl ?c1 ?c2 ?c3 ?c4 ?c5 ?_)
          try (case c1 => exact cell_new_at (by simp))
          try (case c2 => simp [Value.oneCell'])
          try (case c3 => unfold maxLen; omega)
          try (case c4 => omega)
          try (case c5 => first | omega | (simp; omega))
          intro v1 w1 hown1 hgrow1 _
          have HO1 : Hid (w1.ownsRow X1.heap.size 3 1 v1 1 [.int .i64 2]) := Lib.hid (by simpa using hown1)
          have HB1 : Hid (Below X1.heap.size X1 w1) := Lib.hid ((HB0.out.alloc hs1 _).grown hgrow1 (by simp; omega) (fun q hq => (HO0.out.lt q hq).1))
          have hx1 : w1.cell? ⟨w.heap.size, 3, none⟩ = some (.int .i64 till) := (HB1.out.cell (p := ⟨w.heap.size, 3, none⟩) HT.out.2).trans HT.out.1
          clear hown1 hgrow1
          go_wp2
          go_ret
          exact ⟨_, rfl, by rw [HR.out]; exact Ints.of_own (xs := ([2] : List Int)) HO1.out rfl, HBX.out.trans (HB1.out.mono HBX.out.size)⟩
    · have hd1 : decide (till < day) = false := decide_eq_false h1
      have g1 : day ≤ till := by omega
      clear h1
      by_cases h2 : 1000 < owed
      · have hd2 : decide (1000 < owed) = true := decide_eq_true h2
        by_cases h3 : 2 < late
        · have hd3 : decide (2 < late) = true := decide_eq_true h3
          have hr2 := hr
          rw [hd1, hd2, hd3] at hr2
          have HR := Lib.hid hr2
          clear hr hr2 hd1 hd2 hd3
          go_enter Tryd.func20, Tryd.ntmps20
          have hs1 := HB0.out.size
          go_wp2_with (at_builtin; refine wpList_append_own _ rfl _ _ 36 rfl X1.heap.size 3 i0 (.int .i64 0) 1 8 Tryd.underlying36 HI.out HZ0.out HZ1.out HZ2.out rfl (by decide) _ _ _ rfl (HO0.out.alloc _) _ 1 1 [.int .i64 3] rfl rfl ?c1 ?c2 ?c3 ?c4 ?c5 ?_)
          try (case c1 => exact cell_new_at (by simp))
          try (case c2 => simp [Value.oneCell'])
          try (case c3 => unfold maxLen; omega)
          try (case c4 => omega)
          try (case c5 => first | omega | (simp; omega))
          intro v1 w1 hown1 hgrow1 _
          have HO1 : Hid (w1.ownsRow X1.heap.size 3 1 v1 1 [.int .i64 3]) := Lib.hid (by simpa using hown1)
          have HB1 : Hid (Below X1.heap.size X1 w1) := Lib.hid ((HB0.out.alloc hs1 _).grown hgrow1 (by simp; omega) (fun q hq => (HO0.out.lt q hq).1))
          have hx1 : w1.cell? ⟨w.heap.size, 3, none⟩ = some (.int .i64 till) := (HB1.out.cell (p := ⟨w.heap.size, 3, none⟩) HT.out.2).trans HT.out.1
          clear hown1 hgrow1
          have hs2 := HB1.out.size
          go_wp2_with (at_builtin; refine wpList_append_own _ rfl _ _ 36 rfl X1.heap.size 3 i0 (.int .i64 0) 1 8 Tryd.underlying36 HI.out HZ0.out HZ1.out HZ2.out rfl (by decide) _ _ _ rfl (HO1.out.alloc _) _ 1 1 [.int .i64 4] rfl rfl ?c1 ?c2 ?c3 ?c4 ?c5 ?_)
          try (case c1 => exact cell_new_at (by simp))
          try (case c2 => simp [Value.oneCell'])
          try (case c3 => unfold maxLen; omega)
          try (case c4 => omega)
          try (case c5 => first | omega | (simp; omega))
          intro v2 w2 hown2 hgrow2 _
          have HO2 : Hid (w2.ownsRow X1.heap.size 3 1 v2 2 [.int .i64 3, .int .i64 4]) := Lib.hid (by simpa using hown2)
          have HB2 : Hid (Below X1.heap.size X1 w2) := Lib.hid ((HB1.out.alloc hs2 _).grown hgrow2 (by simp; omega) (fun q hq => (HO1.out.lt q hq).1))
          have hx2 : w2.cell? ⟨w.heap.size, 3, none⟩ = some (.int .i64 till) := (HB2.out.cell (p := ⟨w.heap.size, 3, none⟩) HT.out.2).trans HT.out.1
          clear hown2 hgrow2
          go_wp2
          go_ret
          exact ⟨_, rfl, by rw [HR.out]; exact Ints.of_own (xs := ([3, 4] : List Int)) HO2.out rfl, HBX.out.trans (HB2.out.mono HBX.out.size)⟩
        · have hd3 : decide (2 < late) = false := decide_eq_false h3
          have g3 : late ≤ 2 := by omega
          clear h3
          have hr2 := hr
          rw [hd1, hd2, hd3] at hr2
          have HR := Lib.hid hr2
          clear hr hr2 hd1 hd2 hd3
          go_enter Tryd.func20, Tryd.ntmps20
          have hs1 := HB0.out.size
          go_wp2_with (at_builtin; refine wpList_append_own _ rfl _ _ 36 rfl X1.heap.size 3 i0 (.int .i64 0) 1 8 Tryd.underlying36 HI.out HZ0.out HZ1.out HZ2.out rfl (by decide) _ _ _ rfl (HO0.out.alloc _) _ 1 1 [.int .i64 3] rfl rfl ?c1 ?c2 ?c3 ?c4 ?c5 ?_)
          try (case c1 => exact cell_new_at (by simp))
          try (case c2 => simp [Value.oneCell'])
          try (case c3 => unfold maxLen; omega)
          try (case c4 => omega)
          try (case c5 => first | omega | (simp; omega))
          intro v1 w1 hown1 hgrow1 _
          have HO1 : Hid (w1.ownsRow X1.heap.size 3 1 v1 1 [.int .i64 3]) := Lib.hid (by simpa using hown1)
          have HB1 : Hid (Below X1.heap.size X1 w1) := Lib.hid ((HB0.out.alloc hs1 _).grown hgrow1 (by simp; omega) (fun q hq => (HO0.out.lt q hq).1))
          have hx1 : w1.cell? ⟨w.heap.size, 3, none⟩ = some (.int .i64 till) := (HB1.out.cell (p := ⟨w.heap.size, 3, none⟩) HT.out.2).trans HT.out.1
          clear hown1 hgrow1
          go_wp2
          go_ret
          exact ⟨_, rfl, by rw [HR.out]; exact Ints.of_own (xs := ([3] : List Int)) HO1.out rfl, HBX.out.trans (HB1.out.mono HBX.out.size)⟩
      · have hd2 : decide (1000 < owed) = false := decide_eq_false h2
        have g2 : owed ≤ 1000 := by omega
        clear h2
        by_cases h3 : 2 < late
        · have hd3 : decide (2 < late) = true := decide_eq_true h3
          have hr2 := hr
          rw [hd1, hd2, hd3] at hr2
          have HR := Lib.hid hr2
          clear hr hr2 hd1 hd2 hd3
          go_enter Tryd.func20, Tryd.ntmps20
          have hs1 := HB0.out.size
          go_wp2_with (at_builtin; refine wpList_append_own _ rfl _ _ 36 rfl X1.heap.size 3 i0 (.int .i64 0) 1 8 Tryd.underlying36 HI.out HZ0.out HZ1.out HZ2.out rfl (by decide) _ _ _ rfl (HO0.out.alloc _) _ 1 1 [.int .i64 4] rfl rfl ?c1 ?c2 ?c3 ?c4 ?c5 ?_)
          try (case c1 => exact cell_new_at (by simp))
          try (case c2 => simp [Value.oneCell'])
          try (case c3 => unfold maxLen; omega)
          try (case c4 => omega)
          try (case c5 => first | omega | (simp; omega))
          intro v1 w1 hown1 hgrow1 _
          have HO1 : Hid (w1.ownsRow X1.heap.size 3 1 v1 1 [.int .i64 4]) := Lib.hid (by simpa using hown1)
          have HB1 : Hid (Below X1.heap.size X1 w1) := Lib.hid ((HB0.out.alloc hs1 _).grown hgrow1 (by simp; omega) (fun q hq => (HO0.out.lt q hq).1))
          have hx1 : w1.cell? ⟨w.heap.size, 3, none⟩ = some (.int .i64 till) := (HB1.out.cell (p := ⟨w.heap.size, 3, none⟩) HT.out.2).trans HT.out.1
          clear hown1 hgrow1
          go_wp2
          go_ret
          exact ⟨_, rfl, by rw [HR.out]; exact Ints.of_own (xs := ([4] : List Int)) HO1.out rfl, HBX.out.trans (HB1.out.mono HBX.out.size)⟩
        · have hd3 : decide (2 < late) = false := decide_eq_false h3
          have g3 : late ≤ 2 := by omega
          clear h3
          have hr2 := hr
          rw [hd1, hd2, hd3] at hr2
          have HR := Lib.hid hr2
          clear hr hr2 hd1 hd2 hd3
          go_enter Tryd.func20, Tryd.ntmps20
          go_wp2
          go_ret
          exact ⟨_, rfl, by rw [HR.out]; exact Ints.of_own (xs := ([] : List Int)) HO0.out rfl, HBX.out.trans (HB0.out.mono HBX.out.size)⟩
end Go.Proofs.YtlpeppigebbfkaaDoor
