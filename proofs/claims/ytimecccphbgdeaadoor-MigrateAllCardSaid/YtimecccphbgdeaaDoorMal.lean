/- The plain All; the walks of the reference's SmallRecords and SameRecords and of All on both sides (layer 18). -/
import Derived.Test.YtimecccphbgdeaaDoorMrs
import Derived.Test.YtimecccphbgdeaaDoorMse
import Derived.Test.YtimecccphbgdeaaDoorMto
import Derived.Test.YtimecccphbgdeaaDoorMtq
import Derived.OwnWalk
namespace Go.Proofs.YtimecccphbgdeaaDoor
open Go Go.RowKit

/-- All, plain: from the record with index k on. -/
def allR (v : Int) : List Rec → Nat → List Rec → List Rec × Int × Int
  | [], _, out => (out, -1, 0)
  | r :: l, k, out => if (toP r v).2 ≠ 0 then ([], k, (toP r v).2) else allR v l (k + 1) (out ++ [(toP r v).1])
def recsOf (l : List Rcd) : List Rec := l.map (·.r)
def smallRs (l : List Rcd) : Bool := decide (l.length ≤ 8) && l.all fun x => smallR x.r
def RetAll (w : World) (R : List Rec × Int × Int) (e : Ending) (w' : World) : Prop := ∃ v xs, e = .returned (.tuple #[v, .int .i64 R.2.1, .int .i64 R.2.2]) ∧ Recs w' v xs ∧ recsOf xs = R.1 ∧ Below w.heap.size w w'

set_option maxRecDepth 100000 in
set_option maxHeartbeats 2000000 in
theorem rSmallRecs (l : List Rcd) (a : Option Addr) (n0 c : Nat) (w : World) (hv : Recs w (.slice a n0 c) l) :
    Calls Tryd.prog 21 #[.slice a n0 c, .int .i64 8] w fun e w' => e = .returned (.bool (smallRs l)) ∧ Below w.heap.size w w' := by
  obtain ⟨hn, hn2⟩ := hv.len
  have HCL := Lib.hid (recs_cells hv)
  have HF := Lib.hid hv.2
  obtain ⟨R, hR⟩ : ∃ R, R = smallRs l := ⟨_, rfl⟩
  rw [← hR]
  unfold smallRs at hR
  rw [← hn] at hR
  have HN := Lib.hid hn
  clear hn hv
  by_cases h8 : 8 < n0
  · have h8z : (8 : Int) < (n0 : Int) := by omega
    rw [decide_eq_false (by omega)] at hR
    have HR : Hid (R = false) := Lib.hid hR
    clear hR h8
    go_enter Tryd.func21, Tryd.ntmps21
    go_wp2
    go_ret
    exact ⟨by rw [HR.out]; rfl, Below.refl _ _⟩
  · have h8z : (n0 : Int) ≤ 8 := by omega
    rw [decide_eq_true (by omega), Bool.true_and] at hR
    have HR := Lib.hid hR
    clear hR h8
    go_enter Tryd.func21, Tryd.ntmps21
    go_wp2
    go_loopw [5] (fun vk wr => ∃ k : Nat, vk = .int .i64 k ∧ k ≤ n0 ∧ Hid (R = (l.drop k).all fun x => smallR x.r) ∧ Hid (Below w.heap.size w wr)) (fun vk _ => n0 - (intOf vk).toNat)
    case atStart => exact ⟨0, rfl, by omega, Lib.hid (by rw [HR.out, List.drop_zero]), Lib.hid (Below.refl _ _)⟩
    case round =>
      obtain ⟨k, rfl, hk, HK, HBW⟩ := hrel
      by_cases hlt : k < n0
      · have hltz : (k : Int) < (n0 : Int) := by omega
        obtain ⟨x, hx⟩ : ∃ x, l[k]? = some x := ⟨_, List.getElem?_eq_getElem (by have := HN.out; omega)⟩
        rcases HCL.out with h0 | ⟨b, o, rfl, hbl, hcl⟩
        · omega
        obtain ⟨p0, p1, p2, p3, p4⟩ := (hcl k x hx).below HBW.out hbl
        have hst := HK.out
        rw [drop_step hx, List.all_cons] at hst
        have hcall := rSmall x.r x.sa x.r.fields.length x.sc wr (Flds.below (HF.out x (List.mem_of_getElem? hx)) HBW.out (Nat.le_refl _))
        obtain ⟨B, hB⟩ : ∃ B, B = smallR x.r := ⟨_, rfl⟩
        rw [← hB] at hst hcall
        obtain ⟨⟨id, ver, kind, lang, fl⟩, sa, sc⟩ := x
        simp only at p0 p1 p2 p3 p4 hcall
        obtain ⟨sn, hsn⟩ : ∃ sn, sn = fl.length := ⟨_, rfl⟩
        rw [← hsn] at p4 hcall
        have HCALL := Lib.hid hcall
        clear HK hx hcl hcall hB hsn HR
        cases B with
        | false =>
          have HT : Hid (R = false) := Lib.hid hst
          clear hst
          go_wp2_with fail
          refine HCALL.out.mono ?_
          rintro e w2 ⟨rfl, b2⟩
          have HB2 := Lib.hid (HBW.out.bt b2)
          clear b2
          go_wp2
          go_ret
          exact ⟨by rw [HT.out]; rfl, HB2.out⟩
        | true =>
          have HT : Hid (R = (l.drop (k + 1)).all fun x => smallR x.r) := Lib.hid (by rw [hst, Bool.true_and])
          clear hst
          go_wp2_with fail
          refine HCALL.out.mono ?_
          rintro e w2 ⟨rfl, b2⟩
          have HB2 := Lib.hid (HBW.out.bt b2)
          clear b2
          go_wp2
          go_roundw
          all_goals first
            | exact ⟨k + 1, by go_num, by omega, HT, HB2⟩
            | (simp [intOf]; omega)
      · have hltz : ¬ (k : Int) < (n0 : Int) := by omega
        have HT : Hid (R = true) := Lib.hid (by rw [HK.out, List.drop_eq_nil_of_le (by have := HN.out; omega)]; rfl)
        go_wp2
        go_ret
        exact ⟨by rw [HT.out]; rfl, HBW.out⟩

set_option maxRecDepth 100000 in
set_option maxHeartbeats 2000000 in
theorem rSameRecs (la lb' : List Rcd) (a a' : Option Addr) (n c n' c' : Nat) (w : World) (ha : Recs w (.slice a n c) la) (hb : Recs w (.slice a' n' c') lb') (he : recsOf la = recsOf lb') (hl : la.length ≤ 1000000) (hs : ∀ x ∈ la, x.r.small) :
    Calls Tryd.prog 24 #[.slice a n c, .slice a' n' c'] w fun e w' => e = .returned (.bool true) ∧ Below w.heap.size w w' := by
  have hlen : la.length = lb'.length := by have := congrArg List.length he; simpa [recsOf] using this
  obtain ⟨hn, hn2⟩ := ha.len
  obtain ⟨hn', hn2'⟩ := hb.len
  rw [← hlen, ← hn] at hn'
  have e9 := hn'.symm
  subst e9
  have HCA := Lib.hid (recs_cells ha)
  have HCB := Lib.hid (recs_cells hb)
  rw [← hn] at hl
  have hsame : ∀ (W : World), Below w.heap.size w W → ∀ (k : Nat) (x y : Rcd), la[k]? = some x → lb'[k]? = some y → Calls Tryd.prog 15 #[.agg #[.int .i64 x.r.id, .int .i64 x.r.ver, .int .i64 x.r.kind, .string x.r.lang, .slice x.sa x.r.fields.length x.sc], .agg #[.int .i64 y.r.id, .int .i64 y.r.ver, .int .i64 y.r.kind, .string y.r.lang, .slice y.sa y.r.fields.length y.sc]] W fun e w' => e = .returned (.bool true) ∧ Below W.heap.size W w' := fun W hW k x y hx hy => by
    have hc : x.r = y.r := by
      have h1 : (recsOf la)[k]? = some x.r := by unfold recsOf; rw [List.getElem?_map, hx]; rfl
      unfold recsOf at he h1
      rw [he, List.getElem?_map, hy] at h1
      exact (Option.some.inj h1).symm
    have hsx := hs x (List.mem_of_getElem? hx)
    refine rSameRec x.r y.r x.sa y.sa _ x.sc _ y.sc W (Flds.below (ha.2 x (List.mem_of_getElem? hx)) hW (Nat.le_refl _)) (Flds.below (hb.2 y (List.mem_of_getElem? hy)) hW (Nat.le_refl _)) ?_ ?_ ?_ ?_ ?_ hsx ?_ <;> rw [← hc]
    exact hsx
  have HSM := Lib.hid hsame
  have HN := Lib.hid hn
  have HN' := Lib.hid hlen
  clear hn hlen ha hb he hs hsame
  go_enter Tryd.func24, Tryd.ntmps24
  go_wp2
  go_loopw [5] (fun i wr => ∃ k : Nat, i = .int .i64 k ∧ k ≤ n ∧ Hid (Below w.heap.size w wr)) (fun i _ => n - (intOf i).toNat)
  case atStart => exact ⟨0, rfl, by omega, Lib.hid (Below.refl _ _)⟩
  case round =>
    obtain ⟨k, rfl, hk, HBW⟩ := hrel
    by_cases hlt : k < n
    · have hltz : (k : Int) < (n : Int) := by omega
      obtain ⟨x, hx⟩ : ∃ x, la[k]? = some x := ⟨_, List.getElem?_eq_getElem (by have := HN.out; omega)⟩
      obtain ⟨y, hy⟩ : ∃ x, lb'[k]? = some x := ⟨_, List.getElem?_eq_getElem (by have := HN.out; have := HN'.out; omega)⟩
      rcases HCA.out with h0 | ⟨b, o, rfl, hb1, hcells1⟩
      · omega
      rcases HCB.out with h0 | ⟨b', o', rfl, hb2, hcells2⟩
      · omega
      obtain ⟨q0, q1, q2, q3, q4⟩ := (hcells1 k x hx).below HBW.out hb1
      obtain ⟨r0, r1, r2, r3, r4⟩ := (hcells2 k y hy).below HBW.out hb2
      have hcall := HSM.out wr.drew HBW.out.drew k x y hx hy
      obtain ⟨⟨id, ver, kind, lang, fl⟩, sa, sc⟩ := x
      obtain ⟨⟨id', ver', kind', lang', fl'⟩, sa', sc'⟩ := y
      simp only at q0 q1 q2 q3 q4 r0 r1 r2 r3 r4 hcall
      obtain ⟨sn, hsn⟩ : ∃ sn, sn = fl.length := ⟨_, rfl⟩
      obtain ⟨sn', hsn'⟩ : ∃ sn, sn = fl'.length := ⟨_, rfl⟩
      rw [← hsn] at q4 hcall
      rw [← hsn'] at r4 hcall
      have HC := Lib.hid hcall
      have HBD := Lib.hid HBW.out.drew
      clear hcells1 hcells2 hx hy hcall hsn hsn'
      go_wp2_with fail
      go_region_law (go_simp; go_at_call 15; refine HC.out.mono ?_; rintro e w3 ⟨rfl, b3⟩)
      all_goals have HB3 := Lib.hid (HBD.out.bt b3)
      all_goals go_wp2
      all_goals go_roundw
      all_goals first
        | exact ⟨k + 1, by go_num, by omega, HB3⟩
        | (simp [intOf]; omega)
    · have hltz : ¬ (k : Int) < (n : Int) := by omega
      go_wp2
      go_ret
      exact ⟨rfl, HBW.out⟩


set_option maxRecDepth 100000 in
set_option maxHeartbeats 4000000 in
theorem pAll (l : List Rcd) (a : Option Addr) (n0 c : Nat) (v : Int) (w : World) (hE : Env w) (hv : Recs w (.slice a n0 c) l) (hl : l.length ≤ 1000000) (hs : ∀ x ∈ l, x.r.small) :
    Calls Tryd.prog 22 #[.slice a n0 c, .int .i64 v] w (RetAll w (allR v (recsOf l) 0 [])) := by
  obtain ⟨hn, hn2⟩ := hv.len
  have HCL := Lib.hid (recs_cells hv)
  have HE : Hid (∀ W, Below w.heap.size w W → Env W) := Lib.hid (fun W h => hE.below h)
  have HTO : Hid (∀ W, Below w.heap.size w W → ∀ x ∈ l, Calls Tryd.prog 18 #[.agg #[.int .i64 x.r.id, .int .i64 x.r.ver, .int .i64 x.r.kind, .string x.r.lang, .slice x.sa x.r.fields.length x.sc], .int .i64 v] W (RetRec W (toP x.r v))) := Lib.hid (fun W hW x hx => pTo x.r x.sa x.r.fields.length x.sc v W (HE.out W hW) (Flds.below (hv.2 x hx) hW (Nat.le_refl _)) (hs x hx))
  obtain ⟨R, hR⟩ : ∃ R, R = allR v (recsOf l) 0 [] := ⟨_, rfl⟩
  rw [← hR]
  have HR := Lib.hid hR
  have HN := Lib.hid hn
  rw [← hn] at hl
  clear hR hn hv hs hE HE
  go_enter Tryd.func22, Tryd.ntmps22
  go_wp2
  go_loopw [7, 14] (fun vl vk wr => ∃ (k : Nat) (out : List Rcd), vk = .int .i64 k ∧ k ≤ n0 ∧ out.length ≤ k ∧ Hid (R = allR v (recsOf (l.drop k)) k (recsOf out)) ∧ Hid (OwnR wr w.heap.size vl out) ∧ Hid (∀ y ∈ out, RcdAt wr y) ∧ Hid (Below w.heap.size w wr)) (fun _ vk _ => n0 - (intOf vk).toNat)
  case atStart => exact ⟨0, [], rfl, by omega, by simp, Lib.hid (by rw [HR.out, List.drop_zero]; rfl), Lib.hid (OwnE.nil recE _ w _), Lib.hid (by intro y hy; cases hy), Lib.hid (Below.refl _ _)⟩
  case round =>
    obtain ⟨k, out, rfl, hk, hol, HK, HO, HA, HBW⟩ := hrel
    by_cases hlt : k < n0
    · have hltz : (k : Int) < (n0 : Int) := by omega
      obtain ⟨x, hx⟩ : ∃ x, l[k]? = some x := ⟨_, List.getElem?_eq_getElem (by have := HN.out; omega)⟩
      rcases HCL.out with h0 | ⟨b, o, rfl, hbl, hcl⟩
      · omega
      obtain ⟨p0, p1, p2, p3, p4⟩ := (hcl k x hx).below HBW.out hbl
      have hst := HK.out
      rw [drop_step hx] at hst
      have hto := fun W hW => HTO.out W hW x (List.mem_of_getElem? hx)
      obtain ⟨p, hp⟩ : ∃ p, p = toP x.r v := ⟨_, rfl⟩
      have hst2 : R = if p.2 ≠ 0 then ([], (k : Int), p.2) else allR v (recsOf (l.drop (k + 1))) (k + 1) (recsOf out ++ [p.1]) := by rw [hst, hp]; rfl
      rw [← hp] at hto
      obtain ⟨⟨id, ver, kind, lang, fl⟩, sa, sc⟩ := x
      simp only at p0 p1 p2 p3 p4 hto
      obtain ⟨sn, hsn⟩ : ∃ sn, sn = fl.length := ⟨_, rfl⟩
      rw [← hsn] at p4 hto
      obtain ⟨⟨pid, pver, pkind, plang, pl⟩, pe⟩ := p
      simp only at hst2 hto
      have HTT := Lib.hid hto
      clear HK hx hcl hto hp hsn hst HR
      by_cases hpe : pe = 0
      · subst hpe
        rw [if_neg (by simp)] at hst2
        have HST := Lib.hid hst2
        clear hst2
        go_wp2_with fail
        refine (HTT.out _ (HBW.out.alloc HBW.out.size _)).mono ?_
        rintro e w2 ⟨xv, rfl, ⟨xa, xn, xc, rfl, hxf⟩, b2⟩
        simp only at hxf ⊢
        have hxl := Lib.hid hxf.len.1
        have HXF := Lib.hid hxf
        have HB2 := Lib.hid ((HBW.out.alloc HBW.out.size _).bt b2)
        have HO2 : Hid (OwnR w2 w.heap.size u7 out) := Lib.hid (OwnE.below (OwnE.below HO.out (Below.alloc (Below.refl wr.heap.size wr) (Nat.le_refl _) (.cells #[.int .i64 id, .int .i64 ver, .int .i64 kind, .string lang, .slice sa sn sc] 24)) (Nat.le_refl _)) b2 (Nat.le_refl _))
        have HA2 : Hid (∀ y ∈ out, RcdAt w2 y) := Lib.hid (fun y hy => Flds.below (Flds.below (HA.out y hy) (Below.alloc (Below.refl wr.heap.size wr) (Nat.le_refl _) (.cells #[.int .i64 id, .int .i64 ver, .int .i64 kind, .string lang, .slice sa sn sc] 24)) (Nat.le_refl _)) b2 (Nat.le_refl _))
        obtain ⟨O3, hO3⟩ : ∃ O : Obj, O = (.cells #[.int .i64 pid, .int .i64 pver, .int .i64 pkind, .string plang, .slice xa xn xc] 24) := ⟨_, rfl⟩
        have b4 : Below w2.heap.size w2 ((w2.alloc O3).alloc (.cells #[.int .i64 pid, .int .i64 pver, .int .i64 pkind, .string plang, .slice xa xn xc] 24)) := ((Below.refl _ _).alloc (Nat.le_refl _) _).alloc (by simp) _
        have HO4 : Hid (OwnR ((w2.alloc O3).alloc (.cells #[.int .i64 pid, .int .i64 pver, .int .i64 pkind, .string plang, .slice xa xn xc] 24)) w.heap.size u7 out) := Lib.hid (OwnE.below HO2.out b4 (Nat.le_refl _))
        have HA4 : Hid (∀ y ∈ out, RcdAt ((w2.alloc O3).alloc (.cells #[.int .i64 pid, .int .i64 pver, .int .i64 pkind, .string plang, .slice xa xn xc] 24)) y) := Lib.hid (fun y hy => Flds.below (HA2.out y hy) b4 (Nat.le_refl _))
        have HB4 : Hid (Below w.heap.size w ((w2.alloc O3).alloc (.cells #[.int .i64 pid, .int .i64 pver, .int .i64 pkind, .string plang, .slice xa xn xc] 24))) := Lib.hid (HB2.out.bt b4)
        have HNA : Hid (∀ y ∈ [(⟨⟨pid, pver, pkind, plang, pl⟩, xa, xc⟩ : Rcd)], RcdAt ((w2.alloc O3).alloc (.cells #[.int .i64 pid, .int .i64 pver, .int .i64 pkind, .string plang, .slice xa xn xc] 24)) y) := Lib.hid (by
          intro y hy
          cases List.mem_singleton.1 hy
          show Flds _ (.slice xa pl.length xc) pl
          rw [← hxl.out]
          exact HXF.out.below b4 (Nat.le_refl _))
        have HNW : Hid (∀ j u, (flatE recE [(⟨⟨pid, pver, pkind, plang, pl⟩, xa, xc⟩ : Rcd)])[j]? = some u → ((w2.alloc O3).alloc (.cells #[.int .i64 pid, .int .i64 pver, .int .i64 pkind, .string plang, .slice xa xn xc] 24)).cell? ((⟨w2.heap.size + 1, 0, none⟩ : Addr).add j) = some u) := Lib.hid (cells_rec (by
          refine ⟨?_, ?_, ?_, ?_, ?_⟩ <;> (rw [new2_cell, hxl.out]; rfl)))
        have hsz4 : w.heap.size ≤ ((w2.alloc O3).alloc (.cells #[.int .i64 pid, .int .i64 pver, .int .i64 pkind, .string plang, .slice xa xn xc] 24)).heap.size := HB4.out.size
        subst hO3
        clear hxf b2 b4 p0 p1 p2 p3 p4
        go_wp2_with (at_builtin; refine append_recs rfl _ _ rfl w.heap.size u7 out rfl HO4.out HA4.out ⟨w2.heap.size + 1, 0, none⟩ 1 1 [(⟨⟨pid, pver, pkind, plang, pl⟩, xa, xc⟩ : Rcd)] rfl rfl (by decide) HNW.out HNA.out (by omega) hsz4 ?_)
        intro v5 w5 hown hat hb5
        have HO5 := Lib.hid hown
        have HA5 := Lib.hid hat
        have HB5 : Hid (Below w.heap.size w w5) := Lib.hid (HB4.out.trans hb5)
        have HST5 : Hid (R = allR v (recsOf (l.drop (k + 1))) (k + 1) (recsOf (out ++ [(⟨⟨pid, pver, pkind, plang, pl⟩, xa, xc⟩ : Rcd)]))) := Lib.hid (by rw [HST.out]; simp [recsOf])
        clear hown hat hb5 HO4 HA4 HB4 HNA HNW
        go_wp2
        go_roundw
        case rel => exact ⟨k + 1, out ++ [(⟨⟨pid, pver, pkind, plang, pl⟩, xa, xc⟩ : Rcd)], by go_num, by omega, by rw [List.length_append]; simp only [List.length_cons, List.length_nil]; omega, HST5, HO5, Lib.hid (fun y hy => HA5.out y (by simpa using hy)), HB5⟩
        case measure => simp [intOf]; omega
      · have hpz : (pe == 0) = false := by simpa using hpe
        have hpn : (pe != 0) = true := by rw [bne, hpz]; rfl
        rw [if_pos (by simpa using hpe)] at hst2
        have HST := Lib.hid hst2
        clear hst2 hpe
        go_wp2_with fail
        refine (HTT.out _ (HBW.out.alloc HBW.out.size _)).mono ?_
        rintro e w2 ⟨xv, rfl, ⟨xa, xn, xc, rfl, hxf⟩, b2⟩
        simp only
        have HB3 : Hid (Below w.heap.size w (w2.alloc (.cells #[.int .i64 pid, .int .i64 pver, .int .i64 pkind, .string plang, .slice xa xn xc] 24))) := Lib.hid (((HBW.out.alloc HBW.out.size _).bt b2).alloc ((HBW.out.alloc HBW.out.size _).bt b2).size _)
        clear hxf b2 p0 p1 p2 p3 p4
        go_wp2
        go_ret3
        exact ⟨_, [], by rw [HST.out]; rfl, Recs.nil _, by rw [HST.out]; rfl, HB3.out⟩
    · have hltz : ¬ (k : Int) < (n0 : Int) := by omega
      have HRe : Hid (R = (recsOf out, -1, 0)) := Lib.hid (by rw [HK.out, List.drop_eq_nil_of_le (by have := HN.out; omega)]; rfl)
      go_wp2
      go_ret3
      exact ⟨u7, out, by rw [HRe.out]; rfl, OwnR.recs HO.out HA.out, by rw [HRe.out], HBW.out⟩


set_option maxRecDepth 100000 in
set_option maxHeartbeats 4000000 in
theorem rAll (l : List Rcd) (a : Option Addr) (n0 c : Nat) (v : Int) (w : World) (hv : Recs w (.slice a n0 c) l) (hl : l.length ≤ 1000000) (hs : ∀ x ∈ l, x.r.small) :
    Calls Tryd.prog 23 #[.slice a n0 c, .int .i64 v] w (RetAll w (allR v (recsOf l) 0 [])) := by
  obtain ⟨hn, hn2⟩ := hv.len
  have HCL := Lib.hid (recs_cells hv)
  have HTO : Hid (∀ W, Below w.heap.size w W → ∀ x ∈ l, Calls Tryd.prog 19 #[.agg #[.int .i64 x.r.id, .int .i64 x.r.ver, .int .i64 x.r.kind, .string x.r.lang, .slice x.sa x.r.fields.length x.sc], .int .i64 v] W (RetRec W (toP x.r v))) := Lib.hid (fun W hW x hx => rTo x.r x.sa x.r.fields.length x.sc v W (Flds.below (hv.2 x hx) hW (Nat.le_refl _)) (hs x hx))
  obtain ⟨R, hR⟩ : ∃ R, R = allR v (recsOf l) 0 [] := ⟨_, rfl⟩
  rw [← hR]
  have HR := Lib.hid hR
  have HN := Lib.hid hn
  rw [← hn] at hl
  clear hR hn hv hs
  go_enter Tryd.func23, Tryd.ntmps23
  go_wp2
  go_loopw [7, 8] (fun vl vk wr => ∃ (k : Nat) (out : List Rcd), vk = .int .i64 k ∧ k ≤ n0 ∧ out.length ≤ k ∧ Hid (R = allR v (recsOf (l.drop k)) k (recsOf out)) ∧ Hid (OwnR wr w.heap.size vl out) ∧ Hid (∀ y ∈ out, RcdAt wr y) ∧ Hid (Below w.heap.size w wr)) (fun _ vk _ => n0 - (intOf vk).toNat)
  case atStart => exact ⟨0, [], rfl, by omega, by simp, Lib.hid (by rw [HR.out, List.drop_zero]; rfl), Lib.hid (OwnE.made recE _ w _ _ rfl (Nat.le_refl _)), Lib.hid (by intro y hy; cases hy), Lib.hid ((Below.refl _ _).alloc (Nat.le_refl _) _)⟩
  case round =>
    obtain ⟨k, out, rfl, hk, hol, HK, HO, HA, HBW⟩ := hrel
    by_cases hlt : k < n0
    · have hltz : (k : Int) < (n0 : Int) := by omega
      obtain ⟨x, hx⟩ : ∃ x, l[k]? = some x := ⟨_, List.getElem?_eq_getElem (by have := HN.out; omega)⟩
      rcases HCL.out with h0 | ⟨b, o, rfl, hbl, hcl⟩
      · omega
      obtain ⟨p0, p1, p2, p3, p4⟩ := (hcl k x hx).below HBW.out hbl
      have hst := HK.out
      rw [drop_step hx] at hst
      have hto := fun W hW => HTO.out W hW x (List.mem_of_getElem? hx)
      obtain ⟨p, hp⟩ : ∃ p, p = toP x.r v := ⟨_, rfl⟩
      have hst2 : R = if p.2 ≠ 0 then ([], (k : Int), p.2) else allR v (recsOf (l.drop (k + 1))) (k + 1) (recsOf out ++ [p.1]) := by rw [hst, hp]; rfl
      rw [← hp] at hto
      obtain ⟨⟨id, ver, kind, lang, fl⟩, sa, sc⟩ := x
      simp only at p0 p1 p2 p3 p4 hto
      obtain ⟨sn, hsn⟩ : ∃ sn, sn = fl.length := ⟨_, rfl⟩
      rw [← hsn] at p4 hto
      obtain ⟨⟨pid, pver, pkind, plang, pl⟩, pe⟩ := p
      simp only at hst2 hto
      have HTT := Lib.hid hto
      clear HK hx hcl hto hp hsn hst HR
      by_cases hpe : pe = 0
      · subst hpe
        rw [if_neg (by simp)] at hst2
        have HST := Lib.hid hst2
        clear hst2
        go_wp2_with fail
        refine (HTT.out _ HBW.out).mono ?_
        rintro e w2 ⟨xv, rfl, ⟨xa, xn, xc, rfl, hxf⟩, b2⟩
        simp only at hxf ⊢
        have hxl := Lib.hid hxf.len.1
        have HXF := Lib.hid hxf
        have HB2 := Lib.hid (HBW.out.bt b2)
        have HO2 : Hid (OwnR w2 w.heap.size u7 out) := Lib.hid (OwnE.below HO.out b2 (Nat.le_refl _))
        have HA2 : Hid (∀ y ∈ out, RcdAt w2 y) := Lib.hid (fun y hy => Flds.below (HA.out y hy) b2 (Nat.le_refl _))
        obtain ⟨O3, hO3⟩ : ∃ O : Obj, O = (.cells #[.int .i64 pid, .int .i64 pver, .int .i64 pkind, .string plang, .slice xa xn xc] 24) := ⟨_, rfl⟩
        have b4 : Below w2.heap.size w2 ((w2.alloc O3).alloc (.cells #[.int .i64 pid, .int .i64 pver, .int .i64 pkind, .string plang, .slice xa xn xc] 24)) := ((Below.refl _ _).alloc (Nat.le_refl _) _).alloc (by simp) _
        have HO4 : Hid (OwnR ((w2.alloc O3).alloc (.cells #[.int .i64 pid, .int .i64 pver, .int .i64 pkind, .string plang, .slice xa xn xc] 24)) w.heap.size u7 out) := Lib.hid (OwnE.below HO2.out b4 (Nat.le_refl _))
        have HA4 : Hid (∀ y ∈ out, RcdAt ((w2.alloc O3).alloc (.cells #[.int .i64 pid, .int .i64 pver, .int .i64 pkind, .string plang, .slice xa xn xc] 24)) y) := Lib.hid (fun y hy => Flds.below (HA2.out y hy) b4 (Nat.le_refl _))
        have HB4 : Hid (Below w.heap.size w ((w2.alloc O3).alloc (.cells #[.int .i64 pid, .int .i64 pver, .int .i64 pkind, .string plang, .slice xa xn xc] 24))) := Lib.hid (HB2.out.bt b4)
        have HNA : Hid (∀ y ∈ [(⟨⟨pid, pver, pkind, plang, pl⟩, xa, xc⟩ : Rcd)], RcdAt ((w2.alloc O3).alloc (.cells #[.int .i64 pid, .int .i64 pver, .int .i64 pkind, .string plang, .slice xa xn xc] 24)) y) := Lib.hid (by
          intro y hy
          cases List.mem_singleton.1 hy
          show Flds _ (.slice xa pl.length xc) pl
          rw [← hxl.out]
          exact HXF.out.below b4 (Nat.le_refl _))
        have HNW : Hid (∀ j u, (flatE recE [(⟨⟨pid, pver, pkind, plang, pl⟩, xa, xc⟩ : Rcd)])[j]? = some u → ((w2.alloc O3).alloc (.cells #[.int .i64 pid, .int .i64 pver, .int .i64 pkind, .string plang, .slice xa xn xc] 24)).cell? ((⟨w2.heap.size + 1, 0, none⟩ : Addr).add j) = some u) := Lib.hid (cells_rec (by
          refine ⟨?_, ?_, ?_, ?_, ?_⟩ <;> (rw [new2_cell, hxl.out]; rfl)))
        have hsz4 : w.heap.size ≤ ((w2.alloc O3).alloc (.cells #[.int .i64 pid, .int .i64 pver, .int .i64 pkind, .string plang, .slice xa xn xc] 24)).heap.size := HB4.out.size
        subst hO3
        clear hxf b2 b4 p0 p1 p2 p3 p4
        go_wp2_with (at_builtin; refine append_recs rfl _ _ rfl w.heap.size u7 out rfl HO4.out HA4.out ⟨w2.heap.size + 1, 0, none⟩ 1 1 [(⟨⟨pid, pver, pkind, plang, pl⟩, xa, xc⟩ : Rcd)] rfl rfl (by decide) HNW.out HNA.out (by omega) hsz4 ?_)
        intro v5 w5 hown hat hb5
        have HO5 := Lib.hid hown
        have HA5 := Lib.hid hat
        have HB5 : Hid (Below w.heap.size w w5) := Lib.hid (HB4.out.trans hb5)
        have HST5 : Hid (R = allR v (recsOf (l.drop (k + 1))) (k + 1) (recsOf (out ++ [(⟨⟨pid, pver, pkind, plang, pl⟩, xa, xc⟩ : Rcd)]))) := Lib.hid (by rw [HST.out]; simp [recsOf])
        clear hown hat hb5 HO4 HA4 HB4 HNA HNW
        go_wp2
        go_roundw
        case rel => exact ⟨k + 1, out ++ [(⟨⟨pid, pver, pkind, plang, pl⟩, xa, xc⟩ : Rcd)], by go_num, by omega, by rw [List.length_append]; simp only [List.length_cons, List.length_nil]; omega, HST5, HO5, Lib.hid (fun y hy => HA5.out y (by simpa using hy)), HB5⟩
        case measure => simp [intOf]; omega
      · have hpz : (pe == 0) = false := by simpa using hpe
        have hpn : (pe != 0) = true := by rw [bne, hpz]; rfl
        rw [if_pos (by simpa using hpe)] at hst2
        have HST := Lib.hid hst2
        clear hst2 hpe
        go_wp2_with fail
        refine (HTT.out _ (HBW.out)).mono ?_
        rintro e w2 ⟨xv, rfl, ⟨xa, xn, xc, rfl, hxf⟩, b2⟩
        simp only
        have HB3 : Hid (Below w.heap.size w (w2.alloc (.cells #[.int .i64 pid, .int .i64 pver, .int .i64 pkind, .string plang, .slice xa xn xc] 24))) := Lib.hid (((HBW.out).bt b2).alloc ((HBW.out).bt b2).size _)
        clear hxf b2 p0 p1 p2 p3 p4
        go_wp2
        go_ret3
        exact ⟨_, [], by rw [HST.out]; rfl, Recs.nil _, by rw [HST.out]; rfl, HB3.out⟩
    · have hltz : ¬ (k : Int) < (n0 : Int) := by omega
      have HRe : Hid (R = (recsOf out, -1, 0)) := Lib.hid (by rw [HK.out, List.drop_eq_nil_of_le (by have := HN.out; omega)]; rfl)
      go_wp2
      go_ret3
      exact ⟨u7, out, by rw [HRe.out]; rfl, OwnR.recs HO.out HA.out, by rw [HRe.out], HBW.out⟩

end Go.Proofs.YtimecccphbgdeaaDoor
