/- The walks of Norm and Same, the program's and the reference's (layer 12). -/
import Derived.Test.YtbolkkpgahoeaaaDoorHpp
import Derived.Test.YtbolkkpgahoeaaaDoorHpj
import Derived.Test.YtbolkkpgahoeaaaDoorPwd
import Derived.Test.YtbolkkpgahoeaaaDoorRwd
namespace Go.Proofs.YtbolkkpgahoeaaaDoor
open Go Go.RowKit

theorem glue_inter : ∀ ws : List (List Nat), [32].intercalate ws = glue ws
  | [] => by rw [inter_nil]; rfl
  | [x] => by rw [inter_one]; rfl
  | x :: y :: r => by rw [inter_cons _ _ (by simp), glue_inter (y :: r)]; rfl
theorem wordsOf_nil (p : List Nat) : wordsOf p = [] ↔ words p = [] := glue_nil_iff _ fun w hw => (words_letter p w hw).1
/-- strings.Join of texts with two dashes between. -/
theorem join_mark (css : List (List Nat)) (v : Value) (w : World) (hv : Strs w v (css.map bs)) (hn : css.length ≤ 4000000000) (hs : (bs (mark.intercalate css)).size ≤ 4000000000) :
    Calls Tryd.prog 35 #[v, .string ⟨#[45, 45]⟩] w fun e w' => e = .returned (.string (bs (mark.intercalate css))) ∧ Below w.heap.size w w' := by
  have h1 : (Lib.join ((css.map bs).map (·.data.toList)) [45, 45]).length ≤ 140737488355328 := by
    have := glueB_bs css
    have h2 : (glueB (css.map bs)).size = (Lib.join ((css.map bs).map (·.data.toList)) [45, 45]).length := by unfold glueB; simp [ByteArray.size]
    rw [← h2, this]; omega
  have := join_any (css.map bs) ⟨#[45, 45]⟩ v w hv (by rw [List.length_map]; exact hn) h1
  rw [← glueB_bs]
  exact this
theorem bytes_eq {a b : List Nat} (ha : okt a = true) (hb : okt b = true) : ((bs a).toList == (bs b).toList) = decide (a = b) := by
  rw [Bool.eq_iff_iff]
  simp only [beq_iff_eq, decide_eq_true_eq]
  constructor
  · intro e
    rw [bs_toList, bs_toList] at e
    exact enc_inj a b ha hb e
  · rintro rfl; rfl
/-- What is left of the norm's parts. -/
def tailW (l : List (List Nat)) : List (List Nat) := normParts l
theorem tailW_step (l : List (List Nat)) (k : Nat) (p : List Nat) (h : l[k]? = some p) : tailW (l.drop k) = if wordsOf p = [] then tailW (l.drop (k + 1)) else wordsOf p :: tailW (l.drop (k + 1)) := by
  obtain ⟨h', rfl⟩ := List.getElem?_eq_some_iff.1 h
  rw [List.drop_eq_getElem_cons h']
  unfold tailW normParts
  rw [List.map_cons, List.filter_cons]
  cases wordsOf l[k] with
  | nil => simp
  | cons a b => simp

set_option maxRecDepth 100000 in
set_option maxHeartbeats 2000000 in
theorem pNorm (cs : List Nat) (w : World) (hE : Env w) (hok : okt cs = true) (hs : (bs cs).size ≤ 60000) :
    Calls Tryd.prog 16 #[.string (bs cs)] w fun e w' => e = .returned (.string (bs (norm cs))) ∧ Below w.heap.size w w' := by
  obtain ⟨i0, hi, hz0, hz1, hz2⟩ := info_parts infoStr
  have HI := Lib.hid hi; have HZ0 := Lib.hid hz0; have HZ1 := Lib.hid hz1; have HZ2 := Lib.hid hz2
  clear hi hz0 hz1 hz2
  have hsp := pParts cs w hE hok hs
  obtain ⟨hl1, hl2⟩ := parts_size cs hok
  have hpo := parts_okt cs hok
  have hns := norm_size cs hok
  obtain ⟨hq1, hq2⟩ := normParts_size cs hok
  have hNR : norm cs = mark.intercalate (normParts (parts cs)) := rfl
  obtain ⟨R, hR⟩ : ∃ R, R = normParts (parts cs) := ⟨_, rfl⟩
  obtain ⟨NR, hNR2⟩ : ∃ NR, NR = norm cs := ⟨_, rfl⟩
  rw [← hR, ← hNR2] at hNR
  rw [← hR] at hq1 hq2
  rw [← hNR2] at hns ⊢
  have hRt : R = tailW (parts cs) := hR
  obtain ⟨ps, hps⟩ : ∃ ps, ps = parts cs := ⟨_, rfl⟩
  rw [← hps] at hsp hl1 hl2 hpo hRt
  obtain ⟨S, hS⟩ : ∃ S, S = bs cs := ⟨_, rfl⟩
  rw [← hS] at hsp hl1 hl2 hs hns hq1 hq2 ⊢
  have HSP := Lib.hid hsp
  have HL2 := Lib.hid hl2
  have HPO := Lib.hid hpo
  have HRT := Lib.hid hRt
  have HNR := Lib.hid hNR
  have HNS := Lib.hid hns
  have HQ1 := Lib.hid hq1
  have HQ2 := Lib.hid hq2
  have HE := Lib.hid hE
  obtain ⟨n, hn⟩ : ∃ n, n = ps.length := ⟨_, rfl⟩
  rw [← hn] at hl1
  have HN := Lib.hid hn
  clear hsp hl2 hpo hR hRt hps hS hok hE hn hNR hNR2 hns hq1 hq2
  go_enter Tryd.func16, Tryd.ntmps16
  go_wp2_with fail
  refine HSP.out.mono ?_
  rintro e w1 ⟨v1, rfl, s1, b1⟩
  obtain ⟨pa, pc, rfl, hpc, hcells⟩ := s1
  rw [List.length_map, ← HN.out] at hpc ⊢
  have HC := Lib.hid hcells
  have HB1 := Lib.hid b1
  clear hcells b1
  go_wp2
  go_loopw [3, 10] (fun vo vk wr => ∃ (k : Nat) (done : List (List Nat)), vk = .int .i64 k ∧ k ≤ n ∧ done.length ≤ k ∧ Hid (R = done ++ tailW (ps.drop k)) ∧ Hid (wr.ownsRow w1.heap.size 9 1 vo done.length ((done.map bs).map Value.string)) ∧ Hid (Below w1.heap.size w1 wr)) (fun _ vk _ => n - (intOf vk).toNat)
  case atStart => exact ⟨0, [], rfl, by omega, by simp, Lib.hid (by rw [HRT.out]; rfl), Lib.hid (World.ownsRow_nil _ _ _ _), Lib.hid (Below.refl _ _)⟩
  case round =>
    obtain ⟨k, done, rfl, hk, hdn, HK, HO, HB⟩ := hrel
    by_cases hlt : k < n
    · have hltz : (k : Int) < (n : Int) := by omega
      obtain ⟨p, hp⟩ : ∃ p, ps[k]? = some p := ⟨_, List.getElem?_eq_getElem (by have := HN.out; omega)⟩
      have hp2 : (ps.map bs)[k]? = some (bs p) := by rw [List.getElem?_map, hp]; rfl
      rcases HC.out with h0 | ⟨b, o, rfl, hbl, hcl⟩
      · rw [h0] at hp2; cases hp2
      have hcell : wr.cell? ⟨b, o + k, none⟩ = some (.string (bs p)) := (HB.out.cell (p := ⟨b, o + k, none⟩) hbl).trans (hcl k _ hp2)
      have hst := HK.out
      rw [tailW_step ps k p hp] at hst
      have hpm := List.mem_of_getElem? hp
      have hpok := HPO.out p hpm
      have hpsz : (bs p).size ≤ 60000 := by have := HL2.out p hpm; omega
      have hwn := wordsOf_nil p
      have hwd := pWords p wr (HE.out.below (HB1.out.bt HB.out)) hpok (by omega)
      have hwsz := wordsOf_size p hpok
      have hwl := words_len p hpok
      obtain ⟨c, hc⟩ : ∃ c, c = wordsOf p := ⟨_, rfl⟩
      have hcg : c = glue (words p) := hc
      obtain ⟨ws, hws⟩ : ∃ ws, ws = words p := ⟨_, rfl⟩
      rw [← hc] at hst hwn hwsz
      rw [← hws] at hwd hwn hcg hwl
      have HWD := Lib.hid hwd
      have HST := Lib.hid hst
      have HCG := Lib.hid hcg
      have HCZ := Lib.hid (show (bs c).size ≤ 60000 by omega)
      have HWL := Lib.hid (show ws.length ≤ 60000 by omega)
      obtain ⟨nw, hnw⟩ : ∃ nw, nw = ws.length := ⟨_, rfl⟩
      have HNW := Lib.hid hnw
      clear hwd hst hc hpm hp hp2 hcl HK hcg hws hpok hwsz hwl hpsz
      by_cases hw0 : nw ≤ 0
      · have hc0 : c = [] := hwn.2 (List.eq_nil_of_length_eq_zero (by omega))
        have HK2 : Hid (R = done ++ tailW (ps.drop (k + 1))) := Lib.hid (by have := HST.out; rwa [if_pos hc0] at this)
        have hnz : ¬ (0 : Int) < (nw : Int) := by omega
        clear hc0 HST hwn hnw
        go_wp2_with fail
        refine HWD.out.mono ?_
        rintro e w2 ⟨v2, rfl, s2, b2⟩
        have HO2 : Hid (w2.ownsRow w1.heap.size 9 1 _ done.length ((done.map bs).map Value.string)) := Lib.hid (own_below HO.out b2)
        have HB2 : Hid (Below w1.heap.size w1 w2) := Lib.hid (HB.out.bt b2)
        obtain ⟨wa, wc, rfl, -, -⟩ := s2
        rw [List.length_map, ← HNW.out]
        clear b2
        go_wp2
        go_roundw
        case rel => exact ⟨k + 1, done, by go_num, by omega, by omega, HK2, HO2, HB2⟩
        case measure => simp [intOf]; omega
      · have hc0 : c ≠ [] := fun e => hw0 (by rw [HNW.out, hwn.1 e]; simp)
        have HK2 : Hid (R = (done ++ [c]) ++ tailW (ps.drop (k + 1))) := Lib.hid (by have := HST.out; rw [if_neg hc0] at this; rw [this]; simp)
        have hnz : (0 : Int) < (nw : Int) := by omega
        clear hc0 HST hwn hnw
        go_wp2_with fail
        refine HWD.out.mono ?_
        rintro e w2 ⟨v2, rfl, s2, b2⟩
        have HO2 : Hid (w2.ownsRow w1.heap.size 9 1 _ done.length ((done.map bs).map Value.string)) := Lib.hid (own_below HO.out b2)
        have HB2 : Hid (Below w1.heap.size w1 w2) := Lib.hid (HB.out.bt b2)
        have HS2 := Lib.hid s2
        obtain ⟨wa, wc, rfl, -, -⟩ := s2
        rw [List.length_map, ← HNW.out] at HS2 ⊢
        clear b2
        go_wp2_with fail
        refine (join_text ws _ w2 HS2.out (by have := HWL.out; omega) (by rw [← HCG.out]; have := HCZ.out; omega)).mono ?_
        rw [← HCG.out]
        rintro e w3 ⟨rfl, b3⟩
        have HO3 : Hid (w3.ownsRow w1.heap.size 9 1 _ done.length ((done.map bs).map Value.string)) := Lib.hid (own_below HO2.out b3)
        have HB3 : Hid (Below w1.heap.size w1 w3) := Lib.hid (HB2.out.bt b3)
        clear b3
        have hs3 := HB3.out.size
        go_wp2_with (at_builtin; refine wpList_append_own _ rfl _ _ 25 rfl w1.heap.size 9 i0 (.string ⟨#[]⟩) 1 16 Tryd.underlying25 HI.out HZ0.out HZ1.out HZ2.out rfl (by decide) _ _ _ rfl (HO3.out.alloc _) ⟨w3.heap.size, 0, none⟩ 1 1 [.string (bs c)] rfl rfl ?c1 ?c2 ?c3 ?c4 ?c5 ?_)
        case c1 => exact cell_one_new _ _ _
        case c2 => simp [Value.oneCell']
        case c3 => unfold maxLen; omega
        case c4 => omega
        case c5 => simp; omega
        intro v4 w4 hown4 hgrow _
        have HO4 : Hid (w4.ownsRow w1.heap.size 9 1 v4 (done ++ [c]).length (((done ++ [c]).map bs).map Value.string)) := Lib.hid (by simpa using hown4)
        have HB4 : Hid (Below w1.heap.size w1 w4) := Lib.hid ((HB3.out.alloc hs3 _).grown hgrow (by simp; omega) (fun q hq => (HO3.out.lt q hq).1))
        clear hown4 hgrow
        go_wp2
        go_roundw
        case rel => exact ⟨k + 1, done ++ [c], by go_num, by omega, by simp; omega, HK2, HO4, HB4⟩
        case measure => simp [intOf]; omega
    · have hltz : ¬ (k : Int) < (n : Int) := by omega
      have HF : Hid (R = done) := Lib.hid (by rw [HK.out, List.drop_eq_nil_of_le (by have := HN.out; omega)]; simp [tailW, normParts])
      have HSD := Lib.hid (Strs.of_own HO.out (by simp))
      go_wp2_with fail
      refine (join_mark done _ wr HSD.out (by omega) (by rw [← HF.out, ← HNR.out]; have := HNS.out; omega)).mono ?_
      rw [← HF.out, ← HNR.out]
      rintro e w5 ⟨rfl, b5⟩
      have HB5 := Lib.hid ((HB1.out.bt HB.out).bt b5)
      clear b5
      go_wp2
      go_ret
      exact ⟨rfl, HB5.out⟩

set_option maxRecDepth 100000 in
set_option maxHeartbeats 2000000 in
theorem rNorm (cs : List Nat) (w : World) (hok : okt cs = true) (hs : (bs cs).size ≤ 60000) :
    Calls Tryd.prog 17 #[.string (bs cs)] w fun e w' => e = .returned (.string (bs (norm cs))) ∧ Below w.heap.size w w' := by
  obtain ⟨i0, hi, hz0, hz1, hz2⟩ := info_parts infoStr
  have HI := Lib.hid hi; have HZ0 := Lib.hid hz0; have HZ1 := Lib.hid hz1; have HZ2 := Lib.hid hz2
  clear hi hz0 hz1 hz2
  have hsp := rParts cs w hok hs
  obtain ⟨hl1, hl2⟩ := parts_size cs hok
  have hpo := parts_okt cs hok
  have hns := norm_size cs hok
  obtain ⟨hq1, hq2⟩ := normParts_size cs hok
  have hNR : norm cs = mark.intercalate (normParts (parts cs)) := rfl
  obtain ⟨R, hR⟩ : ∃ R, R = normParts (parts cs) := ⟨_, rfl⟩
  obtain ⟨NR, hNR2⟩ : ∃ NR, NR = norm cs := ⟨_, rfl⟩
  rw [← hR, ← hNR2] at hNR
  rw [← hR] at hq1 hq2
  rw [← hNR2] at hns ⊢
  have hRt : R = tailW (parts cs) := hR
  obtain ⟨ps, hps⟩ : ∃ ps, ps = parts cs := ⟨_, rfl⟩
  rw [← hps] at hsp hl1 hl2 hpo hRt
  obtain ⟨S, hS⟩ : ∃ S, S = bs cs := ⟨_, rfl⟩
  rw [← hS] at hsp hl1 hl2 hs hns hq1 hq2 ⊢
  have HSP := Lib.hid hsp
  have HL2 := Lib.hid hl2
  have HPO := Lib.hid hpo
  have HRT := Lib.hid hRt
  have HNR := Lib.hid hNR
  have HNS := Lib.hid hns
  have HQ1 := Lib.hid hq1
  have HQ2 := Lib.hid hq2
  skip
  obtain ⟨n, hn⟩ : ∃ n, n = ps.length := ⟨_, rfl⟩
  rw [← hn] at hl1
  have HN := Lib.hid hn
  clear hsp hl2 hpo hR hRt hps hS hok hn hNR hNR2 hns hq1 hq2
  go_enter Tryd.func17, Tryd.ntmps17
  go_wp2_with fail
  refine HSP.out.mono ?_
  rintro e w1 ⟨v1, rfl, s1, b1⟩
  obtain ⟨pa, pc, rfl, hpc, hcells⟩ := s1
  rw [List.length_map, ← HN.out] at hpc ⊢
  have HC := Lib.hid hcells
  have HB1 := Lib.hid b1
  clear hcells b1
  go_wp2
  go_loopw [4, 5] (fun vo vk wr => ∃ (k : Nat) (done : List (List Nat)), vk = .int .i64 k ∧ k ≤ n ∧ done.length ≤ k ∧ Hid (R = done ++ tailW (ps.drop k)) ∧ Hid (wr.ownsRow w1.heap.size 9 1 vo done.length ((done.map bs).map Value.string)) ∧ Hid (Below w1.heap.size w1 wr)) (fun _ vk _ => n - (intOf vk).toNat)
  case atStart => exact ⟨0, [], rfl, by omega, by simp, Lib.hid (by rw [HRT.out]; rfl), Lib.hid (World.ownsRow_made w1 #[] 0 (Nat.le_refl _) (Nat.zero_le _) (by simp)), Lib.hid ((Below.refl _ _).alloc (Nat.le_refl _) _)⟩
  case round =>
    obtain ⟨k, done, rfl, hk, hdn, HK, HO, HB⟩ := hrel
    by_cases hlt : k < n
    · have hltz : (k : Int) < (n : Int) := by omega
      obtain ⟨p, hp⟩ : ∃ p, ps[k]? = some p := ⟨_, List.getElem?_eq_getElem (by have := HN.out; omega)⟩
      have hp2 : (ps.map bs)[k]? = some (bs p) := by rw [List.getElem?_map, hp]; rfl
      rcases HC.out with h0 | ⟨b, o, rfl, hbl, hcl⟩
      · rw [h0] at hp2; cases hp2
      have hcell : wr.cell? ⟨b, o + k, none⟩ = some (.string (bs p)) := (HB.out.cell (p := ⟨b, o + k, none⟩) hbl).trans (hcl k _ hp2)
      have hst := HK.out
      rw [tailW_step ps k p hp] at hst
      have hpm := List.mem_of_getElem? hp
      have hpok := HPO.out p hpm
      have hpsz : (bs p).size ≤ 60000 := by have := HL2.out p hpm; omega
      have hwn := wordsOf_nil p
      have hwd := rWords p wr hpok (by omega)
      have hwsz := wordsOf_size p hpok
      have hwl := words_len p hpok
      obtain ⟨c, hc⟩ : ∃ c, c = wordsOf p := ⟨_, rfl⟩
      have hcg : c = glue (words p) := hc
      obtain ⟨ws, hws⟩ : ∃ ws, ws = words p := ⟨_, rfl⟩
      rw [← hc] at hst hwn hwsz
      rw [← hws] at hwd hwn hcg hwl
      have HWD := Lib.hid hwd
      have HST := Lib.hid hst
      have HCG := Lib.hid hcg
      have HCZ := Lib.hid (show (bs c).size ≤ 60000 by omega)
      have HWL := Lib.hid (show ws.length ≤ 60000 by omega)
      obtain ⟨nw, hnw⟩ : ∃ nw, nw = ws.length := ⟨_, rfl⟩
      have HNW := Lib.hid hnw
      clear hwd hst hc hpm hp hp2 hcl HK hcg hws hpok hwsz hwl hpsz
      by_cases hw0 : nw ≤ 0
      · have hc0 : c = [] := hwn.2 (List.eq_nil_of_length_eq_zero (by omega))
        have HK2 : Hid (R = done ++ tailW (ps.drop (k + 1))) := Lib.hid (by have := HST.out; rwa [if_pos hc0] at this)
        have hnz : ¬ (0 : Int) < (nw : Int) := by omega
        have he : (bs c).toList.isEmpty = true := by rw [bs_isEmpty, hc0]; rfl
        clear hc0 HST hwn hnw
        go_wp2_with fail
        refine HWD.out.mono ?_
        rintro e w2 ⟨v2, rfl, s2, b2⟩
        have HO2 : Hid (w2.ownsRow w1.heap.size 9 1 _ done.length ((done.map bs).map Value.string)) := Lib.hid (own_below HO.out b2)
        have HB2 : Hid (Below w1.heap.size w1 w2) := Lib.hid (HB.out.bt b2)
        have HS2 := Lib.hid s2
        clear b2 s2
        go_wp2_with fail
        refine (rGlue (ws.map bs) ⟨#[32]⟩ _ w2 HS2.out (by rw [List.length_map]; have := HWL.out; omega) (fun i => by
          have e : (⟨#[32]⟩ : ByteArray) = bs [32] := rfl
          rw [e, ← List.map_take, interB_bs, glue_inter]
          have h8 := glue_take_le ws i
          rw [← HCG.out] at h8
          have := HCZ.out
          omega)).mono ?_
        rintro e w3 ⟨rfl, rfl⟩
        have hgl : interB ⟨#[32]⟩ (ws.map bs) = bs c := by
          have e : (⟨#[32]⟩ : ByteArray) = bs [32] := rfl
          rw [e, interB_bs, glue_inter, HCG.out]
        rw [hgl]
        clear hgl
        go_wp2
        go_roundw
        case rel => exact ⟨k + 1, done, by go_num, by omega, by omega, HK2, HO2, HB2⟩
        case measure => simp [intOf]; omega
      · have hc0 : c ≠ [] := fun e => hw0 (by rw [HNW.out, hwn.1 e]; simp)
        have HK2 : Hid (R = (done ++ [c]) ++ tailW (ps.drop (k + 1))) := Lib.hid (by have := HST.out; rw [if_neg hc0] at this; rw [this]; simp)
        have hnz : (0 : Int) < (nw : Int) := by omega
        have he : (bs c).toList.isEmpty = false := bs_full' hc0
        clear hc0 HST hwn hnw
        go_wp2_with fail
        refine HWD.out.mono ?_
        rintro e w2 ⟨v2, rfl, s2, b2⟩
        have HO2 : Hid (w2.ownsRow w1.heap.size 9 1 _ done.length ((done.map bs).map Value.string)) := Lib.hid (own_below HO.out b2)
        have HB2 : Hid (Below w1.heap.size w1 w2) := Lib.hid (HB.out.bt b2)
        have HS2 := Lib.hid s2
        clear b2 s2
        go_wp2_with fail
        refine (rGlue (ws.map bs) ⟨#[32]⟩ _ w2 HS2.out (by rw [List.length_map]; have := HWL.out; omega) (fun i => by
          have e : (⟨#[32]⟩ : ByteArray) = bs [32] := rfl
          rw [e, ← List.map_take, interB_bs, glue_inter]
          have h8 := glue_take_le ws i
          rw [← HCG.out] at h8
          have := HCZ.out
          omega)).mono ?_
        rintro e w3 ⟨rfl, rfl⟩
        have hgl : interB ⟨#[32]⟩ (ws.map bs) = bs c := by
          have e : (⟨#[32]⟩ : ByteArray) = bs [32] := rfl
          rw [e, interB_bs, glue_inter, HCG.out]
        rw [hgl]
        clear hgl
        have hs3 := HB2.out.size
        go_wp2_with (at_builtin; refine wpList_append_own _ rfl _ _ 25 rfl w1.heap.size 9 i0 (.string ⟨#[]⟩) 1 16 Tryd.underlying25 HI.out HZ0.out HZ1.out HZ2.out rfl (by decide) _ _ _ rfl (HO2.out.alloc _) ⟨w3.heap.size, 0, none⟩ 1 1 [.string (bs c)] rfl rfl ?c1 ?c2 ?c3 ?c4 ?c5 ?_)
        case c1 => exact cell_one_new _ _ _
        case c2 => simp [Value.oneCell']
        case c3 => unfold maxLen; omega
        case c4 => omega
        case c5 => simp; omega
        intro v4 w4 hown4 hgrow _
        have HO4 : Hid (w4.ownsRow w1.heap.size 9 1 v4 (done ++ [c]).length (((done ++ [c]).map bs).map Value.string)) := Lib.hid (by simpa using hown4)
        have HB4 : Hid (Below w1.heap.size w1 w4) := Lib.hid ((HB2.out.alloc hs3 _).grown hgrow (by simp; omega) (fun q hq => (HO2.out.lt q hq).1))
        clear hown4 hgrow
        go_wp2
        go_roundw
        case rel => exact ⟨k + 1, done ++ [c], by go_num, by omega, by simp; omega, HK2, HO4, HB4⟩
        case measure => simp [intOf]; omega
    · have hltz : ¬ (k : Int) < (n : Int) := by omega
      have HF : Hid (R = done) := Lib.hid (by rw [HK.out, List.drop_eq_nil_of_le (by have := HN.out; omega)]; simp [tailW, normParts])
      have HSD := Lib.hid (Strs.of_own HO.out (by simp))
      go_wp2_with fail
      refine (rGlue (done.map bs) ⟨#[45, 45]⟩ _ wr HSD.out (by rw [List.length_map]; omega) (fun i => by
        have h8 := take_size ⟨#[45, 45]⟩ (by decide) 60000 (done.map bs) (fun x hx => by
          obtain ⟨q, hq, rfl⟩ := List.mem_map.1 hx
          have := HQ2.out q (by rw [HF.out]; exact hq)
          omega) i
        rw [List.length_map] at h8
        have h9 : done.length * (60000 + 2) ≤ 60001 * (60000 + 2) := Nat.mul_le_mul_right _ (by have := HQ1.out; rw [HF.out] at this; omega)
        omega)).mono ?_
      rintro e w5 ⟨rfl, rfl⟩
      have hgl : interB ⟨#[45, 45]⟩ (done.map bs) = bs NR := by
        have e : (⟨#[45, 45]⟩ : ByteArray) = bs mark := rfl
        rw [e, interB_bs, HNR.out, HF.out]
      rw [hgl]
      have HB5 := Lib.hid (HB1.out.bt HB.out)
      clear hgl
      go_wp2
      go_ret
      exact ⟨rfl, HB5.out⟩

set_option maxRecDepth 100000 in
set_option maxHeartbeats 1000000 in
theorem pSame (x y : List Nat) (w : World) (hE : Env w) (hx : okt x = true) (hy : okt y = true) (hxs : (bs x).size ≤ 60000) (hys : (bs y).size ≤ 60000) :
    Calls Tryd.prog 18 #[.string (bs x), .string (bs y)] w fun e w' => e = .returned (.bool (decide (norm x ≠ []) && decide (norm x = norm y))) ∧ Below w.heap.size w w' := by
  have h1 := fun W (hB : Below w.heap.size w W) => pNorm x W (hE.below hB) hx hxs
  have h2 := fun W (hB : Below w.heap.size w W) => pNorm y W (hE.below hB) hy hys
  have hq := bytes_eq (norm_okt x hx) (norm_okt y hy)
  obtain ⟨a, ha⟩ : ∃ a, a = norm x := ⟨_, rfl⟩
  obtain ⟨b, hb⟩ : ∃ b, b = norm y := ⟨_, rfl⟩
  obtain ⟨S, hS⟩ : ∃ S, S = bs x := ⟨_, rfl⟩
  obtain ⟨T, hT⟩ : ∃ T, T = bs y := ⟨_, rfl⟩
  rw [← ha] at hq h1 ⊢
  rw [← hb] at hq h2 ⊢
  rw [← hS] at h1 ⊢
  rw [← hT] at h2 ⊢
  have H1 := Lib.hid h1
  have H2 := Lib.hid h2
  clear h1 h2 ha hb hS hT hx hy hxs hys hE
  cases he : (bs a).toList.isEmpty with
  | true =>
    have ha0 : a = [] := bs_empty he
    have hr : (decide (a ≠ []) && decide (a = b)) = false := by rw [ha0]; simp
    rw [hr]
    clear hr ha0 hq
    go_enter Tryd.func18, Tryd.ntmps18
    go_wp2_with fail
    refine (H1.out w (Below.refl _ _)).mono ?_
    rintro e w1 ⟨rfl, b1⟩
    go_wp2
    go_ret
    exact ⟨rfl, b1⟩
  | false =>
    have hr : (decide (a ≠ []) && decide (a = b)) = decide (a = b) := by rw [decide_eq_true (bs_full he)]; simp
    rw [hr, ← hq]
    clear hr
    obtain ⟨q, hqq⟩ : ∃ q, q = ((bs a).toList == (bs b).toList) := ⟨_, rfl⟩
    rw [← hqq]
    have HQ := Lib.hid hqq
    clear hq hqq
    go_enter Tryd.func18, Tryd.ntmps18
    go_wp2_with fail
    refine (H1.out w (Below.refl _ _)).mono ?_
    rintro e w1 ⟨rfl, b1⟩
    have HB1 := Lib.hid b1
    clear b1
    go_wp2_with fail
    refine (H2.out w1 HB1.out).mono ?_
    rintro e w3 ⟨rfl, b3⟩
    have HB3 := Lib.hid (HB1.out.bt b3)
    clear b3
    go_wp2
    go_ret
    exact ⟨by rw [HQ.out]; first | rfl | simp, HB3.out⟩

set_option maxRecDepth 100000 in
set_option maxHeartbeats 1000000 in
theorem rSame (x y : List Nat) (w : World) (hx : okt x = true) (hy : okt y = true) (hxs : (bs x).size ≤ 60000) (hys : (bs y).size ≤ 60000) :
    Calls Tryd.prog 19 #[.string (bs x), .string (bs y)] w fun e w' => e = .returned (.bool (decide (norm x ≠ []) && decide (norm x = norm y))) ∧ Below w.heap.size w w' := by
  have h1 := fun W (hB : Below w.heap.size w W) => rNorm x W hx hxs
  have h2 := fun W (hB : Below w.heap.size w W) => rNorm y W hy hys
  have hq := bytes_eq (norm_okt x hx) (norm_okt y hy)
  obtain ⟨a, ha⟩ : ∃ a, a = norm x := ⟨_, rfl⟩
  obtain ⟨b, hb⟩ : ∃ b, b = norm y := ⟨_, rfl⟩
  obtain ⟨S, hS⟩ : ∃ S, S = bs x := ⟨_, rfl⟩
  obtain ⟨T, hT⟩ : ∃ T, T = bs y := ⟨_, rfl⟩
  rw [← ha] at hq h1 ⊢
  rw [← hb] at hq h2 ⊢
  rw [← hS] at h1 ⊢
  rw [← hT] at h2 ⊢
  have H1 := Lib.hid h1
  have H2 := Lib.hid h2
  clear h1 h2 ha hb hS hT hx hy hxs hys
  cases he : (bs a).toList.isEmpty with
  | true =>
    have ha0 : a = [] := bs_empty he
    have hr : (decide (a ≠ []) && decide (a = b)) = false := by rw [ha0]; simp
    rw [hr]
    clear hr ha0 hq
    go_enter Tryd.func19, Tryd.ntmps19
    go_wp2_with fail
    refine (H1.out w (Below.refl _ _)).mono ?_
    rintro e w1 ⟨rfl, b1⟩
    go_wp2
    go_ret
    exact ⟨rfl, b1⟩
  | false =>
    have hr : (decide (a ≠ []) && decide (a = b)) = decide (a = b) := by rw [decide_eq_true (bs_full he)]; simp
    rw [hr, ← hq]
    clear hr
    obtain ⟨q, hqq⟩ : ∃ q, q = ((bs a).toList == (bs b).toList) := ⟨_, rfl⟩
    rw [← hqq]
    have HQ := Lib.hid hqq
    clear hq hqq
    go_enter Tryd.func19, Tryd.ntmps19
    go_wp2_with fail
    refine (H1.out w (Below.refl _ _)).mono ?_
    rintro e w1 ⟨rfl, b1⟩
    have HB1 := Lib.hid b1
    clear b1
    go_wp2_with fail
    refine (H1.out w1 HB1.out).mono ?_
    rintro e w2 ⟨rfl, b2⟩
    have HB2 := Lib.hid (HB1.out.bt b2)
    clear b2
    go_wp2_with fail
    refine (H2.out w2 HB2.out).mono ?_
    rintro e w3 ⟨rfl, b3⟩
    have HB3 := Lib.hid (HB2.out.bt b3)
    clear b3
    go_wp2
    go_ret
    exact ⟨by rw [HQ.out]; first | rfl | simp, HB3.out⟩

end Go.Proofs.YtbolkkpgahoeaaaDoor
