/- The walks of Parts, the program's and the reference's (layer 12). -/
import Derived.Test.YtbolkkpgahoeaaaDoorHrs
import Derived.Test.YtbolkkpgahoeaaaDoorHpz
import Derived.Test.YtbolkkpgahoeaaaDoorPcn
import Derived.Test.YtbolkkpgahoeaaaDoorRcn
namespace Go.Proofs.YtbolkkpgahoeaaaDoor
open Go Go.RowKit

theorem map_ba_enc {sep : List Nat} (hs : sep ≠ []) (ha : ascii sep) (cs : List Nat) (hok : okt cs = true) : (split (bs sep).data.toList (bs cs).data.toList).map ba = (split sep cs).map bs := by
  rw [bs_data, bs_data, split_enc hs ha cs hok, List.map_map]
  exact List.map_congr_left fun x _ => rfl
theorem strs_new (w : World) (xs : List ByteArray) (T : TypeId) :
    Strs (w.alloc (.cells (xs.map Value.string).toArray T)) (.slice (some ⟨w.heap.size, 0, none⟩) xs.length xs.length) xs := by
  refine ⟨_, _, rfl, Nat.le_refl _, .inr ⟨w.heap.size, 0, rfl, by simp, fun j x hj => ?_⟩⟩
  rw [Lib.cell_of_heap (heap_alloc_new w _), Nat.zero_add, List.getElem?_toArray, List.getElem?_map, hj]
  rfl
/-- strings.Split. -/
theorem hSplit (s sep : ByteArray) (w : World) (hE : Env w) (hs : s.size ≤ 4000000000) (h1 : 1 ≤ sep.size) :
    Calls Tryd.prog 30 #[.string s, .string sep] w (RetStrs w ((split sep.data.toList s.data.toList).map ba)) := by
  obtain ⟨m, hm⟩ := hE.max
  have hne : sep.data.toList ≠ [] := fun e => by have := len_data sep; rw [e] at this; simp at this; omega
  refine (Tryd.strings_Split s sep m w (by omega) hm h1).mono ?_
  rintro e w' ⟨rfl, rfl⟩
  have hlen := splitB_len s sep hne
  rw [splitB_eq s sep hne] at hlen ⊢
  refine ⟨_, rfl, ?_, (Below.refl _ _).alloc (Nat.le_refl _) _⟩
  rw [← hlen]
  exact strs_new w _ _
/-- What is left of the parts. -/
def tailP (l : List (List Nat)) : List ByteArray := ((l.map clean).filter fun p => !p.isEmpty).map bs
theorem tailP_step (l : List (List Nat)) (k : Nat) (p : List Nat) (h : l[k]? = some p) : tailP (l.drop k) = if clean p = [] then tailP (l.drop (k + 1)) else bs (clean p) :: tailP (l.drop (k + 1)) := by
  obtain ⟨h', rfl⟩ := List.getElem?_eq_some_iff.1 h
  rw [List.drop_eq_getElem_cons h']
  unfold tailP
  rw [List.map_cons, List.filter_cons]
  cases clean l[k] with
  | nil => simp
  | cons a b => simp

set_option maxRecDepth 100000 in
set_option maxHeartbeats 1000000 in
theorem pParts (cs : List Nat) (w : World) (hE : Env w) (hok : okt cs = true) (hs : (bs cs).size ≤ 60000) :
    Calls Tryd.prog 14 #[.string (bs cs)] w (RetStrs w ((parts cs).map bs)) := by
  obtain ⟨i0, hi, hz0, hz1, hz2⟩ := info_parts infoStr
  have HI := Lib.hid hi; have HZ0 := Lib.hid hz0; have HZ1 := Lib.hid hz1; have HZ2 := Lib.hid hz2
  clear hi hz0 hz1 hz2
  have hsp := hSplit (bs cs) (bs mark) w hE (by omega) (by decide)
  rw [map_ba_enc mark_ne mark_ascii cs hok] at hsp
  obtain ⟨hl1, hl2⟩ := split_text_size mark_ne mark_ascii cs hok
  have hpo := split_okt mark_ne cs hok
  obtain ⟨R, hR⟩ : ∃ R, R = (parts cs).map bs := ⟨_, rfl⟩
  rw [← hR]
  have hRt : R = tailP (split mark cs) := hR
  obtain ⟨ps, hps⟩ : ∃ ps, ps = split mark cs := ⟨_, rfl⟩
  rw [← hps] at hsp hl1 hl2 hpo hRt
  have hsp2 : Calls Tryd.prog 30 #[.string (bs cs), .string ⟨#[45, 45]⟩] w (RetStrs w (ps.map bs)) := hsp
  obtain ⟨S, hS⟩ : ∃ S, S = bs cs := ⟨_, rfl⟩
  rw [← hS] at hsp2 hl1 hl2 hs ⊢
  have HSP := Lib.hid hsp2
  have HL2 := Lib.hid hl2
  have HPO := Lib.hid hpo
  have HRT := Lib.hid hRt
  obtain ⟨n, hn⟩ : ∃ n, n = ps.length := ⟨_, rfl⟩
  rw [← hn] at hl1
  have HN := Lib.hid hn
  clear hsp hsp2 hl2 hpo hR hRt hps hS hok hE hn
  go_enter Tryd.func14, Tryd.ntmps14
  go_wp2_with fail
  refine HSP.out.mono ?_
  rintro e w1 ⟨v1, rfl, s1, b1⟩
  obtain ⟨pa, pc, rfl, hpc, hcells⟩ := s1
  rw [List.length_map, ← HN.out] at hpc ⊢
  have HC := Lib.hid hcells
  have HB1 := Lib.hid b1
  clear hcells b1
  go_wp2
  go_loopw [3, 10] (fun vo vk wr => ∃ (k : Nat) (done : List ByteArray), vk = .int .i64 k ∧ k ≤ n ∧ done.length ≤ k ∧ Hid (R = done ++ tailP (ps.drop k)) ∧ Hid (wr.ownsRow w1.heap.size 9 1 vo done.length (done.map Value.string)) ∧ Hid (Below w1.heap.size w1 wr)) (fun _ vk _ => n - (intOf vk).toNat)
  case atStart => exact ⟨0, [], rfl, by omega, by simp, Lib.hid (by rw [HRT.out]; rfl), Lib.hid (World.ownsRow_nil _ _ _ _), Lib.hid (Below.refl _ _)⟩
  case round =>
    obtain ⟨k, done, rfl, hk, hdn, HK, HO, HB⟩ := hrel
    by_cases hlt : k < n
    · have hltz : (k : Int) < (n : Int) := by omega
      obtain ⟨p, hp⟩ : ∃ p, ps[k]? = some p := ⟨_, List.getElem?_eq_getElem (by have := HN.out; omega)⟩
      have hp2 : (ps.map bs)[k]? = some (bs p) := by rw [List.getElem?_map, hp]; rfl
      rcases HC.out with h0 | ⟨b, o, rfl, hbl, hcl⟩
      · rw [h0] at hp2; cases hp2
      have hcell : wr.cell? ⟨b, o + k, none⟩ = some (.string (bs p)) := (HB.out.cell (p := ⟨b, o + k, none⟩) hbl).trans (hcl k _ hp2)
      have hst := HK.out
      rw [tailP_step ps k p hp] at hst
      have hpm := List.mem_of_getElem? hp
      have hcn := pClean p wr (HPO.out p hpm) (by have := HL2.out p hpm; omega)
      obtain ⟨c, hc⟩ : ∃ c, c = clean p := ⟨_, rfl⟩
      rw [← hc] at hst hcn
      have HCN := Lib.hid hcn
      have HST := Lib.hid hst
      clear hcn hst hc hpm hp hp2 hcl HK
      cases he : (bs c).toList.isEmpty with
      | true =>
        have hc0 := bs_empty he
        have HK2 : Hid (R = done ++ tailP (ps.drop (k + 1))) := Lib.hid (by have := HST.out; rwa [if_pos hc0] at this)
        clear hc0 HST
        go_wp2_with fail
        refine HCN.out.mono ?_
        rintro e w2 ⟨rfl, b2⟩
        have HO2 : Hid (w2.ownsRow w1.heap.size 9 1 _ done.length (done.map Value.string)) := Lib.hid (own_below HO.out b2)
        have HB2 : Hid (Below w1.heap.size w1 w2) := Lib.hid (HB.out.bt b2)
        clear b2
        go_wp2
        go_roundw
        case rel => exact ⟨k + 1, done, by go_num, by omega, by omega, HK2, HO2, HB2⟩
        case measure => simp [intOf]; omega
      | false =>
        have hc0 := bs_full he
        have HK2 : Hid (R = (done ++ [bs c]) ++ tailP (ps.drop (k + 1))) := Lib.hid (by have := HST.out; rw [if_neg hc0] at this; rw [this]; simp)
        clear hc0 HST
        go_wp2_with fail
        refine HCN.out.mono ?_
        rintro e w2 ⟨rfl, b2⟩
        have HO2 : Hid (w2.ownsRow w1.heap.size 9 1 _ done.length (done.map Value.string)) := Lib.hid (own_below HO.out b2)
        have HB2 : Hid (Below w1.heap.size w1 w2) := Lib.hid (HB.out.bt b2)
        have hs2 := HB2.out.size
        clear b2
        go_wp2_with (at_builtin; refine wpList_append_own _ rfl _ _ 25 rfl w1.heap.size 9 i0 (.string ⟨#[]⟩) 1 16 Tryd.underlying25 HI.out HZ0.out HZ1.out HZ2.out rfl (by decide) _ _ _ rfl (HO2.out.alloc _) ⟨w2.heap.size, 0, none⟩ 1 1 [.string (bs c)] rfl rfl ?c1 ?c2 ?c3 ?c4 ?c5 ?_)
        case c1 => exact cell_one_new _ _ _
        case c2 => simp [Value.oneCell']
        case c3 => unfold maxLen; omega
        case c4 => omega
        case c5 => simp; omega
        intro v3 w3 hown3 hgrow _
        have HO3 : Hid (w3.ownsRow w1.heap.size 9 1 v3 (done ++ [bs c]).length ((done ++ [bs c]).map Value.string)) := Lib.hid (by simpa using hown3)
        have HB3 : Hid (Below w1.heap.size w1 w3) := Lib.hid ((HB2.out.alloc hs2 _).grown hgrow (by simp; omega) (fun q hq => (HO2.out.lt q hq).1))
        clear hown3 hgrow
        go_wp2
        go_roundw
        case rel => exact ⟨k + 1, done ++ [bs c], by go_num, by omega, by simp; omega, HK2, HO3, HB3⟩
        case measure => simp [intOf]; omega
    · have hltz : ¬ (k : Int) < (n : Int) := by omega
      have HF : Hid (R = done) := Lib.hid (by rw [HK.out, List.drop_eq_nil_of_le (by have := HN.out; omega)]; simp [tailP])
      go_wp2
      go_ret
      exact ⟨_, rfl, by rw [HF.out]; exact Strs.of_own HO.out rfl, HB1.out.bt HB.out⟩
set_option maxRecDepth 100000 in
set_option maxHeartbeats 1000000 in
theorem rParts (cs : List Nat) (w : World) (hok : okt cs = true) (hs : (bs cs).size ≤ 60000) :
    Calls Tryd.prog 15 #[.string (bs cs)] w (RetStrs w ((parts cs).map bs)) := by
  obtain ⟨i0, hi, hz0, hz1, hz2⟩ := info_parts infoStr
  have HI := Lib.hid hi; have HZ0 := Lib.hid hz0; have HZ1 := Lib.hid hz1; have HZ2 := Lib.hid hz2
  clear hi hz0 hz1 hz2
  have hsp := rSplit (bs cs) (bs mark) w (by decide) (by decide) (by omega)
  rw [map_ba_enc mark_ne mark_ascii cs hok] at hsp
  obtain ⟨hl1, hl2⟩ := split_text_size mark_ne mark_ascii cs hok
  have hpo := split_okt mark_ne cs hok
  obtain ⟨R, hR⟩ : ∃ R, R = (parts cs).map bs := ⟨_, rfl⟩
  rw [← hR]
  have hRt : R = tailP (split mark cs) := hR
  obtain ⟨ps, hps⟩ : ∃ ps, ps = split mark cs := ⟨_, rfl⟩
  rw [← hps] at hsp hl1 hl2 hpo hRt
  have hsp2 : Calls Tryd.prog 32 #[.string (bs cs), .string ⟨#[45, 45]⟩] w (RetStrs w (ps.map bs)) := hsp
  obtain ⟨S, hS⟩ : ∃ S, S = bs cs := ⟨_, rfl⟩
  rw [← hS] at hsp2 hl1 hl2 hs ⊢
  have HSP := Lib.hid hsp2
  have HL2 := Lib.hid hl2
  have HPO := Lib.hid hpo
  have HRT := Lib.hid hRt
  obtain ⟨n, hn⟩ : ∃ n, n = ps.length := ⟨_, rfl⟩
  rw [← hn] at hl1
  have HN := Lib.hid hn
  clear hsp hsp2 hl2 hpo hR hRt hps hS hok hn
  go_enter Tryd.func15, Tryd.ntmps15
  go_wp2_with fail
  refine HSP.out.mono ?_
  rintro e w1 ⟨v1, rfl, s1, b1⟩
  obtain ⟨pa, pc, rfl, hpc, hcells⟩ := s1
  rw [List.length_map, ← HN.out] at hpc ⊢
  have HC := Lib.hid hcells
  have HB1 := Lib.hid b1
  clear hcells b1
  go_wp2
  go_loopw [4, 5] (fun vo vk wr => ∃ (k : Nat) (done : List ByteArray), vk = .int .i64 k ∧ k ≤ n ∧ done.length ≤ k ∧ Hid (R = done ++ tailP (ps.drop k)) ∧ Hid (wr.ownsRow w1.heap.size 9 1 vo done.length (done.map Value.string)) ∧ Hid (Below w1.heap.size w1 wr)) (fun _ vk _ => n - (intOf vk).toNat)
  case atStart => exact ⟨0, [], rfl, by omega, by simp, Lib.hid (by rw [HRT.out]; rfl), Lib.hid (World.ownsRow_made w1 #[] 0 (Nat.le_refl _) (Nat.zero_le _) (by simp)), Lib.hid ((Below.refl _ _).alloc (Nat.le_refl _) _)⟩
  case round =>
    obtain ⟨k, done, rfl, hk, hdn, HK, HO, HB⟩ := hrel
    by_cases hlt : k < n
    · have hltz : (k : Int) < (n : Int) := by omega
      obtain ⟨p, hp⟩ : ∃ p, ps[k]? = some p := ⟨_, List.getElem?_eq_getElem (by have := HN.out; omega)⟩
      have hp2 : (ps.map bs)[k]? = some (bs p) := by rw [List.getElem?_map, hp]; rfl
      rcases HC.out with h0 | ⟨b, o, rfl, hbl, hcl⟩
      · rw [h0] at hp2; cases hp2
      have hcell : wr.cell? ⟨b, o + k, none⟩ = some (.string (bs p)) := (HB.out.cell (p := ⟨b, o + k, none⟩) hbl).trans (hcl k _ hp2)
      have hst := HK.out
      rw [tailP_step ps k p hp] at hst
      have hpm := List.mem_of_getElem? hp
      have hcn := (rClean p wr (HPO.out p hpm) (by have := HL2.out p hpm; omega)).mono fun e w' h => And.intro h.1 (h.2.below wr.heap.size)
      obtain ⟨c, hc⟩ : ∃ c, c = clean p := ⟨_, rfl⟩
      rw [← hc] at hst hcn
      have HCN := Lib.hid hcn
      have HST := Lib.hid hst
      clear hcn hst hc hpm hp hp2 hcl HK
      cases he : (bs c).toList.isEmpty with
      | true =>
        have hc0 := bs_empty he
        have HK2 : Hid (R = done ++ tailP (ps.drop (k + 1))) := Lib.hid (by have := HST.out; rwa [if_pos hc0] at this)
        clear hc0 HST
        go_wp2_with fail
        refine HCN.out.mono ?_
        rintro e w2 ⟨rfl, b2⟩
        have HO2 : Hid (w2.ownsRow w1.heap.size 9 1 _ done.length (done.map Value.string)) := Lib.hid (own_below HO.out b2)
        have HB2 : Hid (Below w1.heap.size w1 w2) := Lib.hid (HB.out.bt b2)
        clear b2
        go_wp2
        go_roundw
        case rel => exact ⟨k + 1, done, by go_num, by omega, by omega, HK2, HO2, HB2⟩
        case measure => simp [intOf]; omega
      | false =>
        have hc0 := bs_full he
        have HK2 : Hid (R = (done ++ [bs c]) ++ tailP (ps.drop (k + 1))) := Lib.hid (by have := HST.out; rw [if_neg hc0] at this; rw [this]; simp)
        clear hc0 HST
        go_wp2_with fail
        refine HCN.out.mono ?_
        rintro e w2 ⟨rfl, b2⟩
        have HO2 : Hid (w2.ownsRow w1.heap.size 9 1 _ done.length (done.map Value.string)) := Lib.hid (own_below HO.out b2)
        have HB2 : Hid (Below w1.heap.size w1 w2) := Lib.hid (HB.out.bt b2)
        have hs2 := HB2.out.size
        clear b2
        go_wp2_with (at_builtin; refine wpList_append_own _ rfl _ _ 25 rfl w1.heap.size 9 i0 (.string ⟨#[]⟩) 1 16 Tryd.underlying25 HI.out HZ0.out HZ1.out HZ2.out rfl (by decide) _ _ _ rfl (HO2.out.alloc _) ⟨w2.heap.size, 0, none⟩ 1 1 [.string (bs c)] rfl rfl ?c1 ?c2 ?c3 ?c4 ?c5 ?_)
        case c1 => exact cell_one_new _ _ _
        case c2 => simp [Value.oneCell']
        case c3 => unfold maxLen; omega
        case c4 => omega
        case c5 => simp; omega
        intro v3 w3 hown3 hgrow _
        have HO3 : Hid (w3.ownsRow w1.heap.size 9 1 v3 (done ++ [bs c]).length ((done ++ [bs c]).map Value.string)) := Lib.hid (by simpa using hown3)
        have HB3 : Hid (Below w1.heap.size w1 w3) := Lib.hid ((HB2.out.alloc hs2 _).grown hgrow (by simp; omega) (fun q hq => (HO2.out.lt q hq).1))
        clear hown3 hgrow
        go_wp2
        go_roundw
        case rel => exact ⟨k + 1, done ++ [bs c], by go_num, by omega, by simp; omega, HK2, HO3, HB3⟩
        case measure => simp [intOf]; omega
    · have hltz : ¬ (k : Int) < (n : Int) := by omega
      have HF : Hid (R = done) := Lib.hid (by rw [HK.out, List.drop_eq_nil_of_le (by have := HN.out; omega)]; simp [tailP])
      go_wp2
      go_ret
      exact ⟨_, rfl, by rw [HF.out]; exact Strs.of_own HO.out rfl, HB1.out.bt HB.out⟩
end Go.Proofs.YtbolkkpgahoeaaaDoor
