/- The walks of Above, the program's and the reference's (layer 12). -/
import Derived.Test.YtbolkkpgahoeaaaDoorHpo
namespace Go.Proofs.YtbolkkpgahoeaaaDoor
open Go Go.RowKit

theorem strs_take {w : World} {a : Option Addr} {n c : Nat} {xs : List ByteArray} (h : Strs w (.slice a n c) xs) {k : Nat} (hk : k ≤ n) : Strs w (.slice a k c) (xs.take k) := by
  obtain ⟨a', c', he, hc, hx⟩ := h
  cases he
  have hl : (xs.take k).length = k := by rw [List.length_take]; omega
  refine ⟨a, c, by rw [hl], by omega, ?_⟩
  rcases hx with h0 | ⟨b, o, ha, hb, hcl⟩
  · exact .inl (by rw [h0]; simp)
  · exact .inr ⟨b, o, ha, hb, fun j x hj => hcl j x (by
      have : j < k := by have := (List.getElem?_eq_some_iff.1 hj).1; omega
      rwa [List.getElem?_take_of_lt this] at hj)⟩
theorem upFrom_pos (l : List (List Nat)) (k : Nat) (h : 0 < k) : upFrom l k = mark.intercalate (l.take k) :: upFrom l (k - 1) := by
  obtain ⟨j, rfl⟩ : ∃ j, k = j + 1 := ⟨k - 1, by omega⟩
  rfl

set_option maxRecDepth 100000 in
set_option maxHeartbeats 2000000 in
theorem pAbove (cs : List Nat) (w : World) (hE : Env w) (hok : okt cs = true) (hs : (bs cs).size ≤ 60000) :
    Calls Tryd.prog 23 #[.string (bs cs)] w (RetStrs w ((above cs).map bs)) := by
  obtain ⟨i0, hi, hz0, hz1, hz2⟩ := info_parts infoStr
  have HI := Lib.hid hi; have HZ0 := Lib.hid hz0; have HZ1 := Lib.hid hz1; have HZ2 := Lib.hid hz2
  clear hi hz0 hz1 hz2
  have hsp := pParts cs w hE hok hs
  obtain ⟨hl1, hl2⟩ := parts_size cs hok
  have hAb : above cs = upFrom (parts cs) ((parts cs).length - 1) := rfl
  obtain ⟨R, hR⟩ : ∃ R, R = above cs := ⟨_, rfl⟩
  rw [← hR] at hAb ⊢
  obtain ⟨ps, hps⟩ : ∃ ps, ps = parts cs := ⟨_, rfl⟩
  rw [← hps] at hsp hl1 hl2 hAb
  obtain ⟨S, hS⟩ : ∃ S, S = bs cs := ⟨_, rfl⟩
  rw [← hS] at hsp hl1 hl2 hs ⊢
  have HSP := Lib.hid hsp
  obtain ⟨n, hn⟩ : ∃ n, n = ps.length := ⟨_, rfl⟩
  rw [← hn] at hl1 hAb
  have hnz : n ≤ 60001 := by omega
  have HJS : Hid (∀ k, (bs (mark.intercalate (ps.take k))).size ≤ 4000000000) := Lib.hid (fun k => by
    have h1 := inter_size (ps.take k) 60000 (fun p hp => Nat.le_trans (hl2 p (List.mem_of_mem_take hp)) hs)
    have h2 : (ps.take k).length * (60000 + 2) ≤ 60001 * (60000 + 2) := Nat.mul_le_mul_right _ (by rw [List.length_take]; omega)
    omega)
  have HN := Lib.hid hn
  have HAB := Lib.hid hAb
  clear hsp hl2 hps hS hok hE hR hAb hl1 hs
  by_cases h0 : n = 0
  · have HR0 : Hid (R = []) := Lib.hid (by rw [HAB.out, h0]; rfl)
    have HL0 : Hid (ps.length = 0) := Lib.hid (by rw [← HN.out]; exact h0)
    clear HJS HAB hnz h0 HN
    go_enter Tryd.func23, Tryd.ntmps23
    go_wp2_with fail
    refine HSP.out.mono ?_
    rintro e w1 ⟨v1, rfl, s1, b1⟩
    obtain ⟨pa, pc, rfl, -, -⟩ := s1
    rw [List.length_map, HL0.out]
    have HB1 := Lib.hid b1
    clear b1
    go_wp2
    go_loopw [3, 5] (fun vo vk wr => vk = .int .i64 (-1) ∧ Hid (wr.ownsRow w1.heap.size 9 1 vo 0 (([] : List ByteArray).map Value.string)) ∧ Hid (Below w1.heap.size w1 wr)) (fun _ vk _ => 0)
    case atStart => exact ⟨rfl, Lib.hid (World.ownsRow_nil _ _ _ _), Lib.hid (Below.refl _ _)⟩
    case round =>
      obtain ⟨rfl, HO, HB⟩ := hrel
      go_wp2
      go_ret
      exact ⟨_, rfl, by rw [HR0.out]; exact Strs.of_own HO.out rfl, HB1.out.bt HB.out⟩
  · have hn1 : (1 : Int) ≤ (n : Int) := by omega
    go_enter Tryd.func23, Tryd.ntmps23
    go_wp2_with fail
    refine HSP.out.mono ?_
    rintro e w1 ⟨v1, rfl, s1, b1⟩
    have HS1 := Lib.hid s1
    obtain ⟨pa, pc, rfl, hpc, -⟩ := s1
    rw [List.length_map, ← HN.out] at hpc HS1 ⊢
    have HB1 := Lib.hid b1
    clear b1
    go_wp2
    go_loopw [3, 5] (fun vo vk wr => ∃ (k : Nat) (done : List (List Nat)), vk = .int .i64 k ∧ k ≤ n ∧ done.length ≤ n - k ∧ Hid (R = done ++ upFrom ps k) ∧ Hid (wr.ownsRow w1.heap.size 9 1 vo done.length ((done.map bs).map Value.string)) ∧ Hid (Below w1.heap.size w1 wr)) (fun _ vk _ => (intOf vk).toNat)
    case atStart => exact ⟨n - 1, [], by first | rfl | (congr 1; omega), by omega, by simp, Lib.hid (by rw [HAB.out]; rfl), Lib.hid (World.ownsRow_nil _ _ _ _), Lib.hid (Below.refl _ _)⟩
    case round =>
      obtain ⟨k, done, rfl, hk, hdn, HK, HO, HB⟩ := hrel
      by_cases hlt : 0 < k
      · have hltz : (0 : Int) < (k : Int) := by omega
        have HK2 : Hid (R = (done ++ [mark.intercalate (ps.take k)]) ++ upFrom ps (k - 1)) := Lib.hid (by rw [HK.out, upFrom_pos ps k hlt]; simp)
        have HST := Lib.hid (strs_take (HS1.out.below HB.out (Nat.le_refl _)) hk)
        have hkn : (k : Int) ≤ (pc : Int) := by omega
        obtain ⟨c, hc⟩ : ∃ c, c = mark.intercalate (ps.take k) := ⟨_, rfl⟩
        rw [← hc] at HK2
        have HC := Lib.hid hc
        clear HK hc
        go_wp2_with fail
        refine (join_mark (ps.take k) _ wr (by rw [List.map_take]; exact HST.out) (by rw [List.length_take]; omega) (HJS.out k)).mono ?_
        rw [← HC.out]
        rintro e w3 ⟨rfl, b3⟩
        have HO3 : Hid (w3.ownsRow w1.heap.size 9 1 _ done.length ((done.map bs).map Value.string)) := Lib.hid (own_below HO.out b3)
        have HB3 : Hid (Below w1.heap.size w1 w3) := Lib.hid (HB.out.bt b3)
        clear b3
        have hs3 := HB3.out.size
        go_wp2_with (at_builtin; refine wpList_append_own _ rfl _ _ 25 rfl w1.heap.size 9 i0 (.string ⟨#[]⟩) 1 16 Tryd.underlying25 HI.out HZ0.out HZ1.out HZ2.out rfl (by decide) _ _ _ rfl (HO3.out.alloc _) ⟨w3.heap.size, 0, none⟩ 1 1 [.string (bs c)] rfl rfl ?c1 ?c2 ?c3 ?c4 ?c5 ?_)
        case c1 => exact cell_one_new _ _ _
        case c2 => simp [Value.oneCell']
        case c3 => unfold maxLen; omega
        case c4 => omega
        case c5 => simp; omega
        intro v4 w4 hown4 hgrow _
        have HO4 : Hid (w4.ownsRow w1.heap.size 9 1 v4 (done ++ [c]).length (((done ++ [c]).map bs).map Value.string)) := Lib.hid (by simpa using hown4)
        have HB4 : Hid (Below w1.heap.size w1 w4) := Lib.hid ((HB3.out.alloc hs3 _).grown hgrow (by simp; omega) (fun q hq => (HO3.out.lt q hq).1))
        clear hown4 hgrow
        go_wp2
        go_roundw
        case rel => exact ⟨k - 1, done ++ [c], by first | (congr 1; omega) | go_num, by omega, by simp; omega, HK2, HO4, HB4⟩
        case measure => simp [intOf]; omega
      · have hltz : ¬ (0 : Int) < (k : Int) := by omega
        have HF : Hid (R = done) := Lib.hid (by rw [HK.out, show k = 0 by omega]; simp [upFrom])
        go_wp2
        go_ret
        exact ⟨_, rfl, by rw [HF.out]; exact Strs.of_own HO.out (by simp), HB1.out.bt HB.out⟩

set_option maxRecDepth 100000 in
set_option maxHeartbeats 2000000 in
theorem rAbove (cs : List Nat) (w : World) (hok : okt cs = true) (hs : (bs cs).size ≤ 60000) :
    Calls Tryd.prog 24 #[.string (bs cs)] w (RetStrs w ((above cs).map bs)) := by
  obtain ⟨i0, hi, hz0, hz1, hz2⟩ := info_parts infoStr
  have HI := Lib.hid hi; have HZ0 := Lib.hid hz0; have HZ1 := Lib.hid hz1; have HZ2 := Lib.hid hz2
  clear hi hz0 hz1 hz2
  have hsp := rParts cs w hok hs
  obtain ⟨hl1, hl2⟩ := parts_size cs hok
  have hAb : above cs = upFrom (parts cs) ((parts cs).length - 1) := rfl
  obtain ⟨R, hR⟩ : ∃ R, R = above cs := ⟨_, rfl⟩
  rw [← hR] at hAb ⊢
  obtain ⟨ps, hps⟩ : ∃ ps, ps = parts cs := ⟨_, rfl⟩
  rw [← hps] at hsp hl1 hl2 hAb
  obtain ⟨S, hS⟩ : ∃ S, S = bs cs := ⟨_, rfl⟩
  rw [← hS] at hsp hl1 hl2 hs ⊢
  have HSP := Lib.hid hsp
  obtain ⟨n, hn⟩ : ∃ n, n = ps.length := ⟨_, rfl⟩
  rw [← hn] at hl1 hAb
  have hnz : n ≤ 60001 := by omega
  have HJS : Hid (∀ k, (bs (mark.intercalate (ps.take k))).size ≤ 4000000000) := Lib.hid (fun k => by
    have h1 := inter_size (ps.take k) 60000 (fun p hp => Nat.le_trans (hl2 p (List.mem_of_mem_take hp)) hs)
    have h2 : (ps.take k).length * (60000 + 2) ≤ 60001 * (60000 + 2) := Nat.mul_le_mul_right _ (by rw [List.length_take]; omega)
    omega)
  have HN := Lib.hid hn
  have HAB := Lib.hid hAb
  clear hsp hl2 hps hS hok hR hAb hl1 hs
  by_cases h0 : n = 0
  · have HR0 : Hid (R = []) := Lib.hid (by rw [HAB.out, h0]; rfl)
    have HL0 : Hid (ps.length = 0) := Lib.hid (by rw [← HN.out]; exact h0)
    clear HJS HAB hnz h0 HN
    go_enter Tryd.func24, Tryd.ntmps24
    go_wp2_with fail
    refine HSP.out.mono ?_
    rintro e w1 ⟨v1, rfl, s1, b1⟩
    obtain ⟨pa, pc, rfl, -, -⟩ := s1
    rw [List.length_map, HL0.out]
    have HB1 := Lib.hid b1
    clear b1
    go_wp2
    go_loopw [4, 5] (fun vo vk wr => vk = .int .i64 (-1) ∧ Hid (wr.ownsRow w1.heap.size 9 1 vo 0 (([] : List ByteArray).map Value.string)) ∧ Hid (Below w1.heap.size w1 wr)) (fun _ vk _ => 0)
    case atStart => exact ⟨rfl, Lib.hid (World.ownsRow_made w1 #[] 0 (Nat.le_refl _) (Nat.zero_le _) (by simp)), Lib.hid ((Below.refl _ _).alloc (Nat.le_refl _) _)⟩
    case round =>
      obtain ⟨rfl, HO, HB⟩ := hrel
      go_wp2
      go_ret
      exact ⟨_, rfl, by rw [HR0.out]; exact Strs.of_own HO.out rfl, HB1.out.bt HB.out⟩
  · have hn1 : (1 : Int) ≤ (n : Int) := by omega
    go_enter Tryd.func24, Tryd.ntmps24
    go_wp2_with fail
    refine HSP.out.mono ?_
    rintro e w1 ⟨v1, rfl, s1, b1⟩
    have HS1 := Lib.hid s1
    obtain ⟨pa, pc, rfl, hpc, -⟩ := s1
    rw [List.length_map, ← HN.out] at hpc HS1 ⊢
    have HB1 := Lib.hid b1
    clear b1
    go_wp2
    go_loopw [4, 5] (fun vo vk wr => ∃ (k : Nat) (done : List (List Nat)), vk = .int .i64 k ∧ k ≤ n ∧ done.length ≤ n - k ∧ Hid (R = done ++ upFrom ps k) ∧ Hid (wr.ownsRow w1.heap.size 9 1 vo done.length ((done.map bs).map Value.string)) ∧ Hid (Below w1.heap.size w1 wr)) (fun _ vk _ => (intOf vk).toNat)
    case atStart => exact ⟨n - 1, [], by first | rfl | (congr 1; omega), by omega, by simp, Lib.hid (by rw [HAB.out]; rfl), Lib.hid (World.ownsRow_made w1 #[] 0 (Nat.le_refl _) (Nat.zero_le _) (by simp)), Lib.hid ((Below.refl _ _).alloc (Nat.le_refl _) _)⟩
    case round =>
      obtain ⟨k, done, rfl, hk, hdn, HK, HO, HB⟩ := hrel
      by_cases hlt : 0 < k
      · have hltz : (0 : Int) < (k : Int) := by omega
        have HK2 : Hid (R = (done ++ [mark.intercalate (ps.take k)]) ++ upFrom ps (k - 1)) := Lib.hid (by rw [HK.out, upFrom_pos ps k hlt]; simp)
        have HST := Lib.hid (strs_take (HS1.out.below HB.out (Nat.le_refl _)) hk)
        have hkn : (k : Int) ≤ (pc : Int) := by omega
        obtain ⟨c, hc⟩ : ∃ c, c = mark.intercalate (ps.take k) := ⟨_, rfl⟩
        rw [← hc] at HK2
        have HC := Lib.hid hc
        clear HK hc
        go_wp2_with fail
        refine (rGlue ((ps.map bs).take k) ⟨#[45, 45]⟩ _ wr HST.out (by rw [List.length_take]; omega) (fun i => by
          have e : (⟨#[45, 45]⟩ : ByteArray) = bs mark := rfl
          rw [e, List.take_take, ← List.map_take, interB_bs]
          exact HJS.out _)).mono ?_
        rintro e w3 ⟨rfl, rfl⟩
        have hgl : interB ⟨#[45, 45]⟩ ((ps.map bs).take k) = bs c := by
          have e : (⟨#[45, 45]⟩ : ByteArray) = bs mark := rfl
          rw [e, ← List.map_take, interB_bs, HC.out]
        rw [hgl]
        have HO3 := HO
        have HB3 := HB
        clear hgl
        have hs3 := HB3.out.size
        go_wp2_with (at_builtin; refine wpList_append_own _ rfl _ _ 25 rfl w1.heap.size 9 i0 (.string ⟨#[]⟩) 1 16 Tryd.underlying25 HI.out HZ0.out HZ1.out HZ2.out rfl (by decide) _ _ _ rfl (HO3.out.alloc _) ⟨w3.heap.size, 0, none⟩ 1 1 [.string (bs c)] rfl rfl ?c1 ?c2 ?c3 ?c4 ?c5 ?_)
        case c1 => exact cell_one_new _ _ _
        case c2 => simp [Value.oneCell']
        case c3 => unfold maxLen; omega
        case c4 => omega
        case c5 => simp; omega
        intro v4 w4 hown4 hgrow _
        have HO4 : Hid (w4.ownsRow w1.heap.size 9 1 v4 (done ++ [c]).length (((done ++ [c]).map bs).map Value.string)) := Lib.hid (by simpa using hown4)
        have HB4 : Hid (Below w1.heap.size w1 w4) := Lib.hid ((HB3.out.alloc hs3 _).grown hgrow (by simp; omega) (fun q hq => (HO3.out.lt q hq).1))
        clear hown4 hgrow
        go_wp2
        go_roundw
        case rel => exact ⟨k - 1, done ++ [c], by first | (congr 1; omega) | go_num, by omega, by simp; omega, HK2, HO4, HB4⟩
        case measure => simp [intOf]; omega
      · have hltz : ¬ (0 : Int) < (k : Int) := by omega
        have HF : Hid (R = done) := Lib.hid (by rw [HK.out, show k = 0 by omega]; simp [upFrom])
        go_wp2
        go_ret
        exact ⟨_, rfl, by rw [HF.out]; exact Strs.of_own HO.out (by simp), HB1.out.bt HB.out⟩

end Go.Proofs.YtbolkkpgahoeaaaDoor
