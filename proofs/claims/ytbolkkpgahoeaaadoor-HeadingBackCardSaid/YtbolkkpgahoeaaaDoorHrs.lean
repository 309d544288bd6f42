/- The walks of the reference's Split and Glue (layer 12). -/
import Derived.Test.YtbolkkpgahoeaaaDoorHps
import Derived.Test.YtbolkkpgahoeaaaDoorEnv
namespace Go.Proofs.YtbolkkpgahoeaaaDoor
open Go Go.RowKit

theorem own_below {w w' : World} {base n size : Nat} {e : TypeId} {v : Value} {xs : List Value} (h : w.ownsRow base e size v n xs) (b : Below w.heap.size w w') : w'.ownsRow base e size v n xs := by
  refine ⟨h.1, ?_⟩
  rcases h.2 with h0 | ⟨g, cap, cur, hv, hg, hh, rest⟩
  · exact .inl h0
  · exact .inr ⟨g, cap, cur, hv, hg, (b.block g (Array.getElem?_eq_some_iff.1 hh).1).trans hh, rest⟩

set_option maxRecDepth 100000 in
set_option maxHeartbeats 1000000 in
theorem rSplit (s sep : ByteArray) (w : World) (h1 : 1 ≤ sep.size) (hs2 : sep.size ≤ 1000) (hs : s.size ≤ 4000000000) :
    Calls Tryd.prog 32 #[.string s, .string sep] w (RetStrs w ((split sep.data.toList s.data.toList).map ba)) := by
  obtain ⟨i0, hi, hz0, hz1, hz2⟩ := info_parts infoStr
  have HI := Lib.hid hi; have HZ0 := Lib.hid hz0; have HZ1 := Lib.hid hz1; have HZ2 := Lib.hid hz2
  clear hi hz0 hz1 hz2
  have hne : sep.data.toList ≠ [] := fun e => by have := len_data sep; rw [e] at this; simp at this; omega
  have HNE := Lib.hid hne
  obtain ⟨R, hR⟩ : ∃ R, R = (split sep.data.toList s.data.toList).map ba := ⟨_, rfl⟩
  rw [← hR]
  have HR := Lib.hid hR
  clear hR hne
  go_enter Tryd.func32, Tryd.ntmps32
  go_wp2
  go_loopw [5, 6, 7] (fun v fr i wr => ∃ (k f : Nat) (done : List ByteArray), fr = .int .i64 f ∧ i = .int .i64 k ∧ f ≤ k ∧ k ≤ s.size ∧ done.length ≤ k ∧ Hid (R = done ++ (spl sep.data.toList (s.extract f k).data.toList (s.data.toList.drop k)).map ba) ∧
      Hid (wr.ownsRow w.heap.size 9 1 v done.length (done.map Value.string)) ∧ Hid (Below w.heap.size w wr)) (fun _ _ i _ => s.size - (intOf i).toNat)
  case atStart => exact ⟨0, 0, [], rfl, rfl, Nat.le_refl _, Nat.zero_le _, Nat.le_refl _, Lib.hid (by rw [HR.out, piece_none]; rfl), Lib.hid (World.ownsRow_made w #[] 0 (Nat.le_refl _) (Nat.zero_le _) (by simp)), Lib.hid ((Below.refl _ _).alloc (Nat.le_refl _) _)⟩
  case round =>
    obtain ⟨k, f, done, rfl, rfl, hfk, hk, hdn, HM, HO, HB⟩ := hrel
    have hsz := HB.out.size
    by_cases hle : k + sep.size ≤ s.size
    · have hocc := Lib.occ_of_piece s sep k hle
      cases ho : Lib.occAt s.data.toList sep.data.toList k with
      | true =>
        rw [ho] at hocc
        have hq : ((s.extract k (k + sep.size)).toList == sep.toList) = true := hocc.symm
        have HM2 : Hid (R = (done ++ [s.extract f k]) ++ (spl sep.data.toList (s.extract (k + sep.size) (k + sep.size)).data.toList (s.data.toList.drop (k + sep.size))).map ba) := Lib.hid (by
          rw [HM.out, spl_hit HNE.out ho, piece_none, len_data, List.map_cons]
          have : ba (s.extract f k).data.toList = s.extract f k := ba_ext (ba_data _)
          rw [this]; simp)
        clear hocc ho HM
        go_wp2_with (at_builtin; refine wpList_append_own _ rfl _ _ 25 rfl w.heap.size 9 i0 (.string ⟨#[]⟩) 1 16 Tryd.underlying25 HI.out HZ0.out HZ1.out HZ2.out rfl (by decide) _ _ _ rfl (HO.out.alloc _) ⟨wr.heap.size, 0, none⟩ 1 1 [.string (s.extract f k)] rfl rfl ?c1 ?c2 ?c3 ?c4 ?c5 ?_)
        case c1 => exact cell_one_new _ _ _
        case c2 => simp [Value.oneCell']
        case c3 => unfold maxLen; omega
        case c4 => omega
        case c5 => simp; omega
        intro v' w1 hown' hgrow _
        have HO1 : Hid (w1.ownsRow w.heap.size 9 1 v' (done ++ [s.extract f k]).length ((done ++ [s.extract f k]).map Value.string)) := Lib.hid (by simpa using hown')
        have HB1 : Hid (Below w.heap.size w w1) := Lib.hid ((HB.out.alloc hsz _).grown hgrow (by simp; omega) (fun q hq => (HO.out.lt q hq).1))
        clear hown' hgrow
        go_wp2
        go_roundw
        case rel => exact ⟨k + sep.size, k + sep.size, done ++ [s.extract f k], by go_num, by go_num, Nat.le_refl _, hle, by simp; omega, HM2, HO1, HB1⟩
        case measure => simp [intOf]; omega
      | false =>
        rw [ho] at hocc
        have hq : ((s.extract k (k + sep.size)).toList == sep.toList) = false := hocc.symm
        have hlt : k < s.data.toList.length := by rw [len_data]; omega
        have HM2 : Hid (R = done ++ (spl sep.data.toList (s.extract f (k + 1)).data.toList (s.data.toList.drop (k + 1))).map ba) := Lib.hid (by
          rw [HM.out, spl_miss HNE.out hlt ho, piece_next s hfk hlt])
        clear hocc ho HM hlt
        go_wp2
        go_roundw
        case rel => exact ⟨k + 1, f, done, by first | rfl | go_num, by go_num, by omega, by omega, by omega, HM2, HO, HB⟩
        case measure => simp [intOf]; omega
    · have HM2 : Hid (R = done ++ [s.extract f s.size]) := Lib.hid (by
        rw [HM.out, spl_short HNE.out _ _ (by rw [List.length_drop, len_data, len_data]; omega)]
        congr 1
        rw [List.map_cons, List.map_nil]
        congr 1
        refine ba_ext ?_
        rw [ba_data, piece_end, piece_data]
        have h9 : (s.data.toList.drop f).drop (k - f) = s.data.toList.drop k := by rw [List.drop_drop]; congr 1; omega
        rw [← h9, List.take_append_drop])
      clear HM
      have hfs : f ≤ s.size := by omega
      go_wp2_with (at_builtin; refine wpList_append_own _ rfl _ _ 25 rfl w.heap.size 9 i0 (.string ⟨#[]⟩) 1 16 Tryd.underlying25 HI.out HZ0.out HZ1.out HZ2.out rfl (by decide) _ _ _ rfl (HO.out.alloc _) ⟨wr.heap.size, 0, none⟩ 1 1 [.string (s.extract f s.size)] rfl rfl ?c1 ?c2 ?c3 ?c4 ?c5 ?_)
      case c1 => exact cell_one_new _ _ _
      case c2 => simp [Value.oneCell']
      case c3 => unfold maxLen; omega
      case c4 => omega
      case c5 => simp; omega
      intro v' w1 hown' hgrow _
      go_wp2
      go_ret
      refine ⟨_, rfl, ?_, (HB.out.alloc hsz _).grown hgrow (by simp; omega) (fun q hq => (HO.out.lt q hq).1)⟩
      rw [HM2.out]
      exact Strs.of_own (n := done.length + 1) (by simpa using hown') (by simp)

set_option maxRecDepth 100000 in
set_option maxHeartbeats 1000000 in
theorem rGlue (xs : List ByteArray) (sep : ByteArray) (v : Value) (w : World) (hv : Strs w v xs) (hn : xs.length ≤ 4000000000) (hs : ∀ i, (interB sep (xs.take i)).size ≤ 4000000000) :
    Calls Tryd.prog 36 #[v, .string sep] w fun e w' => e = .returned (.string (interB sep xs)) ∧ w' = w := by
  obtain ⟨a, cap, rfl, hcap, hx⟩ := hv
  obtain ⟨A, hA⟩ : ∃ A, A = interB sep xs := ⟨_, rfl⟩
  rw [← hA]
  have HA := Lib.hid hA
  obtain ⟨n, hn2⟩ : ∃ n, n = xs.length := ⟨_, rfl⟩
  rw [← hn2] at hcap hn ⊢
  have HN := Lib.hid hn2
  have HX := Lib.hid hx
  have HS := Lib.hid hs
  clear hA hn2 hx hs
  go_enter Tryd.func36, Tryd.ntmps36
  go_wp2
  go_loop [5, 6] (fun o i => ∃ (k : Nat), i = .int .i64 k ∧ k ≤ n ∧ o = .string (interB sep (xs.take k))) (fun _ i => n - (intOf i).toNat)
  case atStart => exact ⟨0, rfl, by omega, by rw [List.take_zero, interB_nil]⟩
  case round =>
    obtain ⟨k, rfl, hk, rfl⟩ := hrel
    by_cases hlt : k < n
    · obtain ⟨x, hx⟩ : ∃ x, xs[k]? = some x := ⟨_, List.getElem?_eq_getElem (by have := HN.out; omega)⟩
      rcases HX.out with h0 | ⟨b, o, rfl, hblt, hcells⟩
      · rw [h0] at hx; cases hx
      have hcell := hcells k x hx
      have hgt := interB_next sep xs k x hx
      have hle := HS.out (k + 1)
      clear hcells hx
      by_cases h0 : k = 0
      · subst h0
        rw [if_pos rfl] at hgt
        have HG := Lib.hid hgt
        rw [hgt] at hle
        have hc0 : w.cell? ⟨b, o, none⟩ = some (.string x) := by simpa using hcell
        have he : interB sep (xs.take 0) = ⟨#[]⟩ := by rw [List.take_zero, interB_nil]
        rw [he]
        clear hgt hcell he
        go_wp2
        go_round
        case rel => exact ⟨1, rfl, by omega, by rw [HG.out]; congr 1⟩
        case measure => simp [intOf]; omega
      · rw [if_neg h0] at hgt
        have HG := Lib.hid hgt
        rw [hgt] at hle
        obtain ⟨P, hP⟩ : ∃ P, P = interB sep (xs.take k) := ⟨_, rfl⟩
        rw [← hP] at hle HG ⊢
        have hz : P.size + sep.size + x.size ≤ 4000000000 := by
          rw [ByteArray.size_append, ByteArray.size_append] at hle
          exact hle
        have hk0 : 0 < k := by omega
        clear hgt hle hP
        go_wp2
        go_round
        case rel => exact ⟨k + 1, by go_num, by omega, by rw [HG.out]⟩
        case measure => simp [intOf]; omega
    · go_wp2
      go_ret
      refine ⟨?_, rfl⟩
      show Ending.returned (.string (interB sep (xs.take k))) = _
      rw [HA.out, List.take_of_length_le (by have := HN.out; omega)]
end Go.Proofs.YtbolkkpgahoeaaaDoor
