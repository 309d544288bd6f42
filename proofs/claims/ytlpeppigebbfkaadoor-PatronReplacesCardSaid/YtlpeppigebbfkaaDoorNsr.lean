/- The walk of the reference's Search (layer 28). -/
import Derived.Test.YtlpeppigebbfkaaDoorNse
import Derived.Test.YtlpeppigebbfkaaDoorRwo
namespace Go.Proofs.YtlpeppigebbfkaaDoor
open Go Go.RowKit

def okTo (W Nm : List ByteArray) (j : Nat) : Bool := !((W.take j).any fun word => !begW word Nm)
theorem okTo_zero (W Nm : List ByteArray) : okTo W Nm 0 = true := by simp [okTo]
theorem okTo_succ (W Nm : List ByteArray) (j : Nat) (x : ByteArray) (h : W[j]? = some x) : okTo W Nm (j + 1) = (okTo W Nm j && begW x Nm) := by
  unfold okTo
  rw [List.take_add_one, h]
  simp
theorem okTo_end (W Nm : List ByteArray) (j : Nat) (h : W.length ≤ j) : okTo W Nm j = !(W.any fun word => !begW word Nm) := by
  unfold okTo
  rw [List.take_of_length_le h]

set_option maxRecDepth 100000 in
set_option maxHeartbeats 2000000 in
theorem rSearch {G : ByteArray → List ByteArray} (hG : ∀ cs, okt cs = true → G (bs cs) = (words cs).map bs) (v : Value) (l : List Pat) (ss : List Nat) (w : World) (hv : Pats w v l) (hl : l.length ≤ 1000) (hn : ∀ p ∈ l, p.name.size ≤ 1000 ∧ ∃ cs, okt cs = true ∧ p.name = bs cs) (hok : okt ss = true) (hs : (bs ss).size ≤ 1000) :
    Calls Tryd.prog 23 #[v, .string (bs ss)] w (RetInts w (searchL G ((words ss).map bs) l)) := by
  obtain ⟨pa, pc, rfl, hpc, hcells⟩ := hv
  obtain ⟨i0, hi, hz0, hz1, hz2⟩ := info_parts infoInt
  have HI := Lib.hid hi; have HZ0 := Lib.hid hz0; have HZ1 := Lib.hid hz1; have HZ2 := Lib.hid hz2
  have hb0 : Below w.heap.size w (w.alloc (.cells #[] 3)) := (Below.refl _ _).alloc (Nat.le_refl _) _
  have hw0 := rWordsO ss (w.alloc (.cells #[] 3)) hok (by omega)
  have hwl : ((words ss).map bs).length ≤ 1000 := by rw [List.length_map]; exact Nat.le_trans (words_len ss hok) hs
  obtain ⟨W, hW⟩ : ∃ W, W = (words ss).map bs := ⟨_, rfl⟩
  rw [← hW] at hw0 hwl ⊢
  obtain ⟨R, hR⟩ : ∃ R, R = searchL G W l := ⟨_, rfl⟩
  rw [← hR]
  obtain ⟨n, hnn⟩ : ∃ n, n = l.length := ⟨_, rfl⟩
  rw [← hnn] at hl hpc ⊢
  have HW0 := Lib.hid hw0
  have HN := Lib.hid hnn
  have HC := Lib.hid hcells
  have HR := Lib.hid hR
  have HS := Lib.hid hn
  have HG := Lib.hid hG
  have HB0 := Lib.hid hb0
  have hown0 := World.ownsRow_made (base := w.heap.size) (e := 3) (size := 1) w #[] 0 (Nat.le_refl _) (Nat.zero_le _) (by simp)
  have HO0 := Lib.hid hown0
  clear hi hz0 hz1 hz2 hw0 hW hR hnn hcells hn hG hok hs hb0 hown0
  go_enter Tryd.func23, Tryd.ntmps23
  go_wp2_with fail
  refine HW0.out.mono ?_
  rintro e w1 ⟨vw, rfl, hvw, b1⟩
  have HVO := Lib.hid hvw
  obtain ⟨pw, cw, rfl, hcw, -⟩ := hvw.strs
  have HB1 : Hid (Below w.heap.size w w1) := Lib.hid (HB0.out.bt b1)
  have HO1 : Hid (w1.ownsRow w.heap.size 3 1 (.slice (some ⟨w.heap.size, 0, none⟩) 0 0) 0 []) := Lib.hid (own_below HO0.out b1)
  clear b1 hvw
  obtain ⟨nw, hnw⟩ : ∃ nw, nw = W.length := ⟨_, rfl⟩
  rw [← hnw] at hwl hcw ⊢
  have HVW : Hid (OwnS w1 (w.alloc (.cells #[] 3)).heap.size (.slice pw nw cw) W) := Lib.hid (by rw [hnw]; exact HVO.out)
  have HNW := Lib.hid hnw
  clear hnw
  have hww1 : w.heap.size ≤ w1.heap.size := HB1.out.size
  go_wp2
  go_loopw [5, 7] (fun vo vk wr => ∃ (k : Nat) (done : List Int), vk = .int .i64 k ∧ k ≤ n ∧ done.length ≤ k ∧ Hid (R = done ++ searchL G W (l.drop k)) ∧ Hid (wr.ownsRow w.heap.size 3 1 vo done.length (done.map (Value.int .i64))) ∧ Hid (Below w.heap.size w wr ∧ OwnS wr (w.alloc (.cells #[] 3)).heap.size (.slice pw nw cw) W)) (fun _ vk _ => n - (intOf vk).toNat)
  case atStart => exact ⟨0, [], rfl, by omega, by simp, Lib.hid (by rw [HR.out]; simp), HO1, Lib.hid ⟨HB1.out, HVW.out⟩⟩
  case round =>
    obtain ⟨k, done, rfl, hk, hdn, HK, HO, HB⟩ := hrel
    by_cases hlt : k < n
    · have hltz : (k : Int) < (n : Int) := by omega
      by_cases hW0 : nw ≤ 0
      · have hnz : ¬ (0 : Int) < (nw : Int) := by omega
        have hRd : Hid (R = done) := Lib.hid (by
          rw [HK.out]
          have : searchL G W (l.drop k) = [] := by
            unfold searchL
            have hWn : W = [] := List.eq_nil_of_length_eq_zero (by rw [← HNW.out]; omega)
            rw [hWn]
            simp [hit]
          rw [this]; simp)
        go_wp2
        go_ret
        exact ⟨_, rfl, by rw [hRd.out]; exact Ints.of_own HO.out rfl, HB.out.1⟩
      have hnz : (0 : Int) < (nw : Int) := by omega
      obtain ⟨p, hp⟩ : ∃ p, l[k]? = some p := ⟨_, List.getElem?_eq_getElem (by have := HN.out; omega)⟩
      rcases HC.out with h0 | ⟨b, o, rfl, hbl, hcl⟩
      · rw [h0] at hp; cases hp
      have hst := HK.out
      rw [search_step G W l k p hp] at hst
      have h6 := (six_of (hcl k p hp)).below HB.out.1 hbl
      obtain ⟨hsz, cs, hcs, hnm⟩ := HS.out p (List.mem_of_getElem? hp)
      have hwp := rWords cs wr hcs (by rw [hnm] at hsz; omega)
      rw [← hnm, ← HG.out cs hcs, ← hnm] at hwp
      have hnl : (G p.name).length ≤ 1000 := by rw [hnm, HG.out cs hcs, List.length_map]; exact Nat.le_trans (words_len cs hcs) (by rw [← hnm]; exact hsz)
      have hh : hit G W p = !(W.any fun word => !begW word (G p.name)) := by
        unfold hit
        cases hWW : W with
        | nil => have := HNW.out; rw [hWW] at this; simp at this; omega
        | cons a r => rfl
      obtain ⟨Nm, hNm⟩ : ∃ Nm, Nm = G p.name := ⟨_, rfl⟩
      rw [← hNm] at hwp hh hnl
      have HWP := Lib.hid hwp
      have HST := Lib.hid hst
      have HH := Lib.hid hh
      obtain ⟨q0, q1, q2, q3, q4, q5⟩ := h6
      have H0 := Lib.hid q0
      have hT : Hid (∃ T, T = hit G W p ∧ True) := Lib.hid ⟨_, rfl, trivial⟩
      obtain ⟨pid, hpid⟩ : ∃ pid, pid = p.id := ⟨_, rfl⟩
      obtain ⟨pnm, hpnm⟩ : ∃ pnm, pnm = p.name := ⟨_, rfl⟩
      obtain ⟨T, hTT⟩ : ∃ T, T = hit G W p := ⟨_, rfl⟩
      rw [← hpid] at q0
      rw [← hpnm] at q5
      have HST2 : Hid (R = done ++ if T = true then pid :: searchL G W (l.drop (k + 1)) else searchL G W (l.drop (k + 1))) := Lib.hid (by rw [hTT, hpid]; exact HST.out)
      have HH2 : Hid (T = !(W.any fun word => !begW word Nm)) := Lib.hid (by rw [hTT]; exact HH.out)
      have HWP2 : Hid (Calls Tryd.prog 27 #[.string pnm] wr (RetStrs wr Nm)) := Lib.hid (by rw [hpnm]; exact HWP.out)
      have HQ0 := Lib.hid (And.intro q0 hbl)
      clear hwp hst hh hNm hnm hsz hcs hcl hp hT HK HWP HST HH H0 q1 q2 q3 q4 hpid hpnm hTT
      go_wp2_with fail
      refine HWP2.out.mono ?_
      rintro e w2 ⟨vn, rfl, hvn, b2⟩
      have HVN := Lib.hid hvn
      obtain ⟨pn, cn, rfl, hcn, -⟩ := hvn
      have HB2 : Hid (Below w.heap.size w w2 ∧ OwnS w2 (w.alloc (.cells #[] 3)).heap.size (.slice pw nw cw) W ∧ Below wr.heap.size wr w2) := Lib.hid ⟨HB.out.1.bt b2, (by obtain ⟨nn, h1, h2⟩ := HB.out.2; exact ⟨nn, h1, own_below h2 b2⟩), b2⟩
      have hbwr : w.heap.size ≤ wr.heap.size := HB.out.1.size
      have hq2 : w2.cell? ⟨b, o + k * 6, none⟩ = some (.int .i64 pid) := (b2.cell (p := ⟨b, o + k * 6, none⟩) (Nat.lt_of_lt_of_le HQ0.out.2 hbwr)).trans HQ0.out.1
      have HO2 : Hid (w2.ownsRow w.heap.size 3 1 _ done.length (done.map (Value.int .i64))) := Lib.hid (own_below HO.out b2)
      clear b2 q0 q5 HWP2
      go_wp2
      go_loop [9, 10] (fun vb vj => ∃ (j : Nat) (ok : Bool), vj = .int .i64 j ∧ vb = .bool ok ∧ j ≤ nw ∧ Hid (ok = okTo W Nm j)) (fun _ vj => nw - (intOf vj).toNat)
      case atStart => exact ⟨0, true, rfl, rfl, by omega, Lib.hid (okTo_zero W Nm).symm⟩
      case round =>
        obtain ⟨j, ok, rfl, rfl, hj, HJ⟩ := hrel
        by_cases hjlt : j < nw
        · have hjz : (j : Int) < (nw : Int) := by omega
          obtain ⟨x, hx⟩ : ∃ x, W[j]? = some x := ⟨_, List.getElem?_eq_getElem (by have := HNW.out; omega)⟩
          have hs1 := okTo_succ W Nm j x hx
          rw [← HJ.out] at hs1
          cases ok with
          | false =>
            have HT : Hid (false = okTo W Nm (j + 1)) := Lib.hid (by rw [hs1]; rfl)
            clear hs1 hx HJ
            go_wp2
            go_round
            case rel => exact ⟨j + 1, false, by go_num, rfl, by omega, HT⟩
            case measure => simp [intOf]; omega
          | true =>
            obtain ⟨pw2, cw2, he2, hcw2, hcl2⟩ := HB2.out.2.1.strs
            cases he2
            rcases hcl2 with h0 | ⟨bw, ow, rfl, hblw, hcl2⟩
            · rw [h0] at hx; cases hx
            have hcx := hcl2 j x hx
            have hbg := rBegins x (.slice pn Nm.length cn) Nm w2 HVN.out (by omega)
            obtain ⟨B, hB⟩ : ∃ B, B = begW x Nm := ⟨_, rfl⟩
            rw [← hB] at hbg hs1
            have HBG := Lib.hid hbg
            have HT : Hid (B = okTo W Nm (j + 1)) := Lib.hid (by rw [hs1]; rfl)
            clear hbg hs1 hx hB hcl2 HJ
            go_wp2_with fail
            refine HBG.out.mono ?_
            rintro e w3 ⟨rfl, rfl⟩
            go_wp2
            go_round
            case rel => exact ⟨j + 1, B, by go_num, rfl, by omega, HT⟩
            case measure => simp [intOf]; omega
        · have hjz : ¬ (j : Int) < (nw : Int) := by omega
          have hT3 : ok = T := by rw [HJ.out, HH2.out]; exact okTo_end W Nm j (by have := HNW.out; omega)
          subst hT3
          clear HJ HH2
          cases ok with
          | false =>
            have HS2 : Hid (R = done ++ searchL G W (l.drop (k + 1))) := Lib.hid (by have := HST2.out; rwa [if_neg (by simp)] at this)
            clear HST2
            go_wp2
            go_roundw
            case rel => exact ⟨k + 1, done, by go_num, by omega, by omega, HS2, HO2, Lib.hid ⟨HB2.out.1, HB2.out.2.1⟩⟩
            case measure => simp [intOf]; omega
          | true =>
            have HS2 : Hid (R = (done ++ [pid]) ++ searchL G W (l.drop (k + 1))) := Lib.hid (by have := HST2.out; rw [if_pos rfl] at this; rw [this]; simp)
            have hsz2 : w.heap.size ≤ w2.heap.size := HB2.out.1.size
            clear HST2
            go_wp2_with (at_builtin; refine wpList_append_own _ rfl _ _ 36 rfl w.heap.size 3 i0 (.int .i64 0) 1 8 Tryd.underlying36 HI.out HZ0.out HZ1.out HZ2.out rfl (by decide) _ _ _ rfl (HO2.out.alloc _) ⟨w2.heap.size, 0, none⟩ 1 1 [.int .i64 pid] rfl rfl ?c1 ?c2 ?c3 ?c4 ?c5 ?_)
            case c2 => simp [Value.oneCell']
            case c3 => unfold maxLen; omega
            case c4 => omega
            case c5 => first | omega | (simp; omega)
            intro v' w4 hown hgrow _
            have HO4 : Hid (w4.ownsRow w.heap.size 3 1 v' (done ++ [pid]).length ((done ++ [pid]).map (Value.int .i64))) := Lib.hid (by simpa using hown)
            have HB4 : Hid (Below w.heap.size w w4) := Lib.hid ((HB2.out.1.alloc hsz2 _).grown hgrow (by simp; omega) (fun q hq => (HO2.out.lt q hq).1))
            have HV4 : Hid (OwnS w4 (w.alloc (.cells #[] 3)).heap.size (.slice pw nw cw) W) := Lib.hid (by
              obtain ⟨nn, h1, h2⟩ := HB2.out.2.1
              exact ⟨nn, h1, own_keep (h2.alloc _) (HO2.out.alloc _) (by decide) hgrow⟩)
            clear hown hgrow
            go_wp2
            go_roundw
            case rel => exact ⟨k + 1, done ++ [pid], by go_num, by omega, by simp; omega, HS2, HO4, Lib.hid ⟨HB4.out, HV4.out⟩⟩
            case measure => simp [intOf]; omega
    · have hltz : ¬ (k : Int) < (n : Int) := by omega
      have HT : Hid (R = done) := Lib.hid (by rw [HK.out, List.drop_eq_nil_of_le (by have := HN.out; omega)]; simp [searchL])
      go_wp2
      go_ret
      exact ⟨_, rfl, by rw [HT.out]; exact Ints.of_own HO.out rfl, HB.out.1⟩
end Go.Proofs.YtlpeppigebbfkaaDoor
