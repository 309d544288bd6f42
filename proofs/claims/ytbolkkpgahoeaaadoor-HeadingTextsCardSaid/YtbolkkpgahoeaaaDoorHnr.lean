/- The walk of the reference's Name (layer 12). -/
import Derived.Test.YtbolkkpgahoeaaaDoorHnm
namespace Go.Proofs.YtbolkkpgahoeaaaDoor
open Go Go.RowKit

set_option maxRecDepth 100000 in
set_option maxHeartbeats 8000000 in
theorem rName {N : ByteArray → Option (ByteArray × ByteArray × ByteArray)} (hN : NameDec N) (s : ByteArray) (w : World) (hs : s.size ≤ 100000) :
    Calls Tryd.prog 26 #[.string s] w fun e w' => e = .returned (.tuple #[.agg #[.string (nameR N s).1, .string (nameR N s).2.1, .string (nameR N s).2.2.1], .int .i64 (nameR N s).2.2.2]) ∧ Below w.heap.size w w' := by
  obtain ⟨W0, hW0⟩ : ∃ W0, W0 = w.alloc (.cells #[.string ⟨#[]⟩, .string ⟨#[]⟩, .string ⟨#[]⟩] 34) := ⟨_, rfl⟩
  have hb0 : Below w.heap.size w W0 := by rw [hW0]; exact (Below.refl _ _).alloc (Nat.le_refl _) _
  have hs0 : w.heap.size < W0.heap.size := by rw [hW0, World.size_alloc]; exact Nat.lt_succ_self _
  have hg0 : W0.heap[w.heap.size]? = some (.cells #[.string ⟨#[]⟩, .string ⟨#[]⟩, .string ⟨#[]⟩] 34) := by rw [hW0]; exact heap_alloc_new w _
  have HG : Hid (∀ W, Below W0.heap.size W0 W → W.heap[w.heap.size]? = some (.cells #[.string ⟨#[]⟩, .string ⟨#[]⟩, .string ⟨#[]⟩] 34)) := Lib.hid (fun W hW => (hW.block _ hs0).trans hg0)
  have HW0 := Lib.hid hW0
  have HB0 := Lib.hid hb0
  obtain ⟨R, hR⟩ : ∃ R, R = nameR N s := ⟨_, rfl⟩
  rw [← hR]
  clear hW0 hb0 hg0
  cases ht : isText s.data.toList with
  | false =>
    have HF : Hid (R = (⟨#[]⟩, ⟨#[]⟩, ⟨#[]⟩, 3)) := Lib.hid (by rw [hR]; exact nameR_none (hN.bad s ht))
    have HV := Lib.hid (rValid_false s W0 ht (by omega))
    clear hR ht hN
    go_enter Tryd.func26, Tryd.ntmps26
    go_wp2_with fail
    rw [← HW0.out]
    refine HV.out.mono ?_
    rintro e w2 ⟨rfl, d2⟩
    have HB2 := Lib.hid (d2.below W0.heap.size)
    clear d2
    obtain ⟨⟨c0, c1, c2⟩, cf0, cf1, cf2⟩ := block_cells (HG.out w2 HB2.out)
    go_wp2
    (try simp only [Exit.inBlock, Exit.then])
    refine bodyPost_ret (results_name rfl _ _ w.heap.size ⟨#[]⟩ ⟨#[]⟩ ⟨#[]⟩ rfl (three_put (block_some (HG.out w2 HB2.out)))) rfl ⟨by rw [HF.out]; rfl, below_put3 (HB0.out.bt HB2.out) (Nat.le_refl _)⟩
  | true =>
    obtain ⟨cs, hok, rfl⟩ := text_bs s ht
    have hNs := hN.text cs hok
    have hsp := fun W => rSplit (bs cs) (bs comma) W (by decide) (by decide) (by omega)
    have HV := Lib.hid (rValid_true cs W0 hok (by omega))
    simp only [map_ba_enc comma_ne comma_ascii cs hok] at hsp
    obtain ⟨hl1, hl2⟩ := split_text_size comma_ne comma_ascii cs hok
    have hpo := split_okt comma_ne cs hok
    have HBD : Hid (∀ p ∈ split comma cs, pieceOk p = false → R = (⟨#[]⟩, ⟨#[]⟩, ⟨#[]⟩, 3)) := Lib.hid (fun p hp h => by rw [hR]; exact nameR_none (by rw [hNs, nameOf_bad hp h]; rfl))
    have HMANY : Hid (3 < (split comma cs).length → R = (⟨#[]⟩, ⟨#[]⟩, ⟨#[]⟩, 3)) := Lib.hid (fun h => by rw [hR]; exact nameR_none (by rw [hNs, nameOf_many h]; rfl))
    have HOKR : Hid (∀ q, nameL (split comma cs) = some q → R = (bs q.1, bs q.2.1, bs q.2.2, 0)) := Lib.hid (fun q h => by rw [hR]; exact nameR_some (by rw [hNs]; unfold nameOf; rw [h]; rfl))
    have HNONE : Hid (nameL (split comma cs) = none → R = (⟨#[]⟩, ⟨#[]⟩, ⟨#[]⟩, 3)) := Lib.hid (fun h => by rw [hR]; exact nameR_none (by rw [hNs]; unfold nameOf; rw [h]; rfl))
    have hpne : split comma cs ≠ [] := spl_ne comma_ne [] cs
    obtain ⟨ps, hps⟩ : ∃ ps, ps = split comma cs := ⟨_, rfl⟩
    simp only [← hps] at hsp
    rw [← hps] at hl1 hl2 hpo HBD HMANY HOKR HNONE hpne
    obtain ⟨S, hS⟩ : ∃ S, S = bs cs := ⟨_, rfl⟩
    simp only [← hS] at hsp
    rw [← hS] at HV hl1 hl2 hs ⊢
    have hsp2 : ∀ W, Calls Tryd.prog 32 #[.string S, .string ⟨#[44, 32]⟩] W (RetStrs W (ps.map bs)) := hsp
    have HSP := Lib.hid hsp2
    have HL2 := Lib.hid hl2
    have HPO := Lib.hid hpo
    have HPN := Lib.hid hpne
    obtain ⟨n, hn⟩ : ∃ n, n = ps.length := ⟨_, rfl⟩
    have hn1 : 0 < n := by rw [hn]; exact List.length_pos_iff.2 hpne
    rw [← hn] at HMANY
    have HN := Lib.hid hn
    clear hsp hsp2 hl1 hl2 hpo hps hS hok hn hR ht hNs hpne hN
    by_cases h3 : 3 < n
    · have HF := Lib.hid (HMANY.out h3)
      have h3z : (3 : Int) < (n : Int) := by omega
      clear h3 HMANY
      go_enter Tryd.func26, Tryd.ntmps26
      go_wp2_with fail
      rw [← HW0.out]
      refine HV.out.mono ?_
      rintro e w1 ⟨rfl, d1⟩
      have HB1 := Lib.hid (d1.below W0.heap.size)
      clear d1
      go_wp2_with fail
      refine (HSP.out w1).mono ?_
      rintro e w2 ⟨v2, rfl, s2, b2⟩
      have HB2 := Lib.hid (HB1.out.bt b2)
      obtain ⟨pa, pc, rfl, hpc, hcells⟩ := s2
      rw [List.length_map, ← HN.out] at hpc ⊢
      have HC := Lib.hid (show Hid _ from Lib.hid hcells)
      clear b2 hcells
      obtain ⟨⟨c0, c1, c2⟩, cf0, cf1, cf2⟩ := block_cells (HG.out w2 HB2.out)
      go_wp2
      (try simp only [Exit.inBlock, Exit.then])
      refine bodyPost_ret (results_name rfl _ _ w.heap.size ⟨#[]⟩ ⟨#[]⟩ ⟨#[]⟩ rfl (three_put (block_some (HG.out w2 HB2.out)))) rfl ⟨by rw [HF.out]; rfl, below_put3 (HB0.out.bt HB2.out) (Nat.le_refl _)⟩
    · have h3z : (n : Int) ≤ 3 := by omega
      clear HMANY
      go_enter Tryd.func26, Tryd.ntmps26
      go_wp2_with fail
      rw [← HW0.out]
      refine HV.out.mono ?_
      rintro e w1 ⟨rfl, d1⟩
      have HB1 := Lib.hid (d1.below W0.heap.size)
      clear d1
      go_wp2_with fail
      refine (HSP.out w1).mono ?_
      rintro e w2 ⟨v2, rfl, s2, b2⟩
      have HB2 := Lib.hid (HB1.out.bt b2)
      obtain ⟨pa, pc, rfl, hpc, hcells⟩ := s2
      rw [List.length_map, ← HN.out] at hpc ⊢
      have HC := Lib.hid (show Hid _ from Lib.hid hcells)
      clear b2 hcells
      go_wp2
      go_loopw [5] (fun vk wr => ∃ k : Nat, vk = .int .i64 k ∧ k ≤ n ∧ Hid ((ps.take k).all pieceOk = true) ∧ Hid (Below w2.heap.size w2 wr)) (fun vk _ => n - (intOf vk).toNat)
      case atStart => exact ⟨0, rfl, Nat.zero_le _, Lib.hid rfl, Lib.hid (Below.refl _ _)⟩
      case round =>
        obtain ⟨k, rfl, hk, HK, HB⟩ := hrel
        have HBr : Hid (Below W0.heap.size W0 wr) := Lib.hid (HB2.out.bt HB.out)
        have HCW : Hid (ps = [] ∨ ∃ b o, pa = some ⟨b, o, none⟩ ∧ b < w2.heap.size ∧ ∀ j x, (ps.map bs)[j]? = some x → w2.cell? ⟨b, o + j, none⟩ = some (.string x)) := Lib.hid (by
          rcases HC.out.out with h | h
          · exact .inl (by simpa using h)
          · exact .inr h)
        by_cases hlt : k < n
        · have hltz : (k : Int) < (n : Int) := by omega
          obtain ⟨p, hp⟩ : ∃ p, ps[k]? = some p := ⟨_, List.getElem?_eq_getElem (by have := HN.out; omega)⟩
          have hp2 : (ps.map bs)[k]? = some (bs p) := by rw [List.getElem?_map, hp]; rfl
          rcases HCW.out with h0 | ⟨b, o, rfl, hbl, hcl⟩
          · rw [h0] at hp; cases hp
          have hcell : wr.cell? ⟨b, o + k, none⟩ = some (.string (bs p)) := (HB.out.cell (p := ⟨b, o + k, none⟩) hbl).trans (hcl k _ hp2)
          have hpm := List.mem_of_getElem? hp
          have hpok := HPO.out p hpm
          have hpsz : (bs p).size ≤ 100000 := by have := HL2.out p hpm; omega
          have hBD := HBD.out p hpm
          have hNX : pieceOk p = true → (ps.take (k + 1)).all pieceOk = true := fun h => by
            rw [List.take_add_one, hp, List.all_append, HK.out]; simp [h]
          have hq := bytes_eq (clean_okt p hpok) hpok
          have HCN := Lib.hid (fun W => rClean p W hpok (by omega))
          have hco := fun W => rSplit (bs p) ⟨#[44]⟩ W (by decide) (by decide) (by omega)
          have hsl := split_single 44 (enc p)
          have h4 := contains_enc (c := 44) (by decide) p hpok
          rw [show (UInt8.ofNat 44) = 44 from rfl] at h4
          rw [h4] at hsl
          simp only [bs_data] at hco
          cases he : (bs p).toList.isEmpty with
          | true =>
            have HF := Lib.hid (hBD (by rw [bs_empty he]; rfl))
            clear hBD hNX hq HCN hco hpm hp hp2 hcl hpok HK
            obtain ⟨⟨c0, c1, c2⟩, cf0, cf1, cf2⟩ := block_cells (HG.out wr HBr.out)
            clear hpsz hsl h4
            have HDR : Hid (∀ q, Below W0.heap.size W0 (wr.drewN q)) := Lib.hid (fun q => HBr.out.bt (Dr.below ⟨q, rfl⟩ _))
            go_wp2_with fail
            go_quiet (fail)
            go_wp2
            (try simp only [Exit.inBlock, Exit.then])
            exact bodyPost_ret (results_name rfl _ _ w.heap.size ⟨#[]⟩ ⟨#[]⟩ ⟨#[]⟩ rfl (three_put (block_some (HG.out _ (HDR.out _))))) rfl ⟨by rw [HF.out]; rfl, below_put3 (HB0.out.bt (HDR.out _)) (Nat.le_refl _)⟩
          | false =>
            have hne := bs_full he
            rw [pieceOk_eq hne] at hBD hNX
            obtain ⟨c1, h1⟩ : ∃ c1, c1 = decide (clean p = p) := ⟨_, rfl⟩
            obtain ⟨c2, h2⟩ : ∃ c2, c2 = p.contains 44 := ⟨_, rfl⟩
            obtain ⟨C, hC⟩ : ∃ C, C = bs (clean p) := ⟨_, rfl⟩
            rw [← hC] at hq
            rw [← h1] at hq hBD hNX
            rw [← h2] at hBD hNX
            rw [← h2] at hsl
            have HCN2 : Hid (∀ W, Calls Tryd.prog 33 #[.string (bs p)] W fun e w' => e = .returned (.string C) ∧ Dr W w') := Lib.hid (by rw [hC]; exact HCN.out)
            obtain ⟨L, hL⟩ : ∃ L, L = (split [44] (enc p)).map ba := ⟨_, rfl⟩
            simp only [← hL] at hco
            obtain ⟨ln, hln⟩ : ∃ ln, ln = L.length := ⟨_, rfl⟩
            have hsl2 : decide (ln ≤ 1) = !c2 := by rw [hln, hL, List.length_map]; exact hsl
            have HLN := Lib.hid hln
            obtain ⟨Pb, hPb⟩ : ∃ Pb, Pb = bs p := ⟨_, rfl⟩
            rw [← hPb] at HCN2 hcell he hpsz hq
            simp only [← hPb] at hco
            have HCO := Lib.hid hco
            have HNX := Lib.hid hNX
            have HBDc := Lib.hid hBD
            clear hBD hNX HCN hco hpm hp hp2 hcl hpok HK h1 h2 hC hPb hne hsl h4 hL hln
            cases c1 with
            | false =>
              have HF := Lib.hid (HBDc.out rfl)
              clear HNX HBDc HCO hsl2
              have HDR : Hid (∀ q, Below W0.heap.size W0 (wr.drewN q)) := Lib.hid (fun q => HBr.out.bt (Dr.below ⟨q, rfl⟩ _))
              obtain ⟨⟨c0, c1, c2⟩, cf0, cf1, cf2⟩ := block_cells (HG.out wr HBr.out)
              go_wp2_with fail
              go_quiet (first | (go_at_call 33; exact Calls.quiet_of (HCN2.out _)))
              go_wp2
              (try simp only [Exit.inBlock, Exit.then])
              exact bodyPost_ret (results_name rfl _ _ w.heap.size ⟨#[]⟩ ⟨#[]⟩ ⟨#[]⟩ rfl (three_put (block_some (HG.out _ (HDR.out _))))) rfl ⟨by rw [HF.out]; rfl, below_put3 (HB0.out.bt (HDR.out _)) (Nat.le_refl _)⟩
            | true =>
              have HSL := Lib.hid hsl2
              clear hsl2
              go_wp2_with fail
              go_region_with (first
                | (go_at_call 33
                   refine (HCN2.out _).mono ?_
                   rintro e w3 ⟨rfl, d3⟩
                   have HD3 := Lib.hid d3
                   have HB3 : Hid (Below W0.heap.size W0 w3) := Lib.hid (HBr.out.drew.bt (d3.below _))
                   have HBk : Hid (Below w2.heap.size w2 w3) := Lib.hid (HB.out.drew.bt (d3.below _))
                   have hcell3 : w3.cell? ⟨b, o + k, none⟩ = some (.string Pb) := ((d3.below wr.heap.size).cell (p := ⟨b, o + k, none⟩) (by show b < wr.heap.size; have := HB.out.size; omega)).trans hcell
                   clear d3)
                | (go_at_call 32
                   refine (HCO.out _).mono ?_
                   rintro e w4 ⟨v4, rfl, s4, b4⟩
                   have HB4 : Hid (Below W0.heap.size W0 w4) := Lib.hid (HB3.out.bt b4)
                   have HBk4 : Hid (Below w2.heap.size w2 w4) := Lib.hid (HBk.out.bt b4)
                   obtain ⟨sa, sc, rfl, -, -⟩ := s4
                   rw [← HLN.out]
                   clear b4))
              all_goals
                by_cases hl1 : ln ≤ 1
                · have hlz : (ln : Int) ≤ 1 := by omega
                  have hc2 : c2 = false := by
                    have h9 := HSL.out
                    rw [decide_eq_true hl1] at h9
                    cases hcc : c2 with
                    | false => rfl
                    | true => rw [hcc] at h9; cases h9
                  have HK2 := Lib.hid (HNX.out (by rw [hc2]; rfl))
                  clear HNX HBDc HSL hc2 hl1
                  go_wp2
                  go_roundw
                  case rel => exact ⟨k + 1, by go_num, by omega, HK2, HBk4⟩
                  case measure => simp [intOf]; omega
                · have hlz : (1 : Int) < (ln : Int) := by omega
                  have hc2 : c2 = true := by
                    have h9 := HSL.out
                    rw [decide_eq_false hl1] at h9
                    cases hcc : c2 with
                    | true => rfl
                    | false => rw [hcc] at h9; cases h9
                  have HF := Lib.hid (HBDc.out (by rw [hc2]; rfl))
                  clear HNX HBDc HSL hc2 hl1
                  obtain ⟨⟨c0, c1, c2⟩, cf0, cf1, cf2⟩ := block_cells (HG.out w4 HB4.out)
                  go_wp2
                  (try simp only [Exit.inBlock, Exit.then])
                  exact bodyPost_ret (results_name rfl _ _ w.heap.size ⟨#[]⟩ ⟨#[]⟩ ⟨#[]⟩ rfl (three_put (block_some (HG.out w4 HB4.out)))) rfl ⟨by rw [HF.out]; rfl, below_put3 (HB0.out.bt HB4.out) (Nat.le_refl _)⟩
        · have hltz : ¬ (k : Int) < (n : Int) := by omega
          have hAll : ps.all pieceOk = true := by
            have := HK.out
            rwa [List.take_of_length_le (by have := HN.out; omega)] at this

          have h3n : ps.length ≤ 3 := by have := HN.out; omega
          rcases HCW.out with h0 | ⟨b, o, rfl, hbl, hcl⟩
          · exact absurd h0 HPN.out
          have hcases := list_le3 HPN.out h3n
          clear h3n hltz hk HK HBD h3z hn1
          rcases hcases with ⟨p0, rfl⟩ | ⟨p0, p1, rfl⟩ | ⟨p0, p1, p2, rfl⟩
          · have HF : Hid (R = (bs p0, ⟨#[]⟩, ⟨#[]⟩, 0)) := Lib.hid (HOKR.out (p0, [], []) (by unfold nameL; rw [if_pos hAll]))
            obtain rfl : n = 1 := HN.out
            have hkz : (1 : Int) ≤ (k : Int) := by omega
            clear hlt
            have e0 : wr.cell? ⟨b, o, none⟩ = some (.string (bs p0)) := (HB.out.cell (p := ⟨b, o + 0, none⟩) hbl).trans (hcl 0 _ rfl)
            have hbw : b < wr.heap.size := Nat.lt_of_lt_of_le hbl HB.out.size
            have hgw : w.heap.size < wr.heap.size := Nat.lt_of_lt_of_le hs0 HBr.out.size
            obtain ⟨⟨c0, c1, c2⟩, cf0, cf1, cf2⟩ := block_cells (HG.out wr HBr.out)
            clear hAll hcl HOKR HNONE
            go_wp2
            (try simp only [Exit.inBlock, Exit.then])
            have hbp := below_put3 (u := .string (bs p0)) (v := .string ⟨#[]⟩) (z := .string ⟨#[]⟩) (HB0.out.bt HBr.out) (Nat.le_refl _)
            exact bodyPost_ret (results_name rfl _ _ w.heap.size (bs p0) ⟨#[]⟩ ⟨#[]⟩ rfl ((three_put (block_some (HG.out wr HBr.out))).alloc _)) rfl ⟨by rw [HF.out]; rfl, hbp.alloc hbp.size _⟩
          · have HOK := Lib.hid (HOKR.out)
            obtain rfl : n = 2 := HN.out
            have hkz : (2 : Int) ≤ (k : Int) := by omega
            clear hlt
            have e0 : wr.cell? ⟨b, o, none⟩ = some (.string (bs p0)) := (HB.out.cell (p := ⟨b, o + 0, none⟩) hbl).trans (hcl 0 _ rfl)
            have e1 : wr.cell? ⟨b, o + 1, none⟩ = some (.string (bs p1)) := (HB.out.cell (p := ⟨b, o + 1, none⟩) hbl).trans (hcl 1 _ rfl)
            have hbw : b < wr.heap.size := Nat.lt_of_lt_of_le hbl HB.out.size
            have hgw : w.heap.size < wr.heap.size := Nat.lt_of_lt_of_le hs0 HBr.out.size
            have hdt := fun W (_ : Below W0.heap.size W0 W) => rDates (bs p1) W (by have := HL2.out p1 (by simp); omega)
            simp only [bs_data] at hdt
            have hx := HOKR.out (if datesB (enc p1) = true then (p0, [], p1) else (p0, p1, [])) (by unfold nameL; rw [if_pos hAll]; show (if datesB (enc p1) = true then some (p0, [], p1) else some (p0, p1, [])) = _; split <;> rfl)
            obtain ⟨q, hq⟩ : ∃ q, q = datesB (enc p1) := ⟨_, rfl⟩
            simp only [← hq] at hdt
            rw [← hq] at hx
            have HDT := Lib.hid hdt
            clear hAll hcl HOKR HNONE HOK hdt hq
            cases q with
            | true =>
              have HF : Hid (R = (bs p0, ⟨#[]⟩, bs p1, 0)) := Lib.hid hx
              clear hx
              go_wp2_with fail
              obtain ⟨W1, hW1⟩ : ∃ W1, W1 = wr.alloc (.cells #[.string (bs p0), .string ⟨#[]⟩, .string ⟨#[]⟩] 34) := ⟨_, rfl⟩
              rw [← hW1]
              have hb7 : W1.heap[wr.heap.size]? = some (.cells #[.string (bs p0), .string ⟨#[]⟩, .string ⟨#[]⟩] 34) := by rw [hW1]; exact heap_alloc_new wr _
              have hbW : Below wr.heap.size wr W1 := by rw [hW1]; exact (Below.refl _ _).alloc (Nat.le_refl _) _
              have hsW : wr.heap.size < W1.heap.size := by rw [hW1, World.size_alloc]; exact Nat.lt_succ_self _
              refine (HDT.out W1 (HBr.out.bt hbW)).mono ?_
              rintro e w5 ⟨rfl, rfl⟩
              have b5 := Below.refl w5.heap.size w5
              have hB5 : Hid (Below W0.heap.size W0 w5) := Lib.hid ((HBr.out.bt hbW).bt b5)
              have hk7 : w5.heap[wr.heap.size]? = some (.cells #[.string (bs p0), .string ⟨#[]⟩, .string ⟨#[]⟩] 34) := (b5.block _ hsW).trans hb7
              have hr5 : Below wr.heap.size wr w5 := hbW.bt b5
              obtain ⟨⟨d0, d1, d2⟩, df0, df1, df2⟩ := block_cells hk7
              obtain ⟨⟨c0, c1, c2⟩, cf0, cf1, cf2⟩ := block_cells (HG.out w5 hB5.out)
              have x0 := (hr5.cell (p := ⟨b, o, none⟩) hbw).trans e0
              have x1 := (hr5.cell (p := ⟨b, o + 1, none⟩) hbw).trans e1
              obtain ⟨g7, hg7⟩ : ∃ g7, g7 = wr.heap.size := ⟨_, rfl⟩
              rw [← hg7] at d0 d1 d2 df0 df1 df2 hgw ⊢
              have hne : ¬ w.heap.size = g7 := by omega
              have hne2 : ¬ g7 = w.heap.size := by omega
              clear hW1 hb7 hbW hsW b5 hk7 hr5 hg7
              go_wp2
              (try simp only [Exit.inBlock, Exit.then])
              have hsc : ∀ j, j < 3 → ((w5.setCell ⟨g7, 2, none⟩ (.string (bs p1))).cell? ⟨w.heap.size, j, none⟩).isSome = true := fun j hj => by rw [cell_away (.inl hne2)]; exact block_some (HG.out w5 hB5.out) j hj
              exact bodyPost_ret (results_name rfl _ _ w.heap.size (bs p0) (⟨#[]⟩) (bs p1) rfl (three_put hsc)) rfl ⟨by rw [HF.out]; rfl, below_put3 ((HB0.out.bt hB5.out).setCell (p := ⟨g7, 2, none⟩) (Nat.le_of_lt hgw) _) (Nat.le_refl _)⟩
            | false =>
              have HF : Hid (R = (bs p0, bs p1, ⟨#[]⟩, 0)) := Lib.hid hx
              clear hx
              go_wp2_with fail
              obtain ⟨W1, hW1⟩ : ∃ W1, W1 = wr.alloc (.cells #[.string (bs p0), .string ⟨#[]⟩, .string ⟨#[]⟩] 34) := ⟨_, rfl⟩
              rw [← hW1]
              have hb7 : W1.heap[wr.heap.size]? = some (.cells #[.string (bs p0), .string ⟨#[]⟩, .string ⟨#[]⟩] 34) := by rw [hW1]; exact heap_alloc_new wr _
              have hbW : Below wr.heap.size wr W1 := by rw [hW1]; exact (Below.refl _ _).alloc (Nat.le_refl _) _
              have hsW : wr.heap.size < W1.heap.size := by rw [hW1, World.size_alloc]; exact Nat.lt_succ_self _
              refine (HDT.out W1 (HBr.out.bt hbW)).mono ?_
              rintro e w5 ⟨rfl, rfl⟩
              have b5 := Below.refl w5.heap.size w5
              have hB5 : Hid (Below W0.heap.size W0 w5) := Lib.hid ((HBr.out.bt hbW).bt b5)
              have hk7 : w5.heap[wr.heap.size]? = some (.cells #[.string (bs p0), .string ⟨#[]⟩, .string ⟨#[]⟩] 34) := (b5.block _ hsW).trans hb7
              have hr5 : Below wr.heap.size wr w5 := hbW.bt b5
              obtain ⟨⟨d0, d1, d2⟩, df0, df1, df2⟩ := block_cells hk7
              obtain ⟨⟨c0, c1, c2⟩, cf0, cf1, cf2⟩ := block_cells (HG.out w5 hB5.out)
              have x0 := (hr5.cell (p := ⟨b, o, none⟩) hbw).trans e0
              have x1 := (hr5.cell (p := ⟨b, o + 1, none⟩) hbw).trans e1
              obtain ⟨g7, hg7⟩ : ∃ g7, g7 = wr.heap.size := ⟨_, rfl⟩
              rw [← hg7] at d0 d1 d2 df0 df1 df2 hgw ⊢
              have hne : ¬ w.heap.size = g7 := by omega
              have hne2 : ¬ g7 = w.heap.size := by omega
              clear hW1 hb7 hbW hsW b5 hk7 hr5 hg7
              go_wp2
              (try simp only [Exit.inBlock, Exit.then])
              have hsc : ∀ j, j < 3 → ((w5.setCell ⟨g7, 1, none⟩ (.string (bs p1))).cell? ⟨w.heap.size, j, none⟩).isSome = true := fun j hj => by rw [cell_away (.inl hne2)]; exact block_some (HG.out w5 hB5.out) j hj
              exact bodyPost_ret (results_name rfl _ _ w.heap.size (bs p0) (bs p1) (⟨#[]⟩) rfl (three_put hsc)) rfl ⟨by rw [HF.out]; rfl, below_put3 ((HB0.out.bt hB5.out).setCell (p := ⟨g7, 1, none⟩) (Nat.le_of_lt hgw) _) (Nat.le_refl _)⟩
          · have HOK := Lib.hid (HOKR.out)
            obtain rfl : n = 3 := HN.out
            have hkz : (3 : Int) ≤ (k : Int) := by omega
            clear hlt
            have e0 : wr.cell? ⟨b, o, none⟩ = some (.string (bs p0)) := (HB.out.cell (p := ⟨b, o + 0, none⟩) hbl).trans (hcl 0 _ rfl)
            have e1 : wr.cell? ⟨b, o + 1, none⟩ = some (.string (bs p1)) := (HB.out.cell (p := ⟨b, o + 1, none⟩) hbl).trans (hcl 1 _ rfl)
            have e2 : wr.cell? ⟨b, o + 2, none⟩ = some (.string (bs p2)) := (HB.out.cell (p := ⟨b, o + 2, none⟩) hbl).trans (hcl 2 _ rfl)
            have hbw : b < wr.heap.size := Nat.lt_of_lt_of_le hbl HB.out.size
            have hgw : w.heap.size < wr.heap.size := Nat.lt_of_lt_of_le hs0 HBr.out.size
            have hdt := fun W (_ : Below W0.heap.size W0 W) => rDates (bs p2) W (by have := HL2.out p2 (by simp); omega)
            simp only [bs_data] at hdt
            have hx : R = if datesB (enc p2) = true then (bs p0, bs p1, bs p2, 0) else (⟨#[]⟩, ⟨#[]⟩, ⟨#[]⟩, 3) := by
              by_cases hd : datesB (enc p2) = true
              · rw [if_pos hd]; exact HOKR.out (p0, p1, p2) (by unfold nameL; rw [if_pos hAll]; simp only [hd, if_true])
              · rw [if_neg hd]; exact HNONE.out (by unfold nameL; rw [if_pos hAll]; simp only [hd, if_false, Bool.false_eq_true])
            obtain ⟨q, hq⟩ : ∃ q, q = datesB (enc p2) := ⟨_, rfl⟩
            simp only [← hq] at hdt
            rw [← hq] at hx
            have HDT := Lib.hid hdt
            clear hAll hcl HOKR HNONE HOK hdt hq
            cases q with
            | false =>
              have HF : Hid (R = (⟨#[]⟩, ⟨#[]⟩, ⟨#[]⟩, 3)) := Lib.hid hx
              clear hx
              go_wp2_with fail
              obtain ⟨W1, hW1⟩ : ∃ W1, W1 = wr.alloc (.cells #[.string (bs p0), .string ⟨#[]⟩, .string ⟨#[]⟩] 34) := ⟨_, rfl⟩
              rw [← hW1]
              have hb7 : W1.heap[wr.heap.size]? = some (.cells #[.string (bs p0), .string ⟨#[]⟩, .string ⟨#[]⟩] 34) := by rw [hW1]; exact heap_alloc_new wr _
              have hbW : Below wr.heap.size wr W1 := by rw [hW1]; exact (Below.refl _ _).alloc (Nat.le_refl _) _
              have hsW : wr.heap.size < W1.heap.size := by rw [hW1, World.size_alloc]; exact Nat.lt_succ_self _
              refine (HDT.out W1 (HBr.out.bt hbW)).mono ?_
              rintro e w5 ⟨rfl, rfl⟩
              have b5 := Below.refl w5.heap.size w5
              have hB5 : Hid (Below W0.heap.size W0 w5) := Lib.hid ((HBr.out.bt hbW).bt b5)
              have hk7 : w5.heap[wr.heap.size]? = some (.cells #[.string (bs p0), .string ⟨#[]⟩, .string ⟨#[]⟩] 34) := (b5.block _ hsW).trans hb7
              have hr5 : Below wr.heap.size wr w5 := hbW.bt b5
              obtain ⟨⟨d0, d1, d2⟩, df0, df1, df2⟩ := block_cells hk7
              obtain ⟨⟨c0, c1, c2⟩, cf0, cf1, cf2⟩ := block_cells (HG.out w5 hB5.out)
              have x0 := (hr5.cell (p := ⟨b, o, none⟩) hbw).trans e0
              have x1 := (hr5.cell (p := ⟨b, o + 1, none⟩) hbw).trans e1
              have x2 := (hr5.cell (p := ⟨b, o + 2, none⟩) hbw).trans e2
              obtain ⟨g7, hg7⟩ : ∃ g7, g7 = wr.heap.size := ⟨_, rfl⟩
              rw [← hg7] at d0 d1 d2 df0 df1 df2 hgw ⊢
              have hne : ¬ w.heap.size = g7 := by omega
              have hne2 : ¬ g7 = w.heap.size := by omega
              clear hW1 hb7 hbW hsW b5 hk7 hr5 hg7
              go_wp2
              (try simp only [Exit.inBlock, Exit.then])
              exact bodyPost_ret (results_name rfl _ _ w.heap.size ⟨#[]⟩ ⟨#[]⟩ ⟨#[]⟩ rfl (three_put (block_some (HG.out w5 hB5.out)))) rfl ⟨by rw [HF.out]; rfl, below_put3 (HB0.out.bt hB5.out) (Nat.le_refl _)⟩
            | true =>
              have HF : Hid (R = (bs p0, bs p1, bs p2, 0)) := Lib.hid hx
              clear hx
              go_wp2_with fail
              obtain ⟨W1, hW1⟩ : ∃ W1, W1 = wr.alloc (.cells #[.string (bs p0), .string ⟨#[]⟩, .string ⟨#[]⟩] 34) := ⟨_, rfl⟩
              rw [← hW1]
              have hb7 : W1.heap[wr.heap.size]? = some (.cells #[.string (bs p0), .string ⟨#[]⟩, .string ⟨#[]⟩] 34) := by rw [hW1]; exact heap_alloc_new wr _
              have hbW : Below wr.heap.size wr W1 := by rw [hW1]; exact (Below.refl _ _).alloc (Nat.le_refl _) _
              have hsW : wr.heap.size < W1.heap.size := by rw [hW1, World.size_alloc]; exact Nat.lt_succ_self _
              refine (HDT.out W1 (HBr.out.bt hbW)).mono ?_
              rintro e w5 ⟨rfl, rfl⟩
              have b5 := Below.refl w5.heap.size w5
              have hB5 : Hid (Below W0.heap.size W0 w5) := Lib.hid ((HBr.out.bt hbW).bt b5)
              have hk7 : w5.heap[wr.heap.size]? = some (.cells #[.string (bs p0), .string ⟨#[]⟩, .string ⟨#[]⟩] 34) := (b5.block _ hsW).trans hb7
              have hr5 : Below wr.heap.size wr w5 := hbW.bt b5
              obtain ⟨⟨d0, d1, d2⟩, df0, df1, df2⟩ := block_cells hk7
              obtain ⟨⟨c0, c1, c2⟩, cf0, cf1, cf2⟩ := block_cells (HG.out w5 hB5.out)
              have x0 := (hr5.cell (p := ⟨b, o, none⟩) hbw).trans e0
              have x1 := (hr5.cell (p := ⟨b, o + 1, none⟩) hbw).trans e1
              have x2 := (hr5.cell (p := ⟨b, o + 2, none⟩) hbw).trans e2
              obtain ⟨g7, hg7⟩ : ∃ g7, g7 = wr.heap.size := ⟨_, rfl⟩
              rw [← hg7] at d0 d1 d2 df0 df1 df2 hgw ⊢
              have hne : ¬ w.heap.size = g7 := by omega
              have hne2 : ¬ g7 = w.heap.size := by omega
              clear hW1 hb7 hbW hsW b5 hk7 hr5 hg7
              have hsc : ∀ j, j < 3 → (((w5.setCell ⟨g7, 1, none⟩ (.string (bs p1))).setCell ⟨g7, 2, none⟩ (.string (bs p2))).cell? ⟨w.heap.size, j, none⟩).isSome = true := fun j hj => by rw [cell_away (.inl hne2), cell_away (.inl hne2)]; exact block_some (HG.out w5 hB5.out) j hj
              have hbp := below_put3 (u := .string (bs p0)) (v := .string (bs p1)) (z := .string (bs p2)) (((HB0.out.bt hB5.out).setCell (p := ⟨g7, 1, none⟩) (Nat.le_of_lt hgw) (.string (bs p1))).setCell (p := ⟨g7, 2, none⟩) (Nat.le_of_lt hgw) (.string (bs p2))) (Nat.le_refl _)
              have h3p := three_put (x := bs p0) (y := bs p1) (z := bs p2) hsc
              have hend := And.intro h3p hbp
              clear hsc hbp h3p
              go_wp2
              (try simp only [Exit.inBlock, Exit.then])
              exact bodyPost_ret (results_name rfl _ _ w.heap.size (bs p0) (bs p1) (bs p2) rfl hend.1) rfl ⟨by rw [HF.out]; rfl, hend.2⟩

end Go.Proofs.YtbolkkpgahoeaaaDoor
