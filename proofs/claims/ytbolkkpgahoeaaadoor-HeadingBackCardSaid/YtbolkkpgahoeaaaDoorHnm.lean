/- The walks of Name, the program's and the reference's (layer 12). -/
import Derived.Test.YtbolkkpgahoeaaaDoorHdt
namespace Go.Proofs.YtbolkkpgahoeaaaDoor
open Go Go.RowKit

/-- What a name is read as: N tells. -/
def nameR (N : ByteArray → Option (ByteArray × ByteArray × ByteArray)) (s : ByteArray) : ByteArray × ByteArray × ByteArray × Int := match N s with | some (a, b, c) => (a, b, c, 0) | none => (⟨#[]⟩, ⟨#[]⟩, ⟨#[]⟩, 3)
structure NameDec (N : ByteArray → Option (ByteArray × ByteArray × ByteArray)) : Prop where
  text : ∀ cs, okt cs = true → N (bs cs) = (nameOf cs).map fun q => (bs q.1, bs q.2.1, bs q.2.2)
  bad : ∀ s : ByteArray, isText s.data.toList = false → N s = none
theorem name_dec : ∃ N, NameDec N := by
  refine ⟨fun s => @dite _ (∃ cs, okt cs = true ∧ s = bs cs) (Classical.propDecidable _) (fun h => (nameOf h.choose).map fun q => (bs q.1, bs q.2.1, bs q.2.2)) (fun _ => none), ⟨fun cs hok => ?_, fun s hb => ?_⟩⟩
  · have h : ∃ ds, okt ds = true ∧ bs cs = bs ds := ⟨cs, hok, rfl⟩
    show @dite _ (∃ ds, okt ds = true ∧ bs cs = bs ds) (Classical.propDecidable _) _ _ = _
    rw [dif_pos h]
    have := h.choose_spec
    rw [← bs_inj _ _ hok this.1 this.2]
  · have h : ¬ ∃ cs, okt cs = true ∧ s = bs cs := by
      rintro ⟨cs, hok, rfl⟩
      rw [isText_bs cs hok] at hb
      cases hb
    show @dite _ (∃ cs, okt cs = true ∧ s = bs cs) (Classical.propDecidable _) _ _ = _
    rw [dif_neg h]
theorem nameR_none {N : ByteArray → Option (ByteArray × ByteArray × ByteArray)} {s : ByteArray} (h : N s = none) : nameR N s = (⟨#[]⟩, ⟨#[]⟩, ⟨#[]⟩, 3) := by unfold nameR; rw [h]
theorem nameR_some {N : ByteArray → Option (ByteArray × ByteArray × ByteArray)} {s x y z : ByteArray} (h : N s = some (x, y, z)) : nameR N s = (x, y, z, 0) := by unfold nameR; rw [h]
/-- A block holds three strings. -/
def Three (w : World) (g : Nat) (x y z : ByteArray) : Prop := w.cell? ⟨g, 0, none⟩ = some (.string x) ∧ w.cell? ⟨g, 1, none⟩ = some (.string y) ∧ w.cell? ⟨g, 2, none⟩ = some (.string z)
theorem cell_away {w : World} {b b' i j : Nat} {v : Value} (h : b ≠ b' ∨ i ≠ j) : (w.setCell ⟨b, i, none⟩ v).cell? ⟨b', j, none⟩ = w.cell? ⟨b', j, none⟩ :=
  World.cell?_setCell_other _ _ _ _ (by intro e; cases e; rcases h with h | h <;> exact h rfl)
theorem cell_here {w : World} {b i : Nat} {v : Value} (h : (w.cell? ⟨b, i, none⟩).isSome = true) : (w.setCell ⟨b, i, none⟩ v).cell? ⟨b, i, none⟩ = some v := by
  cases hc : w.cell? ⟨b, i, none⟩ with
  | none => rw [hc] at h; cases h
  | some u => exact World.cell?_setCell_same _ _ _ hc
theorem three_put {w : World} {g : Nat} {x y z : ByteArray} (h : ∀ j, j < 3 → (w.cell? ⟨g, j, none⟩).isSome = true) : Three (((w.setCell ⟨g, 0, none⟩ (.string x)).setCell ⟨g, 1, none⟩ (.string y)).setCell ⟨g, 2, none⟩ (.string z)) g x y z := by
  have h0 := h 0 (by omega)
  have h1 := h 1 (by omega)
  have h2 := h 2 (by omega)
  refine ⟨?_, ?_, ?_⟩
  · rw [cell_away (.inr (by decide)), cell_away (.inr (by decide)), cell_here h0]
  · rw [cell_away (.inr (by decide)), cell_here (by rw [cell_away (.inr (by decide))]; exact h1)]
  · rw [cell_here (by rw [cell_away (.inr (by decide)), cell_away (.inr (by decide))]; exact h2)]
theorem Three.alloc {w : World} {g : Nat} {x y z : ByteArray} (h : Three w g x y z) (o : Obj) : Three (w.alloc o) g x y z :=
  ⟨Lib.cell?_alloc_some _ h.1, Lib.cell?_alloc_some _ h.2.1, Lib.cell?_alloc_some _ h.2.2⟩
theorem Three.drew {w : World} {g : Nat} {x y z : ByteArray} (h : Three w g x y z) : Three w.drew g x y z := h
theorem below_put3 {B : Nat} {a w : World} {g : Nat} {u v z : Value} (h : Below B a w) (hb : B ≤ g) : Below B a (((w.setCell ⟨g, 0, none⟩ u).setCell ⟨g, 1, none⟩ v).setCell ⟨g, 2, none⟩ z) :=
  ((h.setCell (p := ⟨g, _, none⟩) hb _).setCell (p := ⟨g, _, none⟩) hb _).setCell (p := ⟨g, _, none⟩) hb _
theorem results_name {fn : Func} {t u : Tmp} (h : fn.results = #[.cell t 34, .tmp u]) (tmps : Array Value) (w : World) (g : Nat) (x y z : ByteArray) (ht : tmps.getD t undef = .pointer (some ⟨g, 0, none⟩)) (h3 : Three w g x y z) :
    (results fn tmps).run Tryd.prog w = .ok (.tuple #[.agg #[.string x, .string y, .string z], tmps.getD u undef]) w := by
  obtain ⟨q0, q1, q2⟩ := h3
  unfold results
  rw [h]
  simp only [List.mapM_toArray, List.mapM_cons, List.mapM_nil]
  rw [ht]
  go_simp
theorem block_cells {w : World} {g : Nat} {x y z : Value} {T : TypeId} (h : w.heap[g]? = some (.cells #[x, y, z] T)) :
    (w.cell? ⟨g, 0, none⟩ = some x ∧ w.cell? ⟨g, 1, none⟩ = some y ∧ w.cell? ⟨g, 2, none⟩ = some z) ∧ (w.frozen? ⟨g, 0, none⟩ = false ∧ w.frozen? ⟨g, 1, none⟩ = false ∧ w.frozen? ⟨g, 2, none⟩ = false) := by
  refine ⟨⟨?_, ?_, ?_⟩, ?_, ?_, ?_⟩
  · rw [Lib.cell_of_heap h]; rfl
  · rw [Lib.cell_of_heap h]; rfl
  · rw [Lib.cell_of_heap h]; rfl
  · simp [World.frozen?, h]
  · simp [World.frozen?, h]
  · simp [World.frozen?, h]
theorem block_some {w : World} {g : Nat} {x y z : Value} {T : TypeId} (h : w.heap[g]? = some (.cells #[x, y, z] T)) : ∀ j, j < 3 → (w.cell? ⟨g, j, none⟩).isSome = true := by
  intro j hj
  obtain ⟨⟨h0, h1, h2⟩, -⟩ := block_cells h
  have : j = 0 ∨ j = 1 ∨ j = 2 := by omega
  rcases this with rfl | rfl | rfl
  · rw [h0]; rfl
  · rw [h1]; rfl
  · rw [h2]; rfl
theorem list_le3 {α : Type} {l : List α} (h0 : l ≠ []) (h : l.length ≤ 3) : (∃ a, l = [a]) ∨ (∃ a b, l = [a, b]) ∨ ∃ a b c, l = [a, b, c] := by
  match l, h0, h with
  | [a], _, _ => exact .inl ⟨a, rfl⟩
  | [a, b], _, _ => exact .inr (.inl ⟨a, b, rfl⟩)
  | [a, b, c], _, _ => exact .inr (.inr ⟨a, b, c, rfl⟩)
theorem contains_comma (p : List Nat) (hok : okt p = true) : Lib.contains (enc p) [44] = p.contains 44 := by
  have h1 := split_contains (sep := [44]) (by simp) (enc p)
  have h2 := split_single 44 (enc p)
  rw [h2] at h1
  have h3 := contains_enc (c := 44) (by decide) p hok
  have h4 : (UInt8.ofNat 44) = 44 := rfl
  rw [h4] at h3
  rw [h3] at h1
  cases hq : Lib.contains (enc p) [44] <;> cases hr : p.contains 44 <;> simp_all
theorem pieceOk_eq {p : List Nat} (hne : p ≠ []) : pieceOk p = (decide (clean p = p) && !p.contains 44) := by
  unfold pieceOk
  cases p with
  | nil => exact absurd rfl hne
  | cons a b => simp
theorem nameOf_bad {cs : List Nat} {p : List Nat} (hp : p ∈ split comma cs) (h : pieceOk p = false) : nameOf cs = none := by
  unfold nameOf nameL
  rw [if_neg]
  intro e
  have := List.all_eq_true.1 e p hp
  rw [h] at this; cases this
theorem nameOf_many {cs : List Nat} (h : 3 < (split comma cs).length) : nameOf cs = none := by
  unfold nameOf nameL
  split
  · split <;> rename_i hs <;> (try rw [hs] at h) <;> (try simp at h) <;> rfl
  · rfl

set_option maxRecDepth 100000 in
set_option maxHeartbeats 8000000 in
theorem pName {N : ByteArray → Option (ByteArray × ByteArray × ByteArray)} (hN : NameDec N) (s : ByteArray) (w : World) (hE : Env w) (hs : s.size ≤ 100000) :
    Calls Tryd.prog 25 #[.string s] w fun e w' => e = .returned (.tuple #[.agg #[.string (nameR N s).1, .string (nameR N s).2.1, .string (nameR N s).2.2.1], .int .i64 (nameR N s).2.2.2]) ∧ Below w.heap.size w w' := by
  obtain ⟨W0, hW0⟩ : ∃ W0, W0 = w.alloc (.cells #[.string ⟨#[]⟩, .string ⟨#[]⟩, .string ⟨#[]⟩] 34) := ⟨_, rfl⟩
  have hb0 : Below w.heap.size w W0 := by rw [hW0]; exact (Below.refl _ _).alloc (Nat.le_refl _) _
  have hs0 : w.heap.size < W0.heap.size := by rw [hW0, World.size_alloc]; exact Nat.lt_succ_self _
  have hg0 : W0.heap[w.heap.size]? = some (.cells #[.string ⟨#[]⟩, .string ⟨#[]⟩, .string ⟨#[]⟩] 34) := by rw [hW0]; exact heap_alloc_new w _
  have HG : Hid (∀ W, Below W0.heap.size W0 W → W.heap[w.heap.size]? = some (.cells #[.string ⟨#[]⟩, .string ⟨#[]⟩, .string ⟨#[]⟩] 34)) := Lib.hid (fun W hW => (hW.block _ hs0).trans hg0)
  have HE : Hid (∀ W, Below W0.heap.size W0 W → Env W) := Lib.hid (fun W hW => (hE.below hb0).below hW)
  have hE0 := hE.below hb0
  have HW0 := Lib.hid hW0
  have HB0 := Lib.hid hb0
  obtain ⟨R, hR⟩ : ∃ R, R = nameR N s := ⟨_, rfl⟩
  rw [← hR]
  clear hW0 hb0 hg0 hE
  cases ht : isText s.data.toList with
  | false =>
    have HF : Hid (R = (⟨#[]⟩, ⟨#[]⟩, ⟨#[]⟩, 3)) := Lib.hid (by rw [hR]; exact nameR_none (hN.bad s ht))
    have HSP := Lib.hid (hSplit s ⟨#[44, 32]⟩ W0 hE0 (by omega) (by decide))
    have HV := Lib.hid (fun W (hW : Below W0.heap.size W0 W) => pValid_false s W (HE.out W hW) ht (by omega))
    clear hR ht hN hE0
    go_enter Tryd.func25, Tryd.ntmps25
    go_wp2_with fail
    rw [← HW0.out]
    refine HSP.out.mono ?_
    rintro e w1 ⟨v1, rfl, s1, b1⟩
    have HB1 := Lib.hid b1
    obtain ⟨pa, pc, rfl, -, -⟩ := s1
    clear b1
    go_wp2_with fail
    refine (HV.out w1 HB1.out).mono ?_
    rintro e w2 ⟨rfl, b2⟩
    have HB2 := Lib.hid (HB1.out.bt b2)
    clear b2
    obtain ⟨⟨c0, c1, c2⟩, cf0, cf1, cf2⟩ := block_cells (HG.out w2 HB2.out)
    go_wp2
    (try simp only [Exit.inBlock, Exit.then])
    refine bodyPost_ret (results_name rfl _ _ w.heap.size ⟨#[]⟩ ⟨#[]⟩ ⟨#[]⟩ rfl (three_put (block_some (HG.out w2 HB2.out)))) rfl ⟨by rw [HF.out]; rfl, below_put3 (HB0.out.bt HB2.out) (Nat.le_refl _)⟩
  | true =>
    obtain ⟨cs, hok, rfl⟩ := text_bs s ht
    have hNs := hN.text cs hok
    have hsp := hSplit (bs cs) (bs comma) W0 hE0 (by omega) (by decide)
    have HV := Lib.hid (fun W (hW : Below W0.heap.size W0 W) => pValid_true cs W (HE.out W hW) hok (by omega))
    obtain ⟨m, hm⟩ := hE0.max
    have hml := lt_of_cell hm
    have HMX : Hid (∀ W, Below W0.heap.size W0 W → W.cell? ⟨2, 0, none⟩ = some (.int .i64 m)) := Lib.hid (fun W hW => (hW.cell (p := ⟨_, 0, none⟩) hml).trans hm)
    rw [map_ba_enc comma_ne comma_ascii cs hok] at hsp
    obtain ⟨hl1, hl2⟩ := split_text_size comma_ne comma_ascii cs hok
    have hpo := split_okt comma_ne cs hok
    have HBD : Hid (∀ p ∈ split comma cs, pieceOk p = false → R = (⟨#[]⟩, ⟨#[]⟩, ⟨#[]⟩, 3)) := Lib.hid (fun p hp h => by rw [hR]; exact nameR_none (by rw [hNs, nameOf_bad hp h]; rfl))
    have HMANY : Hid (3 < (split comma cs).length → R = (⟨#[]⟩, ⟨#[]⟩, ⟨#[]⟩, 3)) := Lib.hid (fun h => by rw [hR]; exact nameR_none (by rw [hNs, nameOf_many h]; rfl))
    have HOKR : Hid (∀ q, nameL (split comma cs) = some q → R = (bs q.1, bs q.2.1, bs q.2.2, 0)) := Lib.hid (fun q h => by rw [hR]; exact nameR_some (by rw [hNs]; unfold nameOf; rw [h]; rfl))
    have HNONE : Hid (nameL (split comma cs) = none → R = (⟨#[]⟩, ⟨#[]⟩, ⟨#[]⟩, 3)) := Lib.hid (fun h => by rw [hR]; exact nameR_none (by rw [hNs]; unfold nameOf; rw [h]; rfl))
    have hpne : split comma cs ≠ [] := spl_ne comma_ne [] cs
    obtain ⟨ps, hps⟩ : ∃ ps, ps = split comma cs := ⟨_, rfl⟩
    rw [← hps] at hsp
    rw [← hps] at hl1 hl2 hpo HBD HMANY HOKR HNONE hpne
    obtain ⟨S, hS⟩ : ∃ S, S = bs cs := ⟨_, rfl⟩
    rw [← hS] at hsp
    rw [← hS] at HV hl1 hl2 hs ⊢
    have hsp2 : Calls Tryd.prog 30 #[.string S, .string ⟨#[44, 32]⟩] W0 (RetStrs W0 (ps.map bs)) := hsp
    have HSP := Lib.hid hsp2
    have HL2 := Lib.hid hl2
    have HPO := Lib.hid hpo
    have HPN := Lib.hid hpne
    obtain ⟨n, hn⟩ : ∃ n, n = ps.length := ⟨_, rfl⟩
    have hn1 : 0 < n := by rw [hn]; exact List.length_pos_iff.2 hpne
    rw [← hn] at HMANY
    have HN := Lib.hid hn
    clear hsp hsp2 hl1 hl2 hpo hps hS hok hn hR ht hNs hpne hN hE0 hm hml
    by_cases h3 : 3 < n
    · have HF := Lib.hid (HMANY.out h3)
      have h3z : (3 : Int) < (n : Int) := by omega
      clear h3 HMANY
      go_enter Tryd.func25, Tryd.ntmps25
      go_wp2_with fail
      rw [← HW0.out]
      refine HSP.out.mono ?_
      rintro e w1 ⟨v1, rfl, s1, b1⟩
      have HB1 := Lib.hid b1
      obtain ⟨pa, pc, rfl, hpc, hcells⟩ := s1
      rw [List.length_map, ← HN.out] at hpc ⊢
      clear b1
      go_wp2_with fail
      refine (HV.out w1 HB1.out).mono ?_
      rintro e w2 ⟨rfl, b2⟩
      have HB2 := Lib.hid (HB1.out.bt b2)
      have HC := Lib.hid (show Hid _ from Lib.hid hcells)
      have HSZ := Lib.hid b2.size
      have HW12 := Lib.hid b2
      clear b2 hcells
      obtain ⟨⟨c0, c1, c2⟩, cf0, cf1, cf2⟩ := block_cells (HG.out w2 HB2.out)
      go_wp2
      (try simp only [Exit.inBlock, Exit.then])
      refine bodyPost_ret (results_name rfl _ _ w.heap.size ⟨#[]⟩ ⟨#[]⟩ ⟨#[]⟩ rfl (three_put (block_some (HG.out w2 HB2.out)))) rfl ⟨by rw [HF.out]; rfl, below_put3 (HB0.out.bt HB2.out) (Nat.le_refl _)⟩
    · have h3z : (n : Int) ≤ 3 := by omega
      clear HMANY
      go_enter Tryd.func25, Tryd.ntmps25
      go_wp2_with fail
      rw [← HW0.out]
      refine HSP.out.mono ?_
      rintro e w1 ⟨v1, rfl, s1, b1⟩
      have HB1 := Lib.hid b1
      obtain ⟨pa, pc, rfl, hpc, hcells⟩ := s1
      rw [List.length_map, ← HN.out] at hpc ⊢
      clear b1
      go_wp2_with fail
      refine (HV.out w1 HB1.out).mono ?_
      rintro e w2 ⟨rfl, b2⟩
      have HB2 := Lib.hid (HB1.out.bt b2)
      have HC := Lib.hid (show Hid _ from Lib.hid hcells)
      have HSZ := Lib.hid b2.size
      have HW12 := Lib.hid b2
      clear b2 hcells
      go_wp2
      go_loopw [21] (fun vk wr => ∃ k : Nat, vk = .int .i64 k ∧ k ≤ n ∧ Hid ((ps.take k).all pieceOk = true) ∧ Hid (Below w2.heap.size w2 wr)) (fun vk _ => n - (intOf vk).toNat)
      case atStart => exact ⟨0, rfl, Nat.zero_le _, Lib.hid rfl, Lib.hid (Below.refl _ _)⟩
      case round =>
        obtain ⟨k, rfl, hk, HK, HB⟩ := hrel
        have HBr : Hid (Below W0.heap.size W0 wr) := Lib.hid (HB2.out.bt HB.out)
        have HCW : Hid (ps = [] ∨ ∃ b o, pa = some ⟨b, o, none⟩ ∧ b < w1.heap.size ∧ ∀ j x, (ps.map bs)[j]? = some x → w1.cell? ⟨b, o + j, none⟩ = some (.string x)) := Lib.hid (by
          rcases HC.out.out with h | h
          · exact .inl (by simpa using h)
          · exact .inr h)
        by_cases hlt : k < n
        · have hltz : (k : Int) < (n : Int) := by omega
          obtain ⟨p, hp⟩ : ∃ p, ps[k]? = some p := ⟨_, List.getElem?_eq_getElem (by have := HN.out; omega)⟩
          have hp2 : (ps.map bs)[k]? = some (bs p) := by rw [List.getElem?_map, hp]; rfl
          rcases HCW.out with h0 | ⟨b, o, rfl, hbl, hcl⟩
          · rw [h0] at hp; cases hp
          have hcell : wr.cell? ⟨b, o + k, none⟩ = some (.string (bs p)) := ((HW12.out.bt HB.out).cell (p := ⟨b, o + k, none⟩) hbl).trans (hcl k _ hp2)
          have hpm := List.mem_of_getElem? hp
          have hpok := HPO.out p hpm
          have hpsz : (bs p).size ≤ 100000 := by have := HL2.out p hpm; omega
          have hBD := HBD.out p hpm
          have hNX : pieceOk p = true → (ps.take (k + 1)).all pieceOk = true := fun h => by
            rw [List.take_add_one, hp, List.all_append, HK.out]; simp [h]
          have hq := bytes_eq (clean_okt p hpok) hpok
          have HCN := Lib.hid (fun W => pClean p W hpok (by omega))
          have hco := fun W (hW : Below W0.heap.size W0 W) => Tryd.strings_Contains (bs p) ⟨#[44]⟩ m W (by omega) (HMX.out W hW)
          simp only [bs_data, contains_comma p hpok] at hco
          cases he : (bs p).toList.isEmpty with
          | true =>
            have HF := Lib.hid (hBD (by rw [bs_empty he]; rfl))
            clear hBD hNX hq HCN hco hpm hp hp2 hcl hpok HK
            obtain ⟨⟨c0, c1, c2⟩, cf0, cf1, cf2⟩ := block_cells (HG.out wr HBr.out)
            clear hpsz
            go_wp2
            (try simp only [Exit.inBlock, Exit.then])
            refine bodyPost_ret (results_name rfl _ _ w.heap.size ⟨#[]⟩ ⟨#[]⟩ ⟨#[]⟩ rfl (three_put (block_some (HG.out wr HBr.out)))) rfl ⟨by rw [HF.out]; rfl, below_put3 (HB0.out.bt HBr.out) (Nat.le_refl _)⟩
          | false =>
            have hne := bs_full he
            rw [pieceOk_eq hne] at hBD hNX
            obtain ⟨c1, h1⟩ : ∃ c1, c1 = decide (clean p = p) := ⟨_, rfl⟩
            obtain ⟨c2, h2⟩ : ∃ c2, c2 = p.contains 44 := ⟨_, rfl⟩
            obtain ⟨C, hC⟩ : ∃ C, C = bs (clean p) := ⟨_, rfl⟩
            rw [← hC] at hq
            rw [← h1] at hq hBD hNX
            rw [← h2] at hBD hNX
            simp only [← h2] at hco
            have HCN2 : Hid (∀ W, Calls Tryd.prog 31 #[.string (bs p)] W fun e w' => e = .returned (.string C) ∧ Below W.heap.size W w') := Lib.hid (by rw [hC]; exact HCN.out)
            obtain ⟨Pb, hPb⟩ : ∃ Pb, Pb = bs p := ⟨_, rfl⟩
            rw [← hPb] at HCN2 hcell he hpsz hq
            simp only [← hPb] at hco
            have HCO := Lib.hid hco
            have HNX := Lib.hid hNX
            have HBDc := Lib.hid hBD
            clear hBD hNX HCN hco hpm hp hp2 hcl hpok HK h1 h2 hC hPb hne
            cases c1 with
            | false =>
              have HF := Lib.hid (HBDc.out rfl)
              clear HNX HBDc HCO
              go_wp2_with fail
              refine (HCN2.out wr).mono ?_
              rintro e w3 ⟨rfl, b3⟩
              have HB3 := Lib.hid (HBr.out.bt b3)
              have HBk : Hid (Below w2.heap.size w2 w3) := Lib.hid (HB.out.bt b3)
              clear b3
              obtain ⟨⟨c0, c1, c2⟩, cf0, cf1, cf2⟩ := block_cells (HG.out w3 HB3.out)
              go_wp2
              (try simp only [Exit.inBlock, Exit.then])
              refine bodyPost_ret (results_name rfl _ _ w.heap.size ⟨#[]⟩ ⟨#[]⟩ ⟨#[]⟩ rfl (three_put (block_some (HG.out w3 HB3.out)))) rfl ⟨by rw [HF.out]; rfl, below_put3 (HB0.out.bt HB3.out) (Nat.le_refl _)⟩
            | true =>
              cases c2 with
              | true =>
                have HF := Lib.hid (HBDc.out rfl)
                clear HNX HBDc
                go_wp2_with fail
                refine (HCN2.out wr).mono ?_
                rintro e w3 ⟨rfl, b3⟩
                have HB3 := Lib.hid (HBr.out.bt b3)
                have HBk : Hid (Below w2.heap.size w2 w3) := Lib.hid (HB.out.bt b3)
                clear b3
                go_wp2_with fail
                refine (HCO.out w3 HB3.out).mono ?_
                rintro e w4 ⟨rfl, rfl⟩
                obtain ⟨⟨c0, c1, c2⟩, cf0, cf1, cf2⟩ := block_cells (HG.out w4 HB3.out)
                go_wp2
                (try simp only [Exit.inBlock, Exit.then])
                refine bodyPost_ret (results_name rfl _ _ w.heap.size ⟨#[]⟩ ⟨#[]⟩ ⟨#[]⟩ rfl (three_put (block_some (HG.out w4 HB3.out)))) rfl ⟨by rw [HF.out]; rfl, below_put3 (HB0.out.bt HB3.out) (Nat.le_refl _)⟩
              | false =>
                have HK2 := Lib.hid (HNX.out rfl)
                clear HNX HBDc
                go_wp2_with fail
                refine (HCN2.out wr).mono ?_
                rintro e w3 ⟨rfl, b3⟩
                have HB3 := Lib.hid (HBr.out.bt b3)
                have HBk : Hid (Below w2.heap.size w2 w3) := Lib.hid (HB.out.bt b3)
                clear b3
                go_wp2_with fail
                refine (HCO.out w3 HB3.out).mono ?_
                rintro e w4 ⟨rfl, rfl⟩
                go_wp2
                go_roundw
                case rel => exact ⟨k + 1, by go_num, by omega, HK2, HBk⟩
                case measure => simp [intOf]; omega
        · have hltz : ¬ (k : Int) < (n : Int) := by omega
          have hAll : ps.all pieceOk = true := by
            have := HK.out
            rwa [List.take_of_length_le (by have := HN.out; omega)] at this

          have h3n : ps.length ≤ 3 := by have := HN.out; omega
          rcases HCW.out with h0 | ⟨b, o, rfl, hbl, hcl⟩
          · exact absurd h0 HPN.out
          have hcases := list_le3 HPN.out h3n
          clear h3n hltz hk HK HBD h3z hn1
          rcases hcases with ⟨p0, rfl⟩ | ⟨p0, p1, rfl⟩ | ⟨p0, p1, p2, rfl⟩
          · have HF : Hid (R = (bs p0, ⟨#[]⟩, ⟨#[]⟩, 0)) := Lib.hid (HOKR.out (p0, [], []) (by unfold nameL; rw [if_pos hAll]))
            obtain rfl : n = 1 := HN.out
            have hkz : (1 : Int) ≤ (k : Int) := by omega
            clear hlt
            have e0 : wr.cell? ⟨b, o, none⟩ = some (.string (bs p0)) := ((HW12.out.bt HB.out).cell (p := ⟨b, o + 0, none⟩) hbl).trans (hcl 0 _ rfl)
            have hbw : b < wr.heap.size := Nat.lt_of_lt_of_le hbl (Nat.le_trans HW12.out.size HB.out.size)
            have hgw : w.heap.size < wr.heap.size := Nat.lt_of_lt_of_le hs0 HBr.out.size
            obtain ⟨⟨c0, c1, c2⟩, cf0, cf1, cf2⟩ := block_cells (HG.out wr HBr.out)
            clear hAll hcl HOKR HNONE
            go_wp2
            (try simp only [Exit.inBlock, Exit.then])
            have hbp := below_put3 (u := .string (bs p0)) (v := .string ⟨#[]⟩) (z := .string ⟨#[]⟩) (HB0.out.bt HBr.out) (Nat.le_refl _)
            exact bodyPost_ret (results_name rfl _ _ w.heap.size (bs p0) ⟨#[]⟩ ⟨#[]⟩ rfl ((three_put (block_some (HG.out wr HBr.out))).alloc _)) rfl ⟨by rw [HF.out]; rfl, hbp.alloc hbp.size _⟩
          · have HOK := Lib.hid (HOKR.out)
            obtain rfl : n = 2 := HN.out
            have hkz : (2 : Int) ≤ (k : Int) := by omega
            clear hlt
            have e0 : wr.cell? ⟨b, o, none⟩ = some (.string (bs p0)) := ((HW12.out.bt HB.out).cell (p := ⟨b, o + 0, none⟩) hbl).trans (hcl 0 _ rfl)
            have e1 : wr.cell? ⟨b, o + 1, none⟩ = some (.string (bs p1)) := ((HW12.out.bt HB.out).cell (p := ⟨b, o + 1, none⟩) hbl).trans (hcl 1 _ rfl)
            have hbw : b < wr.heap.size := Nat.lt_of_lt_of_le hbl (Nat.le_trans HW12.out.size HB.out.size)
            have hgw : w.heap.size < wr.heap.size := Nat.lt_of_lt_of_le hs0 HBr.out.size
            have hdt := fun W (hW : Below W0.heap.size W0 W) => pDates (bs p1) W (HE.out W hW) (by have := HL2.out p1 (by simp); omega)
            simp only [bs_data] at hdt
            have hx := HOKR.out (if datesB (enc p1) = true then (p0, [], p1) else (p0, p1, [])) (by unfold nameL; rw [if_pos hAll]; show (if datesB (enc p1) = true then some (p0, [], p1) else some (p0, p1, [])) = _; split <;> rfl)
            obtain ⟨q, hq⟩ : ∃ q, q = datesB (enc p1) := ⟨_, rfl⟩
            simp only [← hq] at hdt
            rw [← hq] at hx
            have HDT := Lib.hid hdt
            clear hAll hcl HOKR HNONE HOK hdt hq
            cases q with
            | true =>
              have HF : Hid (R = (bs p0, ⟨#[]⟩, bs p1, 0)) := Lib.hid hx
              clear hx
              go_wp2_with fail
              obtain ⟨W1, hW1⟩ : ∃ W1, W1 = wr.alloc (.cells #[.string (bs p0), .string ⟨#[]⟩, .string ⟨#[]⟩] 34) := ⟨_, rfl⟩
              rw [← hW1]
              have hb7 : W1.heap[wr.heap.size]? = some (.cells #[.string (bs p0), .string ⟨#[]⟩, .string ⟨#[]⟩] 34) := by rw [hW1]; exact heap_alloc_new wr _
              have hbW : Below wr.heap.size wr W1 := by rw [hW1]; exact (Below.refl _ _).alloc (Nat.le_refl _) _
              have hsW : wr.heap.size < W1.heap.size := by rw [hW1, World.size_alloc]; exact Nat.lt_succ_self _
              refine (HDT.out W1 (HBr.out.bt hbW)).mono ?_
              rintro e w5 ⟨rfl, b5⟩
              have hB5 : Hid (Below W0.heap.size W0 w5) := Lib.hid ((HBr.out.bt hbW).bt b5)
              have hk7 : w5.heap[wr.heap.size]? = some (.cells #[.string (bs p0), .string ⟨#[]⟩, .string ⟨#[]⟩] 34) := (b5.block _ hsW).trans hb7
              have hr5 : Below wr.heap.size wr w5 := hbW.bt b5
              obtain ⟨⟨d0, d1, d2⟩, df0, df1, df2⟩ := block_cells hk7
              obtain ⟨⟨c0, c1, c2⟩, cf0, cf1, cf2⟩ := block_cells (HG.out w5 hB5.out)
              have x0 := (hr5.cell (p := ⟨b, o, none⟩) hbw).trans e0
              have x1 := (hr5.cell (p := ⟨b, o + 1, none⟩) hbw).trans e1
              obtain ⟨g7, hg7⟩ : ∃ g7, g7 = wr.heap.size := ⟨_, rfl⟩
              rw [← hg7] at d0 d1 d2 df0 df1 df2 hgw ⊢
              have hne : ¬ w.heap.size = g7 := by omega
              have hne2 : ¬ g7 = w.heap.size := by omega
              clear hW1 hb7 hbW hsW b5 hk7 hr5 hg7
              go_wp2
              (try simp only [Exit.inBlock, Exit.then])
              have hsc : ∀ j, j < 3 → ((w5.setCell ⟨g7, 2, none⟩ (.string (bs p1))).cell? ⟨w.heap.size, j, none⟩).isSome = true := fun j hj => by rw [cell_away (.inl hne2)]; exact block_some (HG.out w5 hB5.out) j hj
              exact bodyPost_ret (results_name rfl _ _ w.heap.size (bs p0) (⟨#[]⟩) (bs p1) rfl (three_put hsc)) rfl ⟨by rw [HF.out]; rfl, below_put3 ((HB0.out.bt hB5.out).setCell (p := ⟨g7, 2, none⟩) (Nat.le_of_lt hgw) _) (Nat.le_refl _)⟩
            | false =>
              have HF : Hid (R = (bs p0, bs p1, ⟨#[]⟩, 0)) := Lib.hid hx
              clear hx
              go_wp2_with fail
              obtain ⟨W1, hW1⟩ : ∃ W1, W1 = wr.alloc (.cells #[.string (bs p0), .string ⟨#[]⟩, .string ⟨#[]⟩] 34) := ⟨_, rfl⟩
              rw [← hW1]
              have hb7 : W1.heap[wr.heap.size]? = some (.cells #[.string (bs p0), .string ⟨#[]⟩, .string ⟨#[]⟩] 34) := by rw [hW1]; exact heap_alloc_new wr _
              have hbW : Below wr.heap.size wr W1 := by rw [hW1]; exact (Below.refl _ _).alloc (Nat.le_refl _) _
              have hsW : wr.heap.size < W1.heap.size := by rw [hW1, World.size_alloc]; exact Nat.lt_succ_self _
              refine (HDT.out W1 (HBr.out.bt hbW)).mono ?_
              rintro e w5 ⟨rfl, b5⟩
              have hB5 : Hid (Below W0.heap.size W0 w5) := Lib.hid ((HBr.out.bt hbW).bt b5)
              have hk7 : w5.heap[wr.heap.size]? = some (.cells #[.string (bs p0), .string ⟨#[]⟩, .string ⟨#[]⟩] 34) := (b5.block _ hsW).trans hb7
              have hr5 : Below wr.heap.size wr w5 := hbW.bt b5
              obtain ⟨⟨d0, d1, d2⟩, df0, df1, df2⟩ := block_cells hk7
              obtain ⟨⟨c0, c1, c2⟩, cf0, cf1, cf2⟩ := block_cells (HG.out w5 hB5.out)
              have x0 := (hr5.cell (p := ⟨b, o, none⟩) hbw).trans e0
              have x1 := (hr5.cell (p := ⟨b, o + 1, none⟩) hbw).trans e1
              obtain ⟨g7, hg7⟩ : ∃ g7, g7 = wr.heap.size := ⟨_, rfl⟩
              rw [← hg7] at d0 d1 d2 df0 df1 df2 hgw ⊢
              have hne : ¬ w.heap.size = g7 := by omega
              have hne2 : ¬ g7 = w.heap.size := by omega
              clear hW1 hb7 hbW hsW b5 hk7 hr5 hg7
              go_wp2
              (try simp only [Exit.inBlock, Exit.then])
              have hsc : ∀ j, j < 3 → ((w5.setCell ⟨g7, 1, none⟩ (.string (bs p1))).cell? ⟨w.heap.size, j, none⟩).isSome = true := fun j hj => by rw [cell_away (.inl hne2)]; exact block_some (HG.out w5 hB5.out) j hj
              exact bodyPost_ret (results_name rfl _ _ w.heap.size (bs p0) (bs p1) (⟨#[]⟩) rfl (three_put hsc)) rfl ⟨by rw [HF.out]; rfl, below_put3 ((HB0.out.bt hB5.out).setCell (p := ⟨g7, 1, none⟩) (Nat.le_of_lt hgw) _) (Nat.le_refl _)⟩
          · have HOK := Lib.hid (HOKR.out)
            obtain rfl : n = 3 := HN.out
            have hkz : (3 : Int) ≤ (k : Int) := by omega
            clear hlt
            have e0 : wr.cell? ⟨b, o, none⟩ = some (.string (bs p0)) := ((HW12.out.bt HB.out).cell (p := ⟨b, o + 0, none⟩) hbl).trans (hcl 0 _ rfl)
            have e1 : wr.cell? ⟨b, o + 1, none⟩ = some (.string (bs p1)) := ((HW12.out.bt HB.out).cell (p := ⟨b, o + 1, none⟩) hbl).trans (hcl 1 _ rfl)
            have e2 : wr.cell? ⟨b, o + 2, none⟩ = some (.string (bs p2)) := ((HW12.out.bt HB.out).cell (p := ⟨b, o + 2, none⟩) hbl).trans (hcl 2 _ rfl)
            have hbw : b < wr.heap.size := Nat.lt_of_lt_of_le hbl (Nat.le_trans HW12.out.size HB.out.size)
            have hgw : w.heap.size < wr.heap.size := Nat.lt_of_lt_of_le hs0 HBr.out.size
            have hdt := fun W (hW : Below W0.heap.size W0 W) => pDates (bs p2) W (HE.out W hW) (by have := HL2.out p2 (by simp); omega)
            simp only [bs_data] at hdt
            have hx : R = if datesB (enc p2) = true then (bs p0, bs p1, bs p2, 0) else (⟨#[]⟩, ⟨#[]⟩, ⟨#[]⟩, 3) := by
              by_cases hd : datesB (enc p2) = true
              · rw [if_pos hd]; exact HOKR.out (p0, p1, p2) (by unfold nameL; rw [if_pos hAll]; simp only [hd, if_true])
              · rw [if_neg hd]; exact HNONE.out (by unfold nameL; rw [if_pos hAll]; simp only [hd, if_false, Bool.false_eq_true])
            obtain ⟨q, hq⟩ : ∃ q, q = datesB (enc p2) := ⟨_, rfl⟩
            simp only [← hq] at hdt
            rw [← hq] at hx
            have HDT := Lib.hid hdt
            clear hAll hcl HOKR HNONE HOK hdt hq
            cases q with
            | false =>
              have HF : Hid (R = (⟨#[]⟩, ⟨#[]⟩, ⟨#[]⟩, 3)) := Lib.hid hx
              clear hx
              go_wp2_with fail
              obtain ⟨W1, hW1⟩ : ∃ W1, W1 = wr.alloc (.cells #[.string (bs p0), .string ⟨#[]⟩, .string ⟨#[]⟩] 34) := ⟨_, rfl⟩
              rw [← hW1]
              have hb7 : W1.heap[wr.heap.size]? = some (.cells #[.string (bs p0), .string ⟨#[]⟩, .string ⟨#[]⟩] 34) := by rw [hW1]; exact heap_alloc_new wr _
              have hbW : Below wr.heap.size wr W1 := by rw [hW1]; exact (Below.refl _ _).alloc (Nat.le_refl _) _
              have hsW : wr.heap.size < W1.heap.size := by rw [hW1, World.size_alloc]; exact Nat.lt_succ_self _
              refine (HDT.out W1 (HBr.out.bt hbW)).mono ?_
              rintro e w5 ⟨rfl, b5⟩
              have hB5 : Hid (Below W0.heap.size W0 w5) := Lib.hid ((HBr.out.bt hbW).bt b5)
              have hk7 : w5.heap[wr.heap.size]? = some (.cells #[.string (bs p0), .string ⟨#[]⟩, .string ⟨#[]⟩] 34) := (b5.block _ hsW).trans hb7
              have hr5 : Below wr.heap.size wr w5 := hbW.bt b5
              obtain ⟨⟨d0, d1, d2⟩, df0, df1, df2⟩ := block_cells hk7
              obtain ⟨⟨c0, c1, c2⟩, cf0, cf1, cf2⟩ := block_cells (HG.out w5 hB5.out)
              have x0 := (hr5.cell (p := ⟨b, o, none⟩) hbw).trans e0
              have x1 := (hr5.cell (p := ⟨b, o + 1, none⟩) hbw).trans e1
              have x2 := (hr5.cell (p := ⟨b, o + 2, none⟩) hbw).trans e2
              obtain ⟨g7, hg7⟩ : ∃ g7, g7 = wr.heap.size := ⟨_, rfl⟩
              rw [← hg7] at d0 d1 d2 df0 df1 df2 hgw ⊢
              have hne : ¬ w.heap.size = g7 := by omega
              have hne2 : ¬ g7 = w.heap.size := by omega
              clear hW1 hb7 hbW hsW b5 hk7 hr5 hg7
              go_wp2
              (try simp only [Exit.inBlock, Exit.then])
              exact bodyPost_ret (results_name rfl _ _ w.heap.size ⟨#[]⟩ ⟨#[]⟩ ⟨#[]⟩ rfl (three_put (block_some (HG.out w5 hB5.out)))) rfl ⟨by rw [HF.out]; rfl, below_put3 (HB0.out.bt hB5.out) (Nat.le_refl _)⟩
            | true =>
              have HF : Hid (R = (bs p0, bs p1, bs p2, 0)) := Lib.hid hx
              clear hx
              go_wp2_with fail
              obtain ⟨W1, hW1⟩ : ∃ W1, W1 = wr.alloc (.cells #[.string (bs p0), .string ⟨#[]⟩, .string ⟨#[]⟩] 34) := ⟨_, rfl⟩
              rw [← hW1]
              have hb7 : W1.heap[wr.heap.size]? = some (.cells #[.string (bs p0), .string ⟨#[]⟩, .string ⟨#[]⟩] 34) := by rw [hW1]; exact heap_alloc_new wr _
              have hbW : Below wr.heap.size wr W1 := by rw [hW1]; exact (Below.refl _ _).alloc (Nat.le_refl _) _
              have hsW : wr.heap.size < W1.heap.size := by rw [hW1, World.size_alloc]; exact Nat.lt_succ_self _
              refine (HDT.out W1 (HBr.out.bt hbW)).mono ?_
              rintro e w5 ⟨rfl, b5⟩
              have hB5 : Hid (Below W0.heap.size W0 w5) := Lib.hid ((HBr.out.bt hbW).bt b5)
              have hk7 : w5.heap[wr.heap.size]? = some (.cells #[.string (bs p0), .string ⟨#[]⟩, .string ⟨#[]⟩] 34) := (b5.block _ hsW).trans hb7
              have hr5 : Below wr.heap.size wr w5 := hbW.bt b5
              obtain ⟨⟨d0, d1, d2⟩, df0, df1, df2⟩ := block_cells hk7
              obtain ⟨⟨c0, c1, c2⟩, cf0, cf1, cf2⟩ := block_cells (HG.out w5 hB5.out)
              have x0 := (hr5.cell (p := ⟨b, o, none⟩) hbw).trans e0
              have x1 := (hr5.cell (p := ⟨b, o + 1, none⟩) hbw).trans e1
              have x2 := (hr5.cell (p := ⟨b, o + 2, none⟩) hbw).trans e2
              obtain ⟨g7, hg7⟩ : ∃ g7, g7 = wr.heap.size := ⟨_, rfl⟩
              rw [← hg7] at d0 d1 d2 df0 df1 df2 hgw ⊢
              have hne : ¬ w.heap.size = g7 := by omega
              have hne2 : ¬ g7 = w.heap.size := by omega
              clear hW1 hb7 hbW hsW b5 hk7 hr5 hg7
              have hsc : ∀ j, j < 3 → (((w5.setCell ⟨g7, 1, none⟩ (.string (bs p1))).setCell ⟨g7, 2, none⟩ (.string (bs p2))).cell? ⟨w.heap.size, j, none⟩).isSome = true := fun j hj => by rw [cell_away (.inl hne2), cell_away (.inl hne2)]; exact block_some (HG.out w5 hB5.out) j hj
              have hbp := below_put3 (u := .string (bs p0)) (v := .string (bs p1)) (z := .string (bs p2)) (((HB0.out.bt hB5.out).setCell (p := ⟨g7, 1, none⟩) (Nat.le_of_lt hgw) (.string (bs p1))).setCell (p := ⟨g7, 2, none⟩) (Nat.le_of_lt hgw) (.string (bs p2))) (Nat.le_refl _)
              have h3p := three_put (x := bs p0) (y := bs p1) (z := bs p2) hsc
              have hend := And.intro h3p.drew hbp.drew
              clear hsc hbp h3p
              go_wp2_with fail
              go_region
              all_goals go_wp2
              all_goals (try simp only [Exit.inBlock, Exit.then])
              all_goals with_reducible refine bodyPost_ret (results_name rfl _ _ w.heap.size (bs p0) (bs p1) (bs p2) rfl hend.1) rfl ⟨?_, hend.2⟩
              all_goals rw [HF.out]
              all_goals rfl

end Go.Proofs.YtbolkkpgahoeaaaDoor
