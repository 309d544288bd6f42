/- The walks of has, indicated, paired and of the program's Right (layer 18). -/
import Derived.Test.YtimecccphbgdeaaDoorMhs
namespace Go.Proofs.YtimecccphbgdeaaDoor
open Go Go.RowKit

/-- A slice of strings that a call has laid. -/
theorem strs_laid (w : World) (xs : List ByteArray) (T : TypeId) : Strs (w.alloc (.cells (xs.map Value.string).toArray T)) (.slice (some ⟨w.heap.size, 0, none⟩) xs.length xs.length) xs := by
  refine ⟨_, _, rfl, Nat.le_refl _, .inr ⟨w.heap.size, 0, rfl, by rw [World.size_alloc]; exact Nat.lt_succ_self _, fun j x hj => ?_⟩⟩
  rw [Nat.zero_add, Lib.cell_of_heap (heap_alloc_new w _)]
  simp [hj]

set_option maxRecDepth 100000 in
set_option maxHeartbeats 1000000 in
theorem pHas (r : Rec) (a : Option Addr) (n0 c : Nat) (v : Value) (ts : List (List UInt8)) (w : World) (hv : Flds w (.slice a n0 c) r.fields) (hl : r.fields.length ≤ 1000000) (ht : Strs w v (ts.map lb)) (htl : ts.length ≤ 1000000) :
    Calls Tryd.prog 30 #[.agg #[.int .i64 r.id, .int .i64 r.ver, .int .i64 r.kind, .string r.lang, .slice a n0 c], v] w fun e w' => e = .returned (.bool (hasTag ts r.fields)) ∧ Below w.heap.size w w' := by
  obtain ⟨id, ver, kind, lang, l⟩ := r
  simp only at hv hl ⊢
  have hb1 : Below w.heap.size w (recW w id ver kind lang a n0 c) := (Below.refl _ _).alloc (Nat.le_refl _) _
  have hsz : (recW w id ver kind lang a n0 c).heap.size = w.heap.size + 1 := World.size_alloc _ _
  have hb2 : Below w.heap.size w ((recW w id ver kind lang a n0 c).alloc (.cells #[v] 60)) := hb1.alloc hb1.size _
  have hs2 : w.heap.size + 1 < ((recW w id ver kind lang a n0 c).alloc (.cells #[v] 60)).heap.size := by rw [World.size_alloc, hsz]; exact Nat.lt_succ_self _
  have hcl : ((recW w id ver kind lang a n0 c).alloc (.cells #[v] 60)).cell? ⟨w.heap.size + 1, 0, none⟩ = some v := by
    rw [← hsz, Lib.cell_of_heap (heap_alloc_new _ _)]
    rfl
  have hc := fContainsH (.slice a n0 c) l (fun f => ts.contains f.tag) (w.heap.size + 1) ((recW w id ver kind lang a n0 c).alloc (.cells #[v] 60)) (hv.below hb2 (Nat.le_refl _)) hl (fun W hW f _ => cHas f ts v (w.heap.size + 1) W ((hW.cell (p := ⟨w.heap.size + 1, 0, none⟩) hs2).trans hcl) (ht.below (hb2.bt hW) (Nat.le_refl _)) htl)
  obtain ⟨R, hR⟩ : ∃ R, R = l.any fun f => ts.contains f.tag := ⟨_, rfl⟩
  have hR2 : hasTag ts l = R := hR.symm
  rw [← hR] at hc
  rw [hR2]
  have HC := Lib.hid hc
  have HB := Lib.hid hb2
  obtain ⟨-, hn⟩ := hv.len
  obtain ⟨pa, pc, rfl, hpc, -⟩ := ht
  rw [List.length_map] at hpc HC HB ⊢
  obtain ⟨m, hm⟩ : ∃ m, m = ts.length := ⟨_, rfl⟩
  rw [← hm] at hpc HC HB ⊢
  clear hc hb1 hb2 hsz hs2 hcl hR hR2 hv hm
  go_enter Tryd.func30, Tryd.ntmps30
  go_wp2_with fail
  refine HC.out.mono ?_
  rintro e w1 ⟨rfl, b1⟩
  have HB1 := Lib.hid (HB.out.bt b1)
  clear b1
  go_wp2
  go_ret
  exact ⟨rfl, HB1.out⟩

theorem indicated_any (t : List UInt8) (i : Nat) (b : UInt8) (l : List Fld) : indicated t i b l = !l.any (indQ t i b) := by
  unfold indicated indQ
  rw [any_not]
set_option maxRecDepth 100000 in
set_option maxHeartbeats 1000000 in
theorem pIndicated (r : Rec) (a : Option Addr) (n0 c : Nat) (t : List UInt8) (i : Nat) (b : UInt8) (w : World) (hv : Flds w (.slice a n0 c) r.fields) (hl : r.fields.length ≤ 1000000) (hi : i < 2) (hf : ∀ f ∈ r.fields, f.ind.length = 2) :
    Calls Tryd.prog 31 #[.agg #[.int .i64 r.id, .int .i64 r.ver, .int .i64 r.kind, .string r.lang, .slice a n0 c], .string (lb t), .int .i64 (i : Int), .int .u8 ((b.toNat : Nat) : Int)] w fun e w' => e = .returned (.bool (indicated t i b r.fields)) ∧ Below w.heap.size w w' := by
  obtain ⟨id, ver, kind, lang, l⟩ := r
  simp only at hv hl hf ⊢
  rw [indicated_any]
  obtain ⟨T, hT⟩ : ∃ T, T = lb t := ⟨_, rfl⟩
  obtain ⟨y, hy⟩ : ∃ y : Int, y = ((b.toNat : Nat) : Int) := ⟨_, rfl⟩
  rw [← hT, ← hy]
  obtain ⟨W1, hW1⟩ : ∃ W1, W1 = recW w id ver kind lang a n0 c := ⟨_, rfl⟩
  obtain ⟨W2, hW2⟩ : ∃ W2, W2 = W1.alloc (.cells #[.string T] 9) := ⟨_, rfl⟩
  obtain ⟨W3, hW3⟩ : ∃ W3, W3 = W2.alloc (.cells #[.int .i64 (i : Int)] 3) := ⟨_, rfl⟩
  obtain ⟨W4, hW4⟩ : ∃ W4, W4 = W3.alloc (.cells #[.int .u8 y] 5) := ⟨_, rfl⟩
  have s1 : W1.heap.size = w.heap.size + 1 := by rw [hW1]; exact World.size_alloc _ _
  have s2 : W2.heap.size = w.heap.size + 2 := by rw [hW2, World.size_alloc, s1]
  have s3 : W3.heap.size = w.heap.size + 3 := by rw [hW3, World.size_alloc, s2]
  have s4 : W4.heap.size = w.heap.size + 4 := by rw [hW4, World.size_alloc, s3]
  have b1 : Below w.heap.size w W1 := by rw [hW1]; exact (Below.refl _ _).alloc (Nat.le_refl _) _
  have b2 : Below W1.heap.size W1 W2 := by rw [hW2]; exact (Below.refl _ _).alloc (Nat.le_refl _) _
  have b3 : Below W2.heap.size W2 W3 := by rw [hW3]; exact (Below.refl _ _).alloc (Nat.le_refl _) _
  have b4 : Below W3.heap.size W3 W4 := by rw [hW4]; exact (Below.refl _ _).alloc (Nat.le_refl _) _
  have hb : Below w.heap.size w W4 := ((b1.bt b2).bt b3).bt b4
  have c1 : W2.cell? ⟨w.heap.size + 1, 0, none⟩ = some (.string T) := by
    rw [hW2, ← s1, Lib.cell_of_heap (heap_alloc_new _ _)]; rfl
  have c2 : W3.cell? ⟨w.heap.size + 2, 0, none⟩ = some (.int .i64 (i : Int)) := by
    rw [hW3, ← s2, Lib.cell_of_heap (heap_alloc_new _ _)]; rfl
  have c3 : W4.cell? ⟨w.heap.size + 3, 0, none⟩ = some (.int .u8 y) := by
    rw [hW4, ← s3, Lib.cell_of_heap (heap_alloc_new _ _)]; rfl
  have c2' := (b4.cell (p := ⟨w.heap.size + 2, 0, none⟩) (by show w.heap.size + 2 < _; omega)).trans c2
  have c1' := ((b3.bt b4).cell (p := ⟨w.heap.size + 1, 0, none⟩) (by show w.heap.size + 1 < _; omega)).trans c1
  have hc := fContainsI (.slice a n0 c) l (indQ t i b) (w.heap.size + 1) (w.heap.size + 2) (w.heap.size + 3) W4 (hv.below hb (Nat.le_refl _)) hl (fun W hW f hm => cIndicated f t i b (w.heap.size + 1) (w.heap.size + 2) (w.heap.size + 3) W
    ((hW.cell (p := ⟨w.heap.size + 1, 0, none⟩) (by show w.heap.size + 1 < _; omega)).trans (by rw [c1', hT])) ((hW.cell (p := ⟨w.heap.size + 2, 0, none⟩) (by show w.heap.size + 2 < _; omega)).trans c2') ((hW.cell (p := ⟨w.heap.size + 3, 0, none⟩) (by show w.heap.size + 3 < _; omega)).trans (by rw [c3, hy])) hi (hf f hm))
  rw [hW4, hW3, hW2, hW1] at hc hb
  have HC := Lib.hid hc
  have HB := Lib.hid hb
  obtain ⟨R, hR⟩ : ∃ R, R = l.any (indQ t i b) := ⟨_, rfl⟩
  rw [← hR] at HC ⊢
  obtain ⟨-, hn⟩ := hv.len
  clear hc hb hR hv hf hT hy hW1 hW2 hW3 hW4 s1 s2 s3 s4 b1 b2 b3 b4 c1 c2 c3 c1' c2' W1 W2 W3 W4
  go_enter Tryd.func31, Tryd.ntmps31
  go_wp2_with fail
  refine HC.out.mono ?_
  rintro e w1 ⟨rfl, b1⟩
  have HB1 := Lib.hid (HB.out.bt b1)
  clear b1
  go_wp2
  go_ret
  exact ⟨rfl, HB1.out⟩

theorem paired_step {l : List Fld} {k : Nat} {f : Fld} (h : l[k]? = some f) : paired (l.drop k) = if f.tag = t830 then false else if f.tag = t490 then (match l[k + 1]? with | none => false | some g => decide (f.auth = 0) && decide (g.tag = t830) && paired (l.drop (k + 2))) else paired (l.drop (k + 1)) := by
  rw [drop_step h]
  conv => lhs; unfold paired
  cases h1 : l[k + 1]? with
  | none =>
    have : l.drop (k + 1) = [] := List.drop_eq_nil_of_le (by have := List.getElem?_eq_none_iff.1 h1; omega)
    rw [this]
  | some g => rw [drop_step h1]

set_option maxRecDepth 100000 in
set_option maxHeartbeats 2000000 in
theorem pPaired (v : Value) (l : List Fld) (w : World) (hv : Flds w v l) (hl : l.length ≤ 1000000) :
    Calls Tryd.prog 32 #[v] w fun e w' => e = .returned (.bool (paired l)) ∧ w' = w := by
  obtain ⟨⟨pa, pc, rfl, hpc, hcells⟩, -⟩ := hv
  obtain ⟨R, hR⟩ : ∃ R, R = paired l := ⟨_, rfl⟩
  rw [← hR]
  obtain ⟨n, hnn⟩ : ∃ n, n = l.length := ⟨_, rfl⟩
  rw [← hnn] at hl hpc ⊢
  have HN := Lib.hid hnn
  have HC := Lib.hid hcells
  have HR := Lib.hid hR
  clear hnn hcells hR
  go_enter Tryd.func32, Tryd.ntmps32
  go_wp2
  go_loop [3] (fun vk => ∃ k : Nat, vk = .int .i64 k ∧ k ≤ n ∧ Hid (R = paired (l.drop k))) (fun vk => n - (intOf vk).toNat)
  case atStart => exact ⟨0, rfl, by omega, Lib.hid (by rw [HR.out, List.drop_zero])⟩
  case round =>
    obtain ⟨k, rfl, hk, HK⟩ := hrel
    by_cases hlt : k < n
    · have hltz : (k : Int) < (n : Int) := by omega
      obtain ⟨f, hf⟩ : ∃ f, l[k]? = some f := ⟨_, List.getElem?_eq_getElem (by have := HN.out; omega)⟩
      rcases HC.out with h0 | ⟨b, o, rfl, hbl, hcl⟩
      · rw [h0] at hf; cases hf
      have hst := HK.out
      rw [paired_step hf] at hst
      obtain ⟨p0, p1, p2, p3⟩ := four_of (hcl k f hf)
      have e8 := lb_beq f.tag t830
      have e4 := lb_beq f.tag t490
      rw [lb_list t830] at e8
      rw [lb_list t490] at e4
      obtain ⟨T, hT⟩ : ∃ T, T = lb f.tag := ⟨_, rfl⟩
      rw [← hT] at p0 e8 e4
      clear hT p1 p2 HK HR
      by_cases a8 : f.tag = t830
      · rw [if_pos a8] at hst
        have b8 : (T.toList == [56, 51, 48]) = true := by rw [a8] at e8; exact e8.trans (by simp)
        have HF := Lib.hid hst
        clear hst e8 e4 hcl hf a8
        go_wp2
        go_ret
        exact ⟨by rw [HF.out]; rfl, rfl⟩
      · rw [if_neg a8] at hst
        have b8 : (T.toList == [56, 51, 48]) = false := e8.trans (by simpa using a8)
        by_cases a4 : f.tag = t490
        · rw [if_pos a4] at hst
          have b4 : (T.toList == [52, 57, 48]) = true := by rw [a4] at e4; exact e4.trans (by simp)
          clear e8 e4 a8 a4
          obtain ⟨au, hau⟩ : ∃ au, au = f.auth := ⟨_, rfl⟩
          rw [← hau] at p3 hst
          by_cases a0 : au = 0
          · have z0 : (au != 0) = false := by rw [a0]; rfl
            by_cases hk1 : k + 1 < n
            · have hk1z : (((k : Nat) : Int) + 1 == (n : Int)) = false := by
                have : ((k : Nat) : Int) + 1 ≠ (n : Int) := by omega
                simpa using this
              have hk1y : (k : Int) + 1 < (n : Int) := by omega
              obtain ⟨g, hg⟩ : ∃ g, l[k + 1]? = some g := ⟨_, List.getElem?_eq_getElem (by have := HN.out; omega)⟩
              rw [hg] at hst
              have g0 := (four_of (hcl (k + 1) g hg)).c0
              have eg := lb_beq g.tag t830
              rw [lb_list t830] at eg
              obtain ⟨G, hG⟩ : ∃ G, G = lb g.tag := ⟨_, rfl⟩
              rw [← hG] at g0 eg
              by_cases ag : g.tag = t830
              · have bg : (G.toList == [56, 51, 48]) = true := by rw [ag] at eg; exact eg.trans (by simp)
                have HF : Hid (R = paired (l.drop (k + 2))) := Lib.hid (by rw [hst]; simp [a0, ag])
                clear hst hcl hf hg eg ag hG hau a0
                go_wp2
                go_round
                case rel => exact ⟨k + 2, by go_num, by omega, HF⟩
                case measure => simp [intOf]; omega
              · have bg : (G.toList == [56, 51, 48]) = false := eg.trans (by simpa using ag)
                have HF : Hid (R = false) := Lib.hid (by rw [hst]; simp [ag])
                clear hst hcl hf hg eg ag hG hau a0
                go_wp2
                go_ret
                exact ⟨by rw [HF.out]; rfl, rfl⟩
            · have hk1z : (((k : Nat) : Int) + 1 == (n : Int)) = true := by
                have : ((k : Nat) : Int) + 1 = (n : Int) := by omega
                simpa using this
              have hn1 : l[k + 1]? = none := List.getElem?_eq_none (by have := HN.out; omega)
              rw [hn1] at hst
              have HF : Hid (R = false) := Lib.hid hst
              clear hst hcl hf hn1 hau a0
              go_wp2
              go_ret
              exact ⟨by rw [HF.out]; rfl, rfl⟩
          · have z0 : (au != 0) = true := by simpa using a0
            have HF : Hid (R = false) := Lib.hid (by
              rw [hst]
              split
              · rfl
              · simp [a0])
            clear hst hcl hf hau a0
            go_wp2
            go_ret
            exact ⟨by rw [HF.out]; rfl, rfl⟩
        · rw [if_neg a4] at hst
          have b4 : (T.toList == [52, 57, 48]) = false := e4.trans (by simpa using a4)
          have HF := Lib.hid hst
          clear hst e8 e4 a8 a4 hcl hf
          go_wp2
          go_round
          case rel => exact ⟨k + 1, by go_num, by omega, HF⟩
          case measure => simp [intOf]; omega
    · have hltz : ¬ (k : Int) < (n : Int) := by omega
      have HF : Hid (R = true) := Lib.hid (by rw [HK.out, List.drop_eq_nil_of_le (by have := HN.out; omega)]; rfl)
      clear HK HR
      go_wp2
      go_ret
      exact ⟨by rw [HF.out]; rfl, rfl⟩
end Go.Proofs.YtimecccphbgdeaaDoor
