/- The walks of the two Author (layer 08). Plain Lean: the first year in a text (layer 08). No program in sight. The walks of the two functions that find a year in a text (layer 08). The walks of the two Year (layer 08). The walks of the two Subjects (layer 08). -/
import Derived.Test.YtkfjeolpbopcnaaGreatDoorEd
import Derived.Test.YtkfjeolpbopcnaaGreatDoorRinv
import Derived.Test.YtkfjeolpbopcnaaGreatDoorMfp
import Derived.ArgAppend
namespace Go.Proofs.YtkfjeolpbopcnaaGreatDoor
open Go Go.RowKit

/-- The first author: of the first field with each tag in turn. -/
def authP : List ByteArray → List Fld → ByteArray
  | [], _ => ⟨#[]⟩
  | t :: ts, l => match firstF t.data.toList l with
    | some f => if (getF 97 f.subs).2 = true then (getF 97 f.subs).1 else authP ts l
    | none => authP ts l
def tagsA : List ByteArray := [⟨#[49, 48, 48]⟩, ⟨#[49, 49, 48]⟩, ⟨#[55, 48, 48]⟩]
theorem authP_step {ts : List ByteArray} {k : Nat} {t : ByteArray} {l : List Fld} (h : ts[k]? = some t) : authP (ts.drop k) l = match firstF t.data.toList l with
    | some f => if (getF 97 f.subs).2 = true then (getF 97 f.subs).1 else authP (ts.drop (k + 1)) l
    | none => authP (ts.drop (k + 1)) l := by
  rw [drop_step h]; rfl
theorem tags_cells {W : World} {g : Nat} {T : TypeId} (h : W.heap[g]? = some (.cells #[.string ⟨#[49, 48, 48]⟩, .string ⟨#[49, 49, 48]⟩, .string ⟨#[55, 48, 48]⟩] T (0, 0))) : ∀ k t, tagsA[k]? = some t → W.cell? ⟨g, k, none⟩ = some (.string t) := by
  intro k t ht
  rw [Lib.cell_of_heap h]
  have hk : k < 3 := (List.getElem?_eq_some_iff.1 ht).1
  rcases (by omega : k = 0 ∨ k = 1 ∨ k = 2) with rfl | rfl | rfl <;> cases ht <;> rfl

set_option maxRecDepth 100000 in
set_option maxHeartbeats 4000000 in
theorem pAuthor (x : Rcd) (w : World) (hx : RcdAt w x) (hl : x.r.fields.length ≤ 900) (hs : ∀ f ∈ x.r.fields, f.subs.length ≤ 100000) :
    Calls Tryz.prog 29 #[recV5 x] w fun e w' => e = .returned (.string (authP tagsA x.r.fields)) ∧ Below w.heap.size w w' := by
  have HF := Lib.hid (fun (t : ByteArray) W (h : Below w.heap.size w W) => pFirst x t W (RcdAt.below hx h (Nat.le_refl _)) hl)
  have HM := Lib.hid (fun W (h : Below w.heap.size w W) (f : Fld) (hf : f ∈ x.r.fields) => pGet f 97 W ((hx.2 f hf).below h (Nat.le_refl _)) (hs f hf))
  obtain ⟨⟨id, ver, kind, lang, rf⟩, ra, rc⟩ := x
  unfold recV5 at HF ⊢
  simp only at HF HM hl ⊢
  obtain ⟨n, hn⟩ : ∃ n, n = rf.length := ⟨_, rfl⟩
  rw [← hn] at HF hl ⊢
  obtain ⟨R, hR⟩ : ∃ R, R = authP tagsA rf := ⟨_, rfl⟩
  rw [← hR]
  have HR := Lib.hid hR
  obtain ⟨W0, hW0⟩ : ∃ W, W = (w.alloc (recO id ver kind lang ra n rc)).alloc (.cells #[.string ⟨#[49, 48, 48]⟩, .string ⟨#[49, 49, 48]⟩, .string ⟨#[55, 48, 48]⟩] 9) := ⟨_, rfl⟩
  have h0 : W0.heap[w.heap.size]? = some (recO id ver kind lang ra n rc) := by rw [hW0]; exact (alloc_old (by simp)).trans (alloc_at rfl)
  have h1 : W0.heap[w.heap.size + 1]? = some (.cells #[.string ⟨#[49, 48, 48]⟩, .string ⟨#[49, 49, 48]⟩, .string ⟨#[55, 48, 48]⟩] 9 (0, 0)) := by rw [hW0]; exact alloc_at (by simp)
  have hb0 : Below w.heap.size w W0 := by rw [hW0]; exact (Below.refl _ _).alloc2 (Nat.le_refl _) _ _
  have hs0 : W0.heap.size = w.heap.size + 2 := by rw [hW0]; simp
  have HBK : Hid (∀ W, Below W0.heap.size W0 W → W.heap[w.heap.size]? = some (recO id ver kind lang ra n rc) ∧ (∀ k t, tagsA[k]? = some t → W.cell? ⟨w.heap.size + 1, k, none⟩ = some (.string t)) ∧ Below w.heap.size w W) := Lib.hid (fun W h => ⟨(h.block _ (by omega)).trans h0, tags_cells ((h.block _ (by omega)).trans h1), hb0.bt h⟩)
  have HW0 := Lib.hid hW0
  clear hx hs hn hR h0 h1 hb0 hs0
  go_enter Tryz.func29, Tryz.ntmps29
  go_wp2
  go_loopw [11] (fun i wr => ∃ k : Nat, i = .int .i64 k ∧ k ≤ 3 ∧ Hid (R = authP (tagsA.drop k) rf) ∧ Hid (Below W0.heap.size W0 wr)) (fun i _ => 3 - (intOf i).toNat)
  case atStart =>
    rw [← hW0]
    exact ⟨0, rfl, by omega, Lib.hid (by rw [HR.out, List.drop_zero]), Lib.hid (Below.refl _ _)⟩
  case round =>
    clear hW0
    obtain ⟨k, rfl, hk, HK, HB⟩ := hrel
    obtain ⟨wo, rfl⟩ : ∃ W, W = wr := ⟨_, rfl⟩
    obtain ⟨hk0, hk1, hkb⟩ := HBK.out wo HB.out
    by_cases hlt : k < 3
    · have hltz : (k : Int) < 3 := by omega
      obtain ⟨t, ht⟩ : ∃ x, tagsA[k]? = some x := ⟨_, List.getElem?_eq_getElem hlt⟩
      have c1 := hk1 k t ht
      have hst := HK.out
      rw [authP_step ht] at hst
      have d0 := Lib.cell_of_heap hk0 0
      have d1 := Lib.cell_of_heap hk0 1
      have d2 := Lib.cell_of_heap hk0 2
      have d3 := Lib.cell_of_heap hk0 3
      have d4 := Lib.cell_of_heap hk0 4
      have hcall := HF.out t wo hkb
      obtain ⟨O, hO⟩ : ∃ O, O = firstF t.data.toList rf := ⟨_, rfl⟩
      rw [← hO] at hst hcall
      have HKB := Lib.hid hkb
      cases O with
      | none =>
        have HST : Hid (R = authP (tagsA.drop (k + 1)) rf) := Lib.hid hst
        unfold RetFi firstP at hcall
        simp only at hcall
        unfold fldV at hcall
        have HC := Lib.hid hcall
        clear ht hst hcall hO hk0 hk1 hkb HK
        go_wp2_with fail
        refine HC.out.mono ?_
        rintro e w1 ⟨rfl, b1⟩
        have HB1 := Lib.hid (HB.out.bt b1)
        clear b1
        go_wp2
        go_roundw
        case rel => exact ⟨k + 1, by go_num, by omega, HST, Lib.hid (HB1.out.alloc HB1.out.size _)⟩
        case measure => simp [intOf]; omega
      | some f =>
        simp only at hst
        have hfm := (firstF_mem hO.symm).1
        have HG := Lib.hid (fun W h => HM.out W h f hfm)
        unfold RetFi firstP at hcall
        simp only at hcall
        unfold fldV at hcall HG
        unfold RetG at HG
        obtain ⟨G, hG⟩ : ∃ G, G = getF 97 f.subs := ⟨_, rfl⟩
        rw [← hG] at hst HG
        obtain ⟨gv, gb⟩ := G
        simp only at hst HG
        obtain ⟨T, hT⟩ : ∃ T, T = lb f.tag := ⟨_, rfl⟩
        obtain ⟨I, hI⟩ : ∃ I, I = lb f.ind := ⟨_, rfl⟩
        obtain ⟨sn, hsn⟩ : ∃ sn, sn = f.subs.length := ⟨_, rfl⟩
        rw [← hT, ← hI, ← hsn] at hcall HG
        rw [show ((97 : Nat) : Int) = 97 from rfl] at HG
        have HC := Lib.hid hcall
        have HST := Lib.hid hst
        clear ht hst hcall hO hk0 hk1 hkb HK hT hI hsn hG hfm
        go_wp2_with fail
        refine HC.out.mono ?_
        rintro e w1 ⟨rfl, b1⟩
        have HB1 := Lib.hid (HB.out.bt b1)
        clear b1
        have e0 : (w1.alloc (fldO T I f.sa sn f.sc f.auth)).heap[w1.heap.size]? = some (fldO T I f.sa sn f.sc f.auth) := alloc_at rfl
        have s0 := Lib.cell_of_heap e0 0
        have s1 := Lib.cell_of_heap e0 1
        have s2 := Lib.cell_of_heap e0 2
        have s3 := Lib.cell_of_heap e0 3
        have hb2 : Below W0.heap.size W0 (w1.alloc (fldO T I f.sa sn f.sc f.auth)) := HB1.out.alloc HB1.out.size _
        have HG1 := Lib.hid (HG.out _ (HBK.out _ hb2).2.2)
        have HB2 := Lib.hid hb2
        clear e0 hb2
        go_wp2_with fail
        refine HG1.out.mono ?_
        rintro e w2 ⟨rfl, b2⟩
        have HB3 := Lib.hid (HB2.out.bt b2)
        clear b2
        cases gb with
        | true =>
          have HF2 : Hid (R = gv) := Lib.hid (by rw [HST.out]; rfl)
          clear HST
          go_wp2
          go_ret
          exact ⟨by rw [HF2.out]; rfl, (HBK.out _ HB3.out).2.2⟩
        | false =>
          have HF2 : Hid (R = authP (tagsA.drop (k + 1)) rf) := Lib.hid (by rw [HST.out]; rfl)
          clear HST
          go_wp2
          go_roundw
          case rel => exact ⟨k + 1, by go_num, by omega, HF2, HB3⟩
          case measure => simp [intOf]; omega
    · have hltz : ¬ (k : Int) < 3 := by omega
      have HF2 : Hid (R = ⟨#[]⟩) := Lib.hid (by rw [HK.out, List.drop_eq_nil_of_le (show tagsA.length ≤ k by show 3 ≤ k; omega)]; rfl)
      have HKB := Lib.hid hkb
      clear HK hk0 hk1 hkb
      go_wp2
      go_ret
      exact ⟨by rw [HF2.out]; rfl, HKB.out⟩

set_option maxRecDepth 100000 in
set_option maxHeartbeats 4000000 in
theorem rAuthor (x : Rcd) (w : World) (hx : RcdAt w x) (hl : x.r.fields.length ≤ 900) (hs : ∀ f ∈ x.r.fields, f.subs.length ≤ 100000) (htg : ∀ f ∈ x.r.fields, f.tag.length = 3) :
    Calls Tryz.prog 30 #[recV5 x] w fun e w' => e = .returned (.string (authP tagsA x.r.fields)) ∧ Below w.heap.size w w' := by
  have HF := Lib.hid (fun (t : ByteArray) W (h : Below w.heap.size w W) => rFields x t W (RcdAt.below hx h (Nat.le_refl _)) hl)
  have HM := Lib.hid (fun W (h : Below w.heap.size w W) (f : Fld) (hf : f ∈ x.r.fields) => rGet f 97 W ((hx.2 f hf).below h (Nat.le_refl _)) (hs f hf))
  have HFI : Hid (∀ t ∈ tagsA, (begL t.data.toList x.r.fields).head? = firstF t.data.toList x.r.fields) := Lib.hid (fun t ht => begL_first (fun f hf => by
    rw [htg f hf]
    simp only [tagsA, List.mem_cons, List.not_mem_nil, or_false] at ht
    rcases ht with rfl | rfl | rfl <;> rfl))
  obtain ⟨⟨id, ver, kind, lang, rf⟩, ra, rc⟩ := x
  unfold recV5 at HF ⊢
  simp only at HF HM HFI hl ⊢
  obtain ⟨n, hn⟩ : ∃ n, n = rf.length := ⟨_, rfl⟩
  rw [← hn] at HF hl ⊢
  obtain ⟨R, hR⟩ : ∃ R, R = authP tagsA rf := ⟨_, rfl⟩
  rw [← hR]
  have HR := Lib.hid hR
  obtain ⟨W0, hW0⟩ : ∃ W, W = (w.alloc (recO id ver kind lang ra n rc)).alloc (.cells #[.string ⟨#[49, 48, 48]⟩, .string ⟨#[49, 49, 48]⟩, .string ⟨#[55, 48, 48]⟩] 9) := ⟨_, rfl⟩
  have h0 : W0.heap[w.heap.size]? = some (recO id ver kind lang ra n rc) := by rw [hW0]; exact (alloc_old (by simp)).trans (alloc_at rfl)
  have h1 : W0.heap[w.heap.size + 1]? = some (.cells #[.string ⟨#[49, 48, 48]⟩, .string ⟨#[49, 49, 48]⟩, .string ⟨#[55, 48, 48]⟩] 9 (0, 0)) := by rw [hW0]; exact alloc_at (by simp)
  have hb0 : Below w.heap.size w W0 := by rw [hW0]; exact (Below.refl _ _).alloc2 (Nat.le_refl _) _ _
  have hs0 : W0.heap.size = w.heap.size + 2 := by rw [hW0]; simp
  have HBK : Hid (∀ W, Below W0.heap.size W0 W → W.heap[w.heap.size]? = some (recO id ver kind lang ra n rc) ∧ (∀ k t, tagsA[k]? = some t → W.cell? ⟨w.heap.size + 1, k, none⟩ = some (.string t)) ∧ Below w.heap.size w W) := Lib.hid (fun W h => ⟨(h.block _ (by omega)).trans h0, tags_cells ((h.block _ (by omega)).trans h1), hb0.bt h⟩)
  have HW0 := Lib.hid hW0
  clear hx hs hn hR h0 h1 hb0 hs0 htg
  go_enter Tryz.func30, Tryz.ntmps30
  go_wp2
  go_loopw [4] (fun i wr => ∃ k : Nat, i = .int .i64 k ∧ k ≤ 3 ∧ Hid (R = authP (tagsA.drop k) rf) ∧ Hid (Below W0.heap.size W0 wr)) (fun i _ => 3 - (intOf i).toNat)
  case atStart =>
    rw [← hW0]
    exact ⟨0, rfl, by omega, Lib.hid (by rw [HR.out, List.drop_zero]), Lib.hid (Below.refl _ _)⟩
  case round =>
    clear hW0
    obtain ⟨k, rfl, hk, HK, HB⟩ := hrel
    obtain ⟨wo, rfl⟩ : ∃ W, W = wr := ⟨_, rfl⟩
    by_cases hlt : k < 3
    · have hltz : (k : Int) < 3 := by omega
      obtain ⟨t, ht⟩ : ∃ x, tagsA[k]? = some x := ⟨_, List.getElem?_eq_getElem hlt⟩
      have hst := HK.out
      rw [authP_step ht] at hst
      have htm := List.mem_of_getElem? ht
      have hfi := HFI.out t htm
      have hcall : ∀ W, Below W0.heap.size W0 W → _ := fun W h => HF.out t W (HBK.out W h).2.2
      obtain ⟨L, hL⟩ : ∃ L, L = begL t.data.toList rf := ⟨_, rfl⟩
      rw [← hL] at hfi hcall
      rw [← hfi] at hst
      obtain ⟨hk0, hk1, hkb⟩ := HBK.out wo HB.out
      have c1 := hk1 k t ht
      have d0 := Lib.cell_of_heap hk0 0
      have d1 := Lib.cell_of_heap hk0 1
      have d2 := Lib.cell_of_heap hk0 2
      have d3 := Lib.cell_of_heap hk0 3
      have d4 := Lib.cell_of_heap hk0 4
      have HC := Lib.hid (hcall _ HB.out.drew)
      have HST := Lib.hid hst
      have HL := Lib.hid hL
      clear ht hst htm hfi hcall hL hk0 hk1 hkb HK
      go_wp2_with fail
      go_region_with (go_at_call 19
                      refine HC.out.mono ?_
                      rintro e w1 ⟨v, rfl, hv, b1⟩
                      have HV := Lib.hid hv
                      have HB1 := Lib.hid (HB.out.drew.bt b1)
                      clear hv b1)
      all_goals
        obtain ⟨⟨va, vc, rfl, hvc, hcl⟩, hmem⟩ := HV.out
        cases L with
        | nil =>
          have HST2 : Hid (R = authP (tagsA.drop (k + 1)) rf) := Lib.hid HST.out
          clear hcl hmem
          go_wp2
          go_roundw
          case rel => exact ⟨k + 1, by go_num, by omega, HST2, HB1⟩
          case measure => simp [intOf]; omega
        | cons f L =>
          have hst := HST.out
          simp only [List.head?_cons] at hst
          have hfm : f ∈ rf := by
            have : f ∈ begL t.data.toList rf := by rw [← HL.out]; simp
            exact (List.mem_filter.1 this).1
          have hget := HM.out w1 (HBK.out w1 HB1.out).2.2 f hfm
          unfold RetG at hget
          unfold fldV at hget
          obtain ⟨G, hG⟩ : ∃ G, G = getF 97 f.subs := ⟨_, rfl⟩
          rw [← hG] at hst hget
          obtain ⟨gv, gb⟩ := G
          simp only at hst hget
          rcases hcl with h0 | ⟨b, o, rfl, hb1, hcells1⟩
          · cases h0
          obtain ⟨q0, q1, q2, q3⟩ := four_of (hcells1 0 f rfl)
          rw [Nat.zero_mul, Nat.add_zero] at q0 q1 q2 q3
          obtain ⟨T, hT⟩ : ∃ T, T = lb f.tag := ⟨_, rfl⟩
          obtain ⟨I, hI⟩ : ∃ I, I = lb f.ind := ⟨_, rfl⟩
          obtain ⟨sn, hsn⟩ : ∃ sn, sn = f.subs.length := ⟨_, rfl⟩
          rw [← hT, ← hI, ← hsn] at hget
          rw [← hT] at q0
          rw [← hI] at q1
          rw [← hsn] at q2
          rw [show ((97 : Nat) : Int) = 97 from rfl] at hget
          obtain ⟨m, hm⟩ : ∃ m, m = L.length := ⟨_, rfl⟩
          rw [List.length_cons, ← hm] at hvc ⊢
          have hm1 : (0 : Int) < (m : Int) + 1 := by omega
          have HG1 := Lib.hid hget
          have HST2 := Lib.hid hst
          clear hst hget hG hfm hT hI hsn hm hcells1 hmem hvc
          go_wp2_with fail
          refine HG1.out.mono ?_
          rintro e w2 ⟨rfl, b2⟩
          have HB3 := Lib.hid (HB1.out.bt b2)
          clear b2
          cases gb with
          | true =>
            have HF2 : Hid (R = gv) := Lib.hid (by rw [HST2.out]; rfl)
            clear HST2
            go_wp2
            go_ret
            exact ⟨by rw [HF2.out]; rfl, (HBK.out _ HB3.out).2.2⟩
          | false =>
            have HF2 : Hid (R = authP (tagsA.drop (k + 1)) rf) := Lib.hid (by rw [HST2.out]; rfl)
            clear HST2
            go_wp2
            go_roundw
            case rel => exact ⟨k + 1, by go_num, by omega, HF2, HB3⟩
            case measure => simp [intOf]; omega
    · have hltz : ¬ (k : Int) < 3 := by omega
      have HF2 : Hid (R = ⟨#[]⟩) := Lib.hid (by rw [HK.out, List.drop_eq_nil_of_le (show tagsA.length ≤ k by show 3 ≤ k; omega)]; rfl)
      clear HK
      go_wp2
      go_ret
      exact ⟨by rw [HF2.out]; rfl, (HBK.out wo HB.out).2.2⟩
end Go.Proofs.YtkfjeolpbopcnaaGreatDoor
namespace Go.Proofs.YtkfjeolpbopcnaaGreatDoor
open Go

def yrR : List UInt8 → Int → Nat → Int
  | [], n, d => if d = 4 ∧ 1000 ≤ n ∧ n ≤ 2199 then n else 0
  | b :: r, n, d => if dgB b = true then yrR r (if d < 4 then n * 10 + ((b.toNat : Int) - 48) else n) (d + 1) else if d = 4 ∧ 1000 ≤ n ∧ n ≤ 2199 then n else yrR r 0 0
def accY : List UInt8 → Int → Nat → Int
  | [], n, _ => n
  | b :: r, n, d => accY r (if d < 4 then n * 10 + ((b.toNat : Int) - 48) else n) (d + 1)
theorem yr_digits : ∀ (p r : List UInt8) (n : Int) (d : Nat), (∀ b ∈ p, dgB b = true) → yrR (p ++ r) n d = yrR r (accY p n d) (d + p.length)
  | [], _, _, _, _ => rfl
  | b :: p, r, n, d, h => by
    have ih := yr_digits p r (if d < 4 then n * 10 + ((b.toNat : Int) - 48) else n) (d + 1) (fun x hx => h x (List.mem_cons_of_mem _ hx))
    rw [List.cons_append, yrR, if_pos (h b (by simp)), ih, accY, List.length_cons, show d + 1 + p.length = d + (p.length + 1) by omega]
theorem yr_run {l : List UInt8} {k : Nat} (hk : k ≤ l.length) (h1 : ∀ b ∈ l.take k, dgB b = true) (h2 : l[k]? = none ∨ ∃ b, l[k]? = some b ∧ dgB b = false) :
    yrR l 0 0 = if k = 4 ∧ 1000 ≤ accY (l.take k) 0 0 ∧ accY (l.take k) 0 0 ≤ 2199 then accY (l.take k) 0 0 else yrR (l.drop (k + 1)) 0 0 := by
  have e : yrR l 0 0 = yrR (l.drop k) (accY (l.take k) 0 0) k := by
    have := yr_digits (l.take k) (l.drop k) 0 0 h1
    rw [List.take_append_drop, List.length_take, Nat.zero_add, Nat.min_eq_left hk] at this
    exact this
  rw [e]
  rcases h2 with h | ⟨b, h, hb⟩
  · have hl := List.getElem?_eq_none_iff.1 h
    rw [List.drop_eq_nil_of_le hl, List.drop_eq_nil_of_le (by omega)]
    unfold yrR
    simp
  · rw [drop_step h, yrR, if_neg (by rw [hb]; decide)]
theorem yr_range : ∀ (l : List UInt8) (n : Int) (d : Nat), yrR l n d = 0 ∨ (1000 ≤ yrR l n d ∧ yrR l n d ≤ 2199)
  | [], n, d => by
    unfold yrR
    split
    · omega
    · exact .inl rfl
  | b :: r, n, d => by
    unfold yrR
    split
    · exact yr_range r _ _
    · split
      · omega
      · exact yr_range r _ _
theorem accY_four (a b c d : UInt8) : accY [a, b, c, d] 0 0 = ((a.toNat : Int) - 48) * 1000 + ((b.toNat : Int) - 48) * 100 + ((c.toNat : Int) - 48) * 10 + ((d.toNat : Int) - 48) := by
  simp only [accY, Nat.reduceLT, if_true, Nat.reduceAdd, Nat.zero_add]
  simp
  omega
/-- The first year of texts; of fields. -/
def yrs : List ByteArray → Int
  | [] => 0
  | x :: r => if yrR x.data.toList 0 0 ≠ 0 then yrR x.data.toList 0 0 else yrs r
theorem yrs_step {l : List ByteArray} {k : Nat} {x : ByteArray} (h : l[k]? = some x) : yrs (l.drop k) = if yrR x.data.toList 0 0 ≠ 0 then yrR x.data.toList 0 0 else yrs (l.drop (k + 1)) := by
  rw [drop_step h]; rfl
theorem yrs_end {l : List ByteArray} {k : Nat} (h : l.length ≤ k) : yrs (l.drop k) = 0 := by
  rw [List.drop_eq_nil_of_le h]; rfl
end Go.Proofs.YtkfjeolpbopcnaaGreatDoor
namespace Go.Proofs.YtkfjeolpbopcnaaGreatDoor
open Go Go.RowKit

theorem byte_at {s : ByteArray} {k : Nat} (h : k < s.size) : s.data.toList[k]? = some s[k] := by
  rw [List.getElem?_eq_getElem (by rw [len_data]; exact h), Array.getElem_toList]; rfl
theorem dg_range {b : UInt8} (h : dgB b = true) : 48 ≤ (b.toNat : Int) ∧ (b.toNat : Int) ≤ 57 := by
  have := of_decide_eq_true h
  omega

set_option maxRecDepth 100000 in
set_option maxHeartbeats 4000000 in
theorem pYearIn (s : ByteArray) (w : World) (hs : s.size ≤ 1000000) :
    Calls Tryz.prog 60 #[.string s] w fun e w' => e = .returned (.int .i64 (yrR s.data.toList 0 0)) ∧ Dr w w' := by
  obtain ⟨R, hR⟩ : ∃ R, R = yrR s.data.toList 0 0 := ⟨_, rfl⟩
  rw [← hR]
  have HR0 := Lib.hid hR
  clear hR
  go_enter Tryz.func60, Tryz.ntmps60
  go_wp2
  go_loopw [3] (fun vi wr => ∃ i : Nat, vi = .int .i64 i ∧ i ≤ s.size + 1 ∧ Hid (R = yrR (s.data.toList.drop i) 0 0) ∧ Hid (Dr w wr)) (fun vi _ => s.size + 1 - (intOf vi).toNat)
  case atStart => exact ⟨0, rfl, by omega, Lib.hid (by rw [HR0.out, List.drop_zero]), Lib.hid (Dr.refl _)⟩
  case round =>
    obtain ⟨i, rfl, hi, HR, HW⟩ := hrel
    obtain ⟨wo, rfl⟩ : ∃ W, W = wr := ⟨_, rfl⟩
    by_cases hlt : i < s.size
    · have hltz : (i : Int) < (s.size : Int) := by omega
      go_wp2
      go_loopw [4] (fun vk wj => ∃ k : Nat, vk = .int .i64 k ∧ i ≤ k ∧ k ≤ s.size ∧ wj = wo ∧ Hid (∀ b ∈ (s.data.toList.drop i).take (k - i), dgB b = true)) (fun vk _ => s.size - (intOf vk).toNat)
      case atStart => exact ⟨i, rfl, Nat.le_refl _, by omega, rfl, Lib.hid (by rw [Nat.sub_self, List.take_zero]; simp)⟩
      case round =>
        obtain ⟨k, rfl, hik, hks, rfl, HD⟩ := hrel
        by_cases hkl : k < s.size
        · have hkz : (k : Int) < (s.size : Int) := by omega
          have hat : (s.data.toList.drop i)[k - i]? = some s[k] := by rw [List.getElem?_drop, show i + (k - i) = k by omega]; exact byte_at hkl
          by_cases h48 : (48 : Int) ≤ (s[k].toNat : Int)
          · by_cases h57 : (s[k].toNat : Int) ≤ 57
            · have HD2 : Hid (∀ b ∈ (s.data.toList.drop i).take (k + 1 - i), dgB b = true) := Lib.hid (by
                rw [show k + 1 - i = k - i + 1 by omega, List.take_add_one, hat]
                intro b hb
                rcases List.mem_append.1 hb with hb | hb
                · exact HD.out b hb
                · simp at hb
                  subst hb
                  exact decide_eq_true (by omega))
              clear hat HD
              go_wp2
              go_roundw
              case rel => exact ⟨k + 1, by go_num, by omega, by omega, trivial, HD2⟩
              case measure => simp [intOf]; omega
            · have H2 : Hid ((s.data.toList.drop i)[k - i]? = none ∨ ∃ b, (s.data.toList.drop i)[k - i]? = some b ∧ dgB b = false) := Lib.hid (.inr ⟨_, hat, decide_eq_false (by omega)⟩)
              clear hat
              have hdl : k - i ≤ (s.data.toList.drop i).length := by rw [List.length_drop, len_data]; omega
              have hst := yr_run hdl HD.out H2.out
              rw [← HR.out] at hst
              rw [List.drop_drop, show i + (k - i + 1) = k + 1 by omega] at hst
              by_cases hk4 : k = i + 4
              · subst hk4
                have hb0 : i < s.size := by omega
                have hb1 : i + 1 < s.size := by omega
                have hb2 : i + 2 < s.size := by omega
                have hb3 : i + 3 < s.size := by omega
                rw [show i + 4 - i = 4 by omega] at hst
                have hdig : ∀ b ∈ (s.data.toList.drop i).take 4, dgB b = true := by have := HD.out; rwa [show i + 4 - i = 4 by omega] at this
                have htake : (s.data.toList.drop i).take 4 = [s[i], s[i + 1], s[i + 2], s[i + 3]] := by
                  rw [drop_step (byte_at hb0), drop_step (byte_at hb1), drop_step (byte_at hb2), drop_step (byte_at hb3)]
                  rfl
                rw [htake] at hdig hst
                have g0 := dg_range (hdig s[i] (by simp))
                have g1 := dg_range (hdig s[i + 1] (by simp))
                have g2 := dg_range (hdig s[i + 2] (by simp))
                have g3 := dg_range (hdig s[i + 3] (by simp))
                rw [accY_four] at hst
                have i1 : (i : Int) + 1 < (s.size : Int) := by omega
                have i2 : (i : Int) + 2 < (s.size : Int) := by omega
                have i3 : (i : Int) + 3 < (s.size : Int) := by omega
                have t1 : ((i : Int) + 1).toNat = i + 1 := by omega
                have t2 : ((i : Int) + 2).toNat = i + 2 := by omega
                have t3 : ((i : Int) + 3).toNat = i + 3 := by omega
                have z0 : (0 : Int) ≤ (i : Int) := by omega
                have z1 : (0 : Int) ≤ (i : Int) + 1 := by omega
                have z2 : (0 : Int) ≤ (i : Int) + 2 := by omega
                have z3 : (0 : Int) ≤ (i : Int) + 3 := by omega
                have hdiff : (((i + 4 : Nat) : Int) - (i : Int) == 4) = true := by rw [beq_iff_eq]; omega
                have HST := Lib.hid hst
                clear hst htake hdig hdl H2 HD HR
                go_wp2_with fail
                go_quiet (fail)
                have hst := HST.out
                obtain ⟨Y, hY⟩ : ∃ Y, Y = ((s[i].toNat : Int) - 48) * 1000 + ((s[i + 1].toNat : Int) - 48) * 100 + ((s[i + 2].toNat : Int) - 48) * 10 + ((s[i + 3].toNat : Int) - 48) := ⟨_, rfl⟩
                rw [← hY] at hst ⊢
                have HW2 : Hid (Dr w (wr.drewN nq)) := Lib.hid (HW.out.trans ⟨_, rfl⟩)
                clear hY HST
                by_cases hy1 : 1000 ≤ Y
                · by_cases hy2 : Y ≤ 2199
                  · have HF : Hid (R = Y) := Lib.hid (by rw [hst, if_pos (by refine ⟨?_, hy1, hy2⟩; first | trivial | rfl)])
                    clear hst
                    go_wp2
                    go_ret
                    exact ⟨by rw [HF.out]; rfl, HW2.out⟩
                  · have HF : Hid (R = yrR (s.data.toList.drop (i + 4 + 1)) 0 0) := Lib.hid (by rw [hst, if_neg (by omega)])
                    clear hst
                    go_wp2
                    go_roundw
                    case rel => exact ⟨i + 4 + 1, by go_num, by omega, HF, HW2⟩
                    case measure => simp [intOf]; omega
                · have HF : Hid (R = yrR (s.data.toList.drop (i + 4 + 1)) 0 0) := Lib.hid (by rw [hst, if_neg (by omega)])
                  clear hst
                  go_wp2
                  go_roundw
                  case rel => exact ⟨i + 4 + 1, by go_num, by omega, HF, HW2⟩
                  case measure => simp [intOf]; omega
              · have hdiff : ((k : Int) - (i : Int) == 4) = false := by rw [beq_eq_false_iff_ne]; omega
                have HF : Hid (R = yrR (s.data.toList.drop (k + 1)) 0 0) := Lib.hid (by rw [hst, if_neg (by omega)])
                clear hst hdl H2 HD HR
                go_wp2
                go_roundw
                case rel => exact ⟨k + 1, by go_num, by omega, HF, HW⟩
                case measure => simp [intOf]; omega
          · have H2 : Hid ((s.data.toList.drop i)[k - i]? = none ∨ ∃ b, (s.data.toList.drop i)[k - i]? = some b ∧ dgB b = false) := Lib.hid (.inr ⟨_, hat, decide_eq_false (by omega)⟩)
            clear hat
            have hdl : k - i ≤ (s.data.toList.drop i).length := by rw [List.length_drop, len_data]; omega
            have hst := yr_run hdl HD.out H2.out
            rw [← HR.out] at hst
            rw [List.drop_drop, show i + (k - i + 1) = k + 1 by omega] at hst
            by_cases hk4 : k = i + 4
            · subst hk4
              have hb0 : i < s.size := by omega
              have hb1 : i + 1 < s.size := by omega
              have hb2 : i + 2 < s.size := by omega
              have hb3 : i + 3 < s.size := by omega
              rw [show i + 4 - i = 4 by omega] at hst
              have hdig : ∀ b ∈ (s.data.toList.drop i).take 4, dgB b = true := by have := HD.out; rwa [show i + 4 - i = 4 by omega] at this
              have htake : (s.data.toList.drop i).take 4 = [s[i], s[i + 1], s[i + 2], s[i + 3]] := by
                rw [drop_step (byte_at hb0), drop_step (byte_at hb1), drop_step (byte_at hb2), drop_step (byte_at hb3)]
                rfl
              rw [htake] at hdig hst
              have g0 := dg_range (hdig s[i] (by simp))
              have g1 := dg_range (hdig s[i + 1] (by simp))
              have g2 := dg_range (hdig s[i + 2] (by simp))
              have g3 := dg_range (hdig s[i + 3] (by simp))
              rw [accY_four] at hst
              have i1 : (i : Int) + 1 < (s.size : Int) := by omega
              have i2 : (i : Int) + 2 < (s.size : Int) := by omega
              have i3 : (i : Int) + 3 < (s.size : Int) := by omega
              have t1 : ((i : Int) + 1).toNat = i + 1 := by omega
              have t2 : ((i : Int) + 2).toNat = i + 2 := by omega
              have t3 : ((i : Int) + 3).toNat = i + 3 := by omega
              have z0 : (0 : Int) ≤ (i : Int) := by omega
              have z1 : (0 : Int) ≤ (i : Int) + 1 := by omega
              have z2 : (0 : Int) ≤ (i : Int) + 2 := by omega
              have z3 : (0 : Int) ≤ (i : Int) + 3 := by omega
              have hdiff : (((i + 4 : Nat) : Int) - (i : Int) == 4) = true := by rw [beq_iff_eq]; omega
              have HST := Lib.hid hst
              clear hst htake hdig hdl H2 HD HR
              go_wp2_with fail
              go_quiet (fail)
              have hst := HST.out
              obtain ⟨Y, hY⟩ : ∃ Y, Y = ((s[i].toNat : Int) - 48) * 1000 + ((s[i + 1].toNat : Int) - 48) * 100 + ((s[i + 2].toNat : Int) - 48) * 10 + ((s[i + 3].toNat : Int) - 48) := ⟨_, rfl⟩
              rw [← hY] at hst ⊢
              have HW2 : Hid (Dr w (wr.drewN nq)) := Lib.hid (HW.out.trans ⟨_, rfl⟩)
              clear hY HST
              by_cases hy1 : 1000 ≤ Y
              · by_cases hy2 : Y ≤ 2199
                · have HF : Hid (R = Y) := Lib.hid (by rw [hst, if_pos (by refine ⟨?_, hy1, hy2⟩; first | trivial | rfl)])
                  clear hst
                  go_wp2
                  go_ret
                  exact ⟨by rw [HF.out]; rfl, HW2.out⟩
                · have HF : Hid (R = yrR (s.data.toList.drop (i + 4 + 1)) 0 0) := Lib.hid (by rw [hst, if_neg (by omega)])
                  clear hst
                  go_wp2
                  go_roundw
                  case rel => exact ⟨i + 4 + 1, by go_num, by omega, HF, HW2⟩
                  case measure => simp [intOf]; omega
              · have HF : Hid (R = yrR (s.data.toList.drop (i + 4 + 1)) 0 0) := Lib.hid (by rw [hst, if_neg (by omega)])
                clear hst
                go_wp2
                go_roundw
                case rel => exact ⟨i + 4 + 1, by go_num, by omega, HF, HW2⟩
                case measure => simp [intOf]; omega
            · have hdiff : ((k : Int) - (i : Int) == 4) = false := by rw [beq_eq_false_iff_ne]; omega
              have HF : Hid (R = yrR (s.data.toList.drop (k + 1)) 0 0) := Lib.hid (by rw [hst, if_neg (by omega)])
              clear hst hdl H2 HD HR
              go_wp2
              go_roundw
              case rel => exact ⟨k + 1, by go_num, by omega, HF, HW⟩
              case measure => simp [intOf]; omega
        · have hkz : ¬ (k : Int) < (s.size : Int) := by omega
          have H2 : Hid ((s.data.toList.drop i)[k - i]? = none ∨ ∃ b, (s.data.toList.drop i)[k - i]? = some b ∧ dgB b = false) := Lib.hid (.inl (by rw [List.getElem?_drop, List.getElem?_eq_none (by rw [len_data]; omega)]))
          have hdl : k - i ≤ (s.data.toList.drop i).length := by rw [List.length_drop, len_data]; omega
          have hst := yr_run hdl HD.out H2.out
          rw [← HR.out] at hst
          rw [List.drop_drop, show i + (k - i + 1) = k + 1 by omega] at hst
          by_cases hk4 : k = i + 4
          · subst hk4
            have hb0 : i < s.size := by omega
            have hb1 : i + 1 < s.size := by omega
            have hb2 : i + 2 < s.size := by omega
            have hb3 : i + 3 < s.size := by omega
            rw [show i + 4 - i = 4 by omega] at hst
            have hdig : ∀ b ∈ (s.data.toList.drop i).take 4, dgB b = true := by have := HD.out; rwa [show i + 4 - i = 4 by omega] at this
            have htake : (s.data.toList.drop i).take 4 = [s[i], s[i + 1], s[i + 2], s[i + 3]] := by
              rw [drop_step (byte_at hb0), drop_step (byte_at hb1), drop_step (byte_at hb2), drop_step (byte_at hb3)]
              rfl
            rw [htake] at hdig hst
            have g0 := dg_range (hdig s[i] (by simp))
            have g1 := dg_range (hdig s[i + 1] (by simp))
            have g2 := dg_range (hdig s[i + 2] (by simp))
            have g3 := dg_range (hdig s[i + 3] (by simp))
            rw [accY_four] at hst
            have i1 : (i : Int) + 1 < (s.size : Int) := by omega
            have i2 : (i : Int) + 2 < (s.size : Int) := by omega
            have i3 : (i : Int) + 3 < (s.size : Int) := by omega
            have t1 : ((i : Int) + 1).toNat = i + 1 := by omega
            have t2 : ((i : Int) + 2).toNat = i + 2 := by omega
            have t3 : ((i : Int) + 3).toNat = i + 3 := by omega
            have z0 : (0 : Int) ≤ (i : Int) := by omega
            have z1 : (0 : Int) ≤ (i : Int) + 1 := by omega
            have z2 : (0 : Int) ≤ (i : Int) + 2 := by omega
            have z3 : (0 : Int) ≤ (i : Int) + 3 := by omega
            have hdiff : (((i + 4 : Nat) : Int) - (i : Int) == 4) = true := by rw [beq_iff_eq]; omega
            have HST := Lib.hid hst
            clear hst htake hdig hdl H2 HD HR
            go_wp2_with fail
            go_quiet (fail)
            have hst := HST.out
            obtain ⟨Y, hY⟩ : ∃ Y, Y = ((s[i].toNat : Int) - 48) * 1000 + ((s[i + 1].toNat : Int) - 48) * 100 + ((s[i + 2].toNat : Int) - 48) * 10 + ((s[i + 3].toNat : Int) - 48) := ⟨_, rfl⟩
            rw [← hY] at hst ⊢
            have HW2 : Hid (Dr w (wr.drewN nq)) := Lib.hid (HW.out.trans ⟨_, rfl⟩)
            clear hY HST
            by_cases hy1 : 1000 ≤ Y
            · by_cases hy2 : Y ≤ 2199
              · have HF : Hid (R = Y) := Lib.hid (by rw [hst, if_pos (by refine ⟨?_, hy1, hy2⟩; first | trivial | rfl)])
                clear hst
                go_wp2
                go_ret
                exact ⟨by rw [HF.out]; rfl, HW2.out⟩
              · have HF : Hid (R = yrR (s.data.toList.drop (i + 4 + 1)) 0 0) := Lib.hid (by rw [hst, if_neg (by omega)])
                clear hst
                go_wp2
                go_roundw
                case rel => exact ⟨i + 4 + 1, by go_num, by omega, HF, HW2⟩
                case measure => simp [intOf]; omega
            · have HF : Hid (R = yrR (s.data.toList.drop (i + 4 + 1)) 0 0) := Lib.hid (by rw [hst, if_neg (by omega)])
              clear hst
              go_wp2
              go_roundw
              case rel => exact ⟨i + 4 + 1, by go_num, by omega, HF, HW2⟩
              case measure => simp [intOf]; omega
          · have hdiff : ((k : Int) - (i : Int) == 4) = false := by rw [beq_eq_false_iff_ne]; omega
            have HF : Hid (R = yrR (s.data.toList.drop (k + 1)) 0 0) := Lib.hid (by rw [hst, if_neg (by omega)])
            clear hst hdl H2 HD HR
            go_wp2
            go_roundw
            case rel => exact ⟨k + 1, by go_num, by omega, HF, HW⟩
            case measure => simp [intOf]; omega
    · have hltz : ¬ (i : Int) < (s.size : Int) := by omega
      have HF : Hid (R = 0) := Lib.hid (by rw [HR.out, List.drop_eq_nil_of_le (by rw [len_data]; omega)]; rfl)
      clear HR
      go_wp2
      go_ret
      exact ⟨by rw [HF.out]; rfl, HW.out⟩

set_option maxRecDepth 100000 in
set_option maxHeartbeats 4000000 in
theorem rYearIn (s : ByteArray) (w : World) (hs : s.size ≤ 1000000) :
    Calls Tryz.prog 62 #[.string s] w fun e w' => e = .returned (.int .i64 (yrR s.data.toList 0 0)) ∧ w' = w := by
  obtain ⟨R, hR⟩ : ∃ R, R = yrR s.data.toList 0 0 := ⟨_, rfl⟩
  rw [← hR]
  have HR0 := Lib.hid hR
  clear hR
  go_enter Tryz.func62, Tryz.ntmps62
  go_wp2
  go_loopw [3, 4, 5] (fun vn vd vi wr => ∃ (n : Int) (d i : Nat), vn = .int .i64 n ∧ vd = .int .i64 d ∧ vi = .int .i64 i ∧ i ≤ s.size + 1 ∧ wr = w ∧ d ≤ i ∧ 0 ≤ n ∧ n ≤ 9999 ∧ (d = 0 → n ≤ 0) ∧ (d = 1 → n ≤ 9) ∧ (d = 2 → n ≤ 99) ∧ (d = 3 → n ≤ 999) ∧ Hid (i ≤ s.size → R = yrR (s.data.toList.drop i) n d) ∧ Hid (i = s.size + 1 → R = 0)) (fun _ _ vi _ => s.size + 1 - (intOf vi).toNat)
  case atStart => exact ⟨0, 0, 0, rfl, rfl, rfl, by omega, rfl, by omega, by omega, by omega, by omega, by omega, by omega, by omega, Lib.hid (by intro _; rw [HR0.out, List.drop_zero]), Lib.hid (by intro h; omega)⟩
  case round =>
    obtain ⟨n, d, i, rfl, rfl, rfl, hi, rfl, hd, hn0, hn9, hd0, hd1, hd2, hd3, HR, HE⟩ := hrel
    by_cases hle : i ≤ s.size
    · have hlez : (i : Int) ≤ (s.size : Int) := by omega
      have hst := HR.out hle
      by_cases hlt : i < s.size
      · have hltz : (i : Int) < (s.size : Int) := by omega
        rw [drop_step (byte_at hlt), yrR] at hst
        by_cases h48 : (48 : Int) ≤ (s[i].toNat : Int)
        · by_cases h57 : (s[i].toNat : Int) ≤ 57
          · rw [if_pos (show dgB s[i] = true from decide_eq_true (by omega))] at hst
            by_cases h4 : d < 4
            · have h4z : (d : Int) + 1 ≤ 4 := by omega
              rw [if_pos h4] at hst
              have HF : Hid (R = yrR (s.data.toList.drop (i + 1)) (n * 10 + ((s[i].toNat : Int) - 48)) (d + 1)) := Lib.hid hst
              have hnb : n ≤ 999 := by omega
              clear hst HR HE
              go_wp2
              go_roundw
              case rel => exact ⟨n * 10 + ((s[i].toNat : Int) - 48), d + 1, i + 1, by go_num, by go_num, by go_num, by omega, trivial, by omega, by omega, by omega, by omega, by omega, by omega, by omega, Lib.hid (fun _ => HF.out), Lib.hid (by intro h; omega)⟩
              case measure => simp [intOf]; omega
            · have h4z : ¬ (d : Int) + 1 ≤ 4 := by omega
              rw [if_neg h4] at hst
              have HF : Hid (R = yrR (s.data.toList.drop (i + 1)) n (d + 1)) := Lib.hid hst
              clear hst HR HE
              go_wp2
              go_roundw
              case rel => exact ⟨n, d + 1, i + 1, rfl, by go_num, by go_num, by omega, trivial, by omega, hn0, hn9, by omega, by omega, by omega, by omega, Lib.hid (fun _ => HF.out), Lib.hid (by intro h; omega)⟩
              case measure => simp [intOf]; omega
          · rw [if_neg (show ¬ dgB s[i] = true from fun h => by have := of_decide_eq_true h; omega)] at hst
            by_cases hd4 : d = 4
            · subst hd4
              by_cases hy1 : 1000 ≤ n
              · by_cases hy2 : n ≤ 2199
                · have HF : Hid (R = n) := Lib.hid (by rw [hst, if_pos (by refine ⟨?_, hy1, hy2⟩; first | trivial | rfl)])
                  clear hst HR HE
                  go_wp2
                  go_ret
                  exact ⟨by rw [HF.out]; rfl, rfl⟩
                · have HF : Hid (R = yrR (s.data.toList.drop (i + 1)) 0 0) := Lib.hid (by rw [hst, if_neg (by omega)])
                  clear hst HR HE
                  go_wp2
                  go_roundw
                  case rel => exact ⟨0, 0, i + 1, rfl, rfl, by go_num, by omega, trivial, by omega, by omega, by omega, by omega, by omega, by omega, by omega, Lib.hid (fun _ => HF.out), Lib.hid (by intro h; omega)⟩
                  case measure => simp [intOf]; omega
              · have HF : Hid (R = yrR (s.data.toList.drop (i + 1)) 0 0) := Lib.hid (by rw [hst, if_neg (by omega)])
                clear hst HR HE
                go_wp2
                go_roundw
                case rel => exact ⟨0, 0, i + 1, rfl, rfl, by go_num, by omega, trivial, by omega, by omega, by omega, by omega, by omega, by omega, by omega, Lib.hid (fun _ => HF.out), Lib.hid (by intro h; omega)⟩
                case measure => simp [intOf]; omega
            · have hdz : ((d : Int) == 4) = false := by rw [beq_eq_false_iff_ne]; omega
              have HF : Hid (R = yrR (s.data.toList.drop (i + 1)) 0 0) := Lib.hid (by rw [hst, if_neg (by omega)])
              clear hst HR HE
              go_wp2
              go_roundw
              case rel => exact ⟨0, 0, i + 1, rfl, rfl, by go_num, by omega, trivial, by omega, by omega, by omega, by omega, by omega, by omega, by omega, Lib.hid (fun _ => HF.out), Lib.hid (by intro h; omega)⟩
              case measure => simp [intOf]; omega
        · rw [if_neg (show ¬ dgB s[i] = true from fun h => by have := of_decide_eq_true h; omega)] at hst
          by_cases hd4 : d = 4
          · subst hd4
            by_cases hy1 : 1000 ≤ n
            · by_cases hy2 : n ≤ 2199
              · have HF : Hid (R = n) := Lib.hid (by rw [hst, if_pos (by refine ⟨?_, hy1, hy2⟩; first | trivial | rfl)])
                clear hst HR HE
                go_wp2
                go_ret
                exact ⟨by rw [HF.out]; rfl, rfl⟩
              · have HF : Hid (R = yrR (s.data.toList.drop (i + 1)) 0 0) := Lib.hid (by rw [hst, if_neg (by omega)])
                clear hst HR HE
                go_wp2
                go_roundw
                case rel => exact ⟨0, 0, i + 1, rfl, rfl, by go_num, by omega, trivial, by omega, by omega, by omega, by omega, by omega, by omega, by omega, Lib.hid (fun _ => HF.out), Lib.hid (by intro h; omega)⟩
                case measure => simp [intOf]; omega
            · have HF : Hid (R = yrR (s.data.toList.drop (i + 1)) 0 0) := Lib.hid (by rw [hst, if_neg (by omega)])
              clear hst HR HE
              go_wp2
              go_roundw
              case rel => exact ⟨0, 0, i + 1, rfl, rfl, by go_num, by omega, trivial, by omega, by omega, by omega, by omega, by omega, by omega, by omega, Lib.hid (fun _ => HF.out), Lib.hid (by intro h; omega)⟩
              case measure => simp [intOf]; omega
          · have hdz : ((d : Int) == 4) = false := by rw [beq_eq_false_iff_ne]; omega
            have HF : Hid (R = yrR (s.data.toList.drop (i + 1)) 0 0) := Lib.hid (by rw [hst, if_neg (by omega)])
            clear hst HR HE
            go_wp2
            go_roundw
            case rel => exact ⟨0, 0, i + 1, rfl, rfl, by go_num, by omega, trivial, by omega, by omega, by omega, by omega, by omega, by omega, by omega, Lib.hid (fun _ => HF.out), Lib.hid (by intro h; omega)⟩
            case measure => simp [intOf]; omega
      · have hltz : ¬ (i : Int) < (s.size : Int) := by omega
        rw [List.drop_eq_nil_of_le (by rw [len_data]; omega), yrR] at hst
        by_cases hd4 : d = 4
        · subst hd4
          by_cases hy1 : 1000 ≤ n
          · by_cases hy2 : n ≤ 2199
            · have HF : Hid (R = n) := Lib.hid (by rw [hst, if_pos (by refine ⟨?_, hy1, hy2⟩; first | trivial | rfl)])
              clear hst HR HE
              go_wp2
              go_ret
              exact ⟨by rw [HF.out]; rfl, rfl⟩
            · have HF : Hid (R = 0) := Lib.hid (by rw [hst, if_neg (by omega)])
              clear hst HR HE
              go_wp2
              go_roundw
              case rel => exact ⟨0, 0, i + 1, rfl, rfl, by go_num, by omega, trivial, by omega, by omega, by omega, by omega, by omega, by omega, by omega, Lib.hid (fun h => by omega), Lib.hid (fun _ => HF.out)⟩
              case measure => simp [intOf]; omega
          · have HF : Hid (R = 0) := Lib.hid (by rw [hst, if_neg (by omega)])
            clear hst HR HE
            go_wp2
            go_roundw
            case rel => exact ⟨0, 0, i + 1, rfl, rfl, by go_num, by omega, trivial, by omega, by omega, by omega, by omega, by omega, by omega, by omega, Lib.hid (fun h => by omega), Lib.hid (fun _ => HF.out)⟩
            case measure => simp [intOf]; omega
        · have hdz : ((d : Int) == 4) = false := by rw [beq_eq_false_iff_ne]; omega
          have HF : Hid (R = 0) := Lib.hid (by rw [hst, if_neg (by omega)])
          clear hst HR HE
          go_wp2
          go_roundw
          case rel => exact ⟨0, 0, i + 1, rfl, rfl, by go_num, by omega, trivial, by omega, by omega, by omega, by omega, by omega, by omega, by omega, Lib.hid (fun h => by omega), Lib.hid (fun _ => HF.out)⟩
          case measure => simp [intOf]; omega
    · have hlez : ¬ (i : Int) ≤ (s.size : Int) := by omega
      have HF : Hid (R = 0) := Lib.hid (HE.out (by omega))
      clear HR HE
      go_wp2
      go_ret
      exact ⟨by rw [HF.out]; rfl, rfl⟩
end Go.Proofs.YtkfjeolpbopcnaaGreatDoor
namespace Go.Proofs.YtkfjeolpbopcnaaGreatDoor
open Go Go.RowKit

def yearF (f : Fld) : Int := yrs (allF [99] f.subs)
/-- The year of publication. -/
def yearL : List Fld → Int
  | [] => 0
  | f :: r => if f.tag = t260 ∨ f.tag = t264 then (if yearF f ≠ 0 then yearF f else yearL r) else yearL r
theorem yearL_step {l : List Fld} {k : Nat} {f : Fld} (h : l[k]? = some f) : yearL (l.drop k) = if f.tag = t260 ∨ f.tag = t264 then (if yearF f ≠ 0 then yearF f else yearL (l.drop (k + 1))) else yearL (l.drop (k + 1)) := by
  rw [drop_step h]; rfl
theorem yearL_end {l : List Fld} {k : Nat} (h : l.length ≤ k) : yearL (l.drop k) = 0 := by
  rw [List.drop_eq_nil_of_le h]; rfl
theorem tag_tests (t u : List UInt8) : ((lb t).toList == u) = decide (t = u) ∧ ((lb t).toList != u) = !decide (t = u) := by
  rw [lb_list]
  have : (t == u) = decide (t = u) := by rw [Bool.eq_iff_iff]; simp
  exact ⟨this, by unfold bne; rw [this]⟩
theorem strs_at {w : World} {b o : Nat} {xs : List ByteArray} {j : Nat} {x : ByteArray} (h : ∀ j x, xs[j]? = some x → w.cell? ⟨b, o + j, none⟩ = some (.string x)) (hx : xs[j]? = some x) : w.cell? ⟨b, o + j, none⟩ = some (.string x) := h j x hx

set_option maxRecDepth 100000 in
set_option maxHeartbeats 4000000 in
theorem pYear (x : Rcd) (w : World) (hx : RcdAt w x) (hl : x.r.fields.length ≤ 900) (hs : ∀ f ∈ x.r.fields, f.subs.length ≤ 100000) (hv : ∀ f ∈ x.r.fields, ∀ s ∈ f.subs, s.2.size ≤ 1000000) :
    Calls Tryz.prog 31 #[recV5 x] w fun e w' => e = .returned (.int .i64 (yearL x.r.fields)) ∧ Below w.heap.size w w' := by
  have HM := Lib.hid (fun W (h : Below w.heap.size w W) (f : Fld) (hf : f ∈ x.r.fields) => pAll f ⟨#[99]⟩ W ((hx.2 f hf).below h (Nat.le_refl _)) (hs f hf) (by decide))
  have HSZ : Hid (∀ f ∈ x.r.fields, ∀ y ∈ allF [99] f.subs, y.size ≤ 1000000) := Lib.hid (fun f hf y hy => by
    obtain ⟨s, hs, rfl⟩ := List.mem_map.1 hy
    exact hv f hf s (List.mem_filter.1 hs).1)
  have HXN : Hid (∀ f ∈ x.r.fields, (allF [99] f.subs).length ≤ 100000) := Lib.hid (fun f hf => by have := allF_len [99] f.subs f.subs.length; rw [List.take_length] at this; have := hs f hf; omega)
  obtain ⟨⟨ra, rc, he, hrc, hcells⟩, -⟩ := hx
  obtain ⟨⟨id, ver, kind, lang, rf⟩, ra', rc'⟩ := x
  simp only at he hrc hcells hl HM HSZ HXN ⊢
  cases he
  unfold recV5
  simp only
  obtain ⟨n, hnn⟩ : ∃ n, n = rf.length := ⟨_, rfl⟩
  rw [← hnn] at hl hrc ⊢
  have HN := Lib.hid hnn
  have HA := Lib.hid hcells
  obtain ⟨R, hR⟩ : ∃ R, R = yearL rf := ⟨_, rfl⟩
  rw [← hR]
  have HR := Lib.hid hR
  obtain ⟨W0, hW0⟩ : ∃ W, W = w.alloc (recO id ver kind lang ra n rc) := ⟨_, rfl⟩
  have hb0 : Below w.heap.size w W0 := by rw [hW0]; exact (Below.refl _ _).alloc (Nat.le_refl _) _
  have d4 : W0.cell? ⟨w.heap.size, 4, none⟩ = some (.slice ra n rc) := by rw [hW0]; exact Lib.cell_of_heap (alloc_at rfl) 4
  have hs0 : W0.heap.size = w.heap.size + 1 := by rw [hW0]; simp
  have HD : Hid (∀ W, Below W0.heap.size W0 W → W.cell? ⟨w.heap.size, 4, none⟩ = some (.slice ra n rc)) := Lib.hid (fun W h => (h.cell (p := ⟨w.heap.size, 4, none⟩) (by show w.heap.size < _; omega)).trans d4)
  have HB0 := Lib.hid hb0
  have HW0 := Lib.hid hW0
  rw [hW0] at d4
  clear hnn hcells hR hs hv hb0 hs0
  go_enter Tryz.func31, Tryz.ntmps31
  go_wp2
  go_loopw [11] (fun i wr => ∃ k : Nat, i = .int .i64 k ∧ k ≤ n ∧ Hid (R = yearL (rf.drop k)) ∧ Hid (Below W0.heap.size W0 wr)) (fun i _ => n - (intOf i).toNat)
  case atStart =>
    rw [← hW0]
    exact ⟨0, rfl, by omega, Lib.hid (by rw [HR.out, List.drop_zero]), Lib.hid (Below.refl _ _)⟩
  case round =>
    clear hW0 d4
    obtain ⟨k, rfl, hk, HK, HB⟩ := hrel
    obtain ⟨wo, rfl⟩ : ∃ W, W = wr := ⟨_, rfl⟩
    have e4 := HD.out wo HB.out
    by_cases hlt : k < n
    · have hltz : (k : Int) < (n : Int) := by omega
      obtain ⟨f, hf⟩ : ∃ x, rf[k]? = some x := ⟨_, List.getElem?_eq_getElem (by have := HN.out; omega)⟩
      rcases HA.out with h0 | ⟨b, o, rfl, hb1, hcells1⟩
      · rw [h0] at hf; cases hf
      have hst := HK.out
      rw [yearL_step hf] at hst
      obtain ⟨q0, q1, q2, q3⟩ := (four_of (hcells1 k f hf)).below (HB0.out.bt HB.out) hb1
      have hfm := List.mem_of_getElem? hf
      obtain ⟨b1, b2⟩ := tag_tests f.tag [50, 54, 48]
      obtain ⟨b3, b4⟩ := tag_tests f.tag [50, 54, 52]
      have hall := fun W h => HM.out W h f hfm
      unfold fldV at hall
      obtain ⟨XS, hXS⟩ : ∃ XS, XS = allF [99] f.subs := ⟨_, rfl⟩
      have HXS : Hid (∀ y ∈ XS, y.size ≤ 1000000) := Lib.hid (by rw [hXS]; exact HSZ.out f hfm)
      have HXL : Hid (XS.length ≤ 100000) := Lib.hid (by rw [hXS]; exact HXN.out f hfm)
      have hyf : yearF f = yrs XS := by rw [hXS]; rfl
      rw [← hXS] at hall
      rw [hyf] at hst
      obtain ⟨E0, hE0⟩ : ∃ E, E = decide (f.tag = [50, 54, 48]) := ⟨_, rfl⟩
      obtain ⟨E4, hE4⟩ : ∃ E, E = decide (f.tag = [50, 54, 52]) := ⟨_, rfl⟩
      rw [← hE0] at b1 b2
      rw [← hE4] at b3 b4
      have hst2 : R = if E0 = true ∨ E4 = true then (if yrs XS ≠ 0 then yrs XS else yearL (rf.drop (k + 1))) else yearL (rf.drop (k + 1)) := by
        rw [hst]
        have i1 : (f.tag = t260 ∨ f.tag = t264) ↔ (E0 = true ∨ E4 = true) := by rw [hE0, hE4, decide_eq_true_iff, decide_eq_true_iff]; exact Iff.rfl
        by_cases h : E0 = true ∨ E4 = true
        · rw [if_pos h, if_pos (i1.2 h)]
        · rw [if_neg h, if_neg (fun e => h (i1.1 e))]
      obtain ⟨T, hT⟩ : ∃ T, T = lb f.tag := ⟨_, rfl⟩
      obtain ⟨I, hI⟩ : ∃ I, I = lb f.ind := ⟨_, rfl⟩
      obtain ⟨sn, hsn⟩ : ∃ sn, sn = f.subs.length := ⟨_, rfl⟩
      rw [← hT, ← hI, ← hsn] at hall
      rw [← hT] at q0 b1 b2 b3 b4
      rw [← hI] at q1
      rw [← hsn] at q2
      have e0 : (wo.alloc (fldO T I f.sa sn f.sc f.auth)).heap[wo.heap.size]? = some (fldO T I f.sa sn f.sc f.auth) := alloc_at rfl
      have s0 := Lib.cell_of_heap e0 0
      have s1 := Lib.cell_of_heap e0 1
      have s2 := Lib.cell_of_heap e0 2
      have s3 := Lib.cell_of_heap e0 3
      have hb2 : Below W0.heap.size W0 (wo.alloc (fldO T I f.sa sn f.sc f.auth)) := HB.out.alloc HB.out.size _
      have HB2 := Lib.hid hb2
      have HAL := Lib.hid (hall _ (HB0.out.bt hb2))
      have HST := Lib.hid hst2
      clear hcells1 hf hst hst2 hfm hall hXS hyf hE0 hE4 hT hI hsn HK hb2 e0
      have hcase : (E0 = false ∧ E4 = false) ∨ (E0 = true ∨ E4 = true) := by cases E0 <;> cases E4 <;> simp
      rcases hcase with ⟨rfl, rfl⟩ | htag
      · have HF : Hid (R = yearL (rf.drop (k + 1))) := Lib.hid (by rw [HST.out, if_neg (by decide)])
        clear HST HAL
        go_wp2
        go_roundw
        case rel => exact ⟨k + 1, by go_num, by omega, HF, HB2⟩
        case measure => simp [intOf]; omega
      · have HF : Hid (R = if yrs XS ≠ 0 then yrs XS else yearL (rf.drop (k + 1))) := Lib.hid (by rw [HST.out, if_pos htag])
        clear HST
        have hcase : E0 = true ∨ (E0 = false ∧ E4 = true) := by rcases htag with h | h <;> cases E0 <;> simp [h]
        clear htag
        rcases hcase with rfl | ⟨rfl, rfl⟩
        all_goals
          go_wp2_with fail
          refine HAL.out.mono ?_
          rintro e w1 ⟨v, rfl, ⟨va, vc, rfl, hvc, hcl⟩, b5⟩
          have HB3 := Lib.hid (HB2.out.bt b5)
          have HCL := Lib.hid hcl
          obtain ⟨m, hm⟩ : ∃ m, m = XS.length := ⟨_, rfl⟩
          rw [← hm] at hvc ⊢
          have HMM := Lib.hid hm
          have hmb : m ≤ 100000 := by rw [hm]; exact HXL.out
          clear b5 hcl hm HAL
          go_wp2
          go_loopw [26] (fun j wj => ∃ q : Nat, j = .int .i64 q ∧ q ≤ m ∧ Hid (R = if yrs (XS.drop q) ≠ 0 then yrs (XS.drop q) else yearL (rf.drop (k + 1))) ∧ Hid (Dr w1 wj)) (fun j _ => m - (intOf j).toNat)
          case atStart => exact ⟨0, rfl, by omega, Lib.hid (by rw [HF.out, List.drop_zero]), Lib.hid (Dr.refl _)⟩
          case round =>
            obtain ⟨q, rfl, hq, HQ, HJ⟩ := hrel
            have HB4 : Hid (Below W0.heap.size W0 wr) := Lib.hid (HB3.out.bt (HJ.out.below _))
            by_cases hqm : q < m
            · have hqz : (q : Int) < (m : Int) := by omega
              obtain ⟨y, hy⟩ : ∃ y, XS[q]? = some y := ⟨_, List.getElem?_eq_getElem (by have := HMM.out; omega)⟩
              rcases HCL.out with h0 | ⟨b', o', rfl, hb', hc'⟩
              · rw [h0] at hy; cases hy
              have c1 := ((HJ.out.below w1.heap.size).cell (p := ⟨b', o' + q, none⟩) hb').trans (hc' q y hy)
              have hst := HQ.out
              rw [yrs_step hy] at hst
              have hcall := pYearIn y wr (HXS.out y (List.mem_of_getElem? hy))
              have hrg := yr_range y.data.toList 0 0
              obtain ⟨Y, hY⟩ : ∃ Y, Y = yrR y.data.toList 0 0 := ⟨_, rfl⟩
              rw [← hY] at hst hcall hrg
              have HC := Lib.hid hcall
              have HST := Lib.hid hst
              clear hc' hy hst hcall hY HQ
              go_wp2_with fail
              refine HC.out.mono ?_
              rintro e w2 ⟨rfl, d2⟩
              have HJ2 : Hid (Dr w1 w2) := Lib.hid (HJ.out.trans d2)
              clear d2
              by_cases hY0 : Y = 0
              · subst hY0
                have HF2 : Hid (R = if yrs (XS.drop (q + 1)) ≠ 0 then yrs (XS.drop (q + 1)) else yearL (rf.drop (k + 1))) := Lib.hid (by have h := HST.out; rw [if_neg (show ¬ ((0 : Int) ≠ 0) by decide)] at h; exact h)
                clear HST hrg
                go_wp2
                go_roundw
                case rel => exact ⟨q + 1, by go_num, by omega, HF2, HJ2⟩
                case measure => simp [intOf]; omega
              · have hyp : 0 < Y := by omega
                have hyb : (Y == 0) = false := by rw [beq_eq_false_iff_ne]; exact hY0
                have hyc : (Y != 0) = true := by unfold bne; rw [hyb]; rfl
                have HF2 : Hid (R = Y) := Lib.hid (by have h := HST.out; rw [if_pos hY0, if_pos hY0] at h; exact h)
                clear HST hrg hY0
                go_wp2
                go_ret
                exact ⟨by rw [HF2.out]; rfl, HB0.out.bt (HB3.out.bt (HJ2.out.below _))⟩
            · have hqz : ¬ (q : Int) < (m : Int) := by omega
              have HF2 : Hid (R = yearL (rf.drop (k + 1))) := Lib.hid (by rw [HQ.out, yrs_end (by have := HMM.out; omega), if_neg (by decide)])
              clear HQ
              go_wp2
              go_roundw
              case rel => exact ⟨k + 1, by go_num, by omega, HF2, HB4⟩
              case measure => simp [intOf]; omega
    · have hltz : ¬ (k : Int) < (n : Int) := by omega
      have HF : Hid (R = 0) := Lib.hid (by rw [HK.out]; exact yearL_end (by have := HN.out; omega))
      clear HK
      go_wp2
      go_ret
      exact ⟨by rw [HF.out]; rfl, HB0.out.bt HB.out⟩

set_option maxRecDepth 100000 in
set_option maxHeartbeats 4000000 in
theorem rYear (x : Rcd) (w : World) (hx : RcdAt w x) (hl : x.r.fields.length ≤ 900) (hs : ∀ f ∈ x.r.fields, f.subs.length ≤ 100000) (hc : ∀ f ∈ x.r.fields, ∀ s ∈ f.subs, s.1 < 256) (hv : ∀ f ∈ x.r.fields, ∀ s ∈ f.subs, s.2.size ≤ 1000000) :
    Calls Tryz.prog 32 #[recV5 x] w fun e w' => e = .returned (.int .i64 (yearL x.r.fields)) ∧ Below w.heap.size w w' := by
  have HM := Lib.hid (fun W (h : Below w.heap.size w W) (f : Fld) (hf : f ∈ x.r.fields) => rAll f ⟨#[99]⟩ W ((hx.2 f hf).below h (Nat.le_refl _)) (hs f hf) (hc f hf) (by decide) (by decide))
  have HSZ : Hid (∀ f ∈ x.r.fields, ∀ y ∈ allF [99] f.subs, y.size ≤ 1000000) := Lib.hid (fun f hf y hy => by
    obtain ⟨s, hs, rfl⟩ := List.mem_map.1 hy
    exact hv f hf s (List.mem_filter.1 hs).1)
  have HXN : Hid (∀ f ∈ x.r.fields, (allF [99] f.subs).length ≤ 100000) := Lib.hid (fun f hf => by have := allF_len [99] f.subs f.subs.length; rw [List.take_length] at this; have := hs f hf; omega)
  obtain ⟨⟨ra, rc, he, hrc, hcells⟩, -⟩ := hx
  obtain ⟨⟨id, ver, kind, lang, rf⟩, ra', rc'⟩ := x
  simp only at he hrc hcells hl HM HSZ HXN ⊢
  cases he
  unfold recV5
  simp only
  obtain ⟨n, hnn⟩ : ∃ n, n = rf.length := ⟨_, rfl⟩
  rw [← hnn] at hl hrc ⊢
  have HN := Lib.hid hnn
  have HA := Lib.hid hcells
  obtain ⟨R, hR⟩ : ∃ R, R = yearL rf := ⟨_, rfl⟩
  rw [← hR]
  have HR := Lib.hid hR
  obtain ⟨W0, hW0⟩ : ∃ W, W = w.alloc (recO id ver kind lang ra n rc) := ⟨_, rfl⟩
  have hb0 : Below w.heap.size w W0 := by rw [hW0]; exact (Below.refl _ _).alloc (Nat.le_refl _) _
  have d4 : W0.cell? ⟨w.heap.size, 4, none⟩ = some (.slice ra n rc) := by rw [hW0]; exact Lib.cell_of_heap (alloc_at rfl) 4
  have hs0 : W0.heap.size = w.heap.size + 1 := by rw [hW0]; simp
  have HD : Hid (∀ W, Below W0.heap.size W0 W → W.cell? ⟨w.heap.size, 4, none⟩ = some (.slice ra n rc)) := Lib.hid (fun W h => (h.cell (p := ⟨w.heap.size, 4, none⟩) (by show w.heap.size < _; omega)).trans d4)
  have HB0 := Lib.hid hb0
  have HW0 := Lib.hid hW0
  rw [hW0] at d4
  clear hnn hcells hR hs hc hv hb0 hs0
  go_enter Tryz.func32, Tryz.ntmps32
  go_wp2
  go_loopw [3] (fun i wr => ∃ k : Nat, i = .int .i64 k ∧ k ≤ n ∧ Hid (R = yearL (rf.drop k)) ∧ Hid (Below W0.heap.size W0 wr)) (fun i _ => n - (intOf i).toNat)
  case atStart =>
    rw [← hW0]
    exact ⟨0, rfl, by omega, Lib.hid (by rw [HR.out, List.drop_zero]), Lib.hid (Below.refl _ _)⟩
  case round =>
    clear hW0 d4
    obtain ⟨k, rfl, hk, HK, HB⟩ := hrel
    obtain ⟨wo, rfl⟩ : ∃ W, W = wr := ⟨_, rfl⟩
    have e4 := HD.out wo HB.out
    by_cases hlt : k < n
    · have hltz : (k : Int) < (n : Int) := by omega
      obtain ⟨f, hf⟩ : ∃ x, rf[k]? = some x := ⟨_, List.getElem?_eq_getElem (by have := HN.out; omega)⟩
      rcases HA.out with h0 | ⟨b, o, rfl, hb1, hcells1⟩
      · rw [h0] at hf; cases hf
      have hst := HK.out
      rw [yearL_step hf] at hst
      obtain ⟨q0, q1, q2, q3⟩ := (four_of (hcells1 k f hf)).below (HB0.out.bt HB.out) hb1
      have hfm := List.mem_of_getElem? hf
      obtain ⟨b1, b2⟩ := tag_tests f.tag [50, 54, 48]
      obtain ⟨b3, b4⟩ := tag_tests f.tag [50, 54, 52]
      have hall := fun W h => HM.out W h f hfm
      unfold fldV at hall
      obtain ⟨XS, hXS⟩ : ∃ XS, XS = allF [99] f.subs := ⟨_, rfl⟩
      have HXS : Hid (∀ y ∈ XS, y.size ≤ 1000000) := Lib.hid (by rw [hXS]; exact HSZ.out f hfm)
      have HXL : Hid (XS.length ≤ 100000) := Lib.hid (by rw [hXS]; exact HXN.out f hfm)
      have hyf : yearF f = yrs XS := by rw [hXS]; rfl
      rw [← hXS] at hall
      rw [hyf] at hst
      obtain ⟨E0, hE0⟩ : ∃ E, E = decide (f.tag = [50, 54, 48]) := ⟨_, rfl⟩
      obtain ⟨E4, hE4⟩ : ∃ E, E = decide (f.tag = [50, 54, 52]) := ⟨_, rfl⟩
      rw [← hE0] at b1 b2
      rw [← hE4] at b3 b4
      have hst2 : R = if E0 = true ∨ E4 = true then (if yrs XS ≠ 0 then yrs XS else yearL (rf.drop (k + 1))) else yearL (rf.drop (k + 1)) := by
        rw [hst]
        have i1 : (f.tag = t260 ∨ f.tag = t264) ↔ (E0 = true ∨ E4 = true) := by rw [hE0, hE4, decide_eq_true_iff, decide_eq_true_iff]; exact Iff.rfl
        by_cases h : E0 = true ∨ E4 = true
        · rw [if_pos h, if_pos (i1.2 h)]
        · rw [if_neg h, if_neg (fun e => h (i1.1 e))]
      obtain ⟨T, hT⟩ : ∃ T, T = lb f.tag := ⟨_, rfl⟩
      obtain ⟨I, hI⟩ : ∃ I, I = lb f.ind := ⟨_, rfl⟩
      obtain ⟨sn, hsn⟩ : ∃ sn, sn = f.subs.length := ⟨_, rfl⟩
      rw [← hT, ← hI, ← hsn] at hall
      rw [← hT] at q0 b1 b2 b3 b4
      rw [← hI] at q1
      rw [← hsn] at q2
      have hb2 : Below W0.heap.size W0 wo := HB.out
      have HB2 := Lib.hid hb2
      have HAL := Lib.hid (hall _ (HB0.out.bt hb2))
      have HST := Lib.hid hst2
      clear hcells1 hf hst hst2 hfm hall hXS hyf hE0 hE4 hT hI hsn HK hb2
      have hcase : (E0 = false ∧ E4 = false) ∨ (E0 = true ∨ E4 = true) := by cases E0 <;> cases E4 <;> simp
      rcases hcase with ⟨rfl, rfl⟩ | htag
      · have HF : Hid (R = yearL (rf.drop (k + 1))) := Lib.hid (by rw [HST.out, if_neg (by decide)])
        clear HST HAL
        go_wp2
        go_roundw
        case rel => exact ⟨k + 1, by go_num, by omega, HF, HB2⟩
        case measure => simp [intOf]; omega
      · have HF : Hid (R = if yrs XS ≠ 0 then yrs XS else yearL (rf.drop (k + 1))) := Lib.hid (by rw [HST.out, if_pos htag])
        clear HST
        have hcase : E0 = true ∨ (E0 = false ∧ E4 = true) := by rcases htag with h | h <;> cases E0 <;> simp [h]
        clear htag
        rcases hcase with rfl | ⟨rfl, rfl⟩
        all_goals
          go_wp2_with fail
          refine HAL.out.mono ?_
          rintro e w1 ⟨v, rfl, ⟨va, vc, rfl, hvc, hcl⟩, b5⟩
          have HB3 := Lib.hid (HB2.out.bt b5)
          have HCL := Lib.hid hcl
          obtain ⟨m, hm⟩ : ∃ m, m = XS.length := ⟨_, rfl⟩
          rw [← hm] at hvc ⊢
          have HMM := Lib.hid hm
          have hmb : m ≤ 100000 := by rw [hm]; exact HXL.out
          clear b5 hcl hm HAL
          go_wp2
          go_loopw [5] (fun j wj => ∃ q : Nat, j = .int .i64 q ∧ q ≤ m ∧ Hid (R = if yrs (XS.drop q) ≠ 0 then yrs (XS.drop q) else yearL (rf.drop (k + 1))) ∧ Hid (Dr w1 wj)) (fun j _ => m - (intOf j).toNat)
          case atStart => exact ⟨0, rfl, by omega, Lib.hid (by rw [HF.out, List.drop_zero]), Lib.hid (Dr.refl _)⟩
          case round =>
            obtain ⟨q, rfl, hq, HQ, HJ⟩ := hrel
            have HB4 : Hid (Below W0.heap.size W0 wr) := Lib.hid (HB3.out.bt (HJ.out.below _))
            by_cases hqm : q < m
            · have hqz : (q : Int) < (m : Int) := by omega
              obtain ⟨y, hy⟩ : ∃ y, XS[q]? = some y := ⟨_, List.getElem?_eq_getElem (by have := HMM.out; omega)⟩
              rcases HCL.out with h0 | ⟨b', o', rfl, hb', hc'⟩
              · rw [h0] at hy; cases hy
              have c1 := ((HJ.out.below w1.heap.size).cell (p := ⟨b', o' + q, none⟩) hb').trans (hc' q y hy)
              have hst := HQ.out
              rw [yrs_step hy] at hst
              have hcall := rYearIn y wr (HXS.out y (List.mem_of_getElem? hy))
              have hrg := yr_range y.data.toList 0 0
              obtain ⟨Y, hY⟩ : ∃ Y, Y = yrR y.data.toList 0 0 := ⟨_, rfl⟩
              rw [← hY] at hst hcall hrg
              have HC := Lib.hid hcall
              have HST := Lib.hid hst
              clear hc' hy hst hcall hY HQ
              go_wp2_with fail
              refine HC.out.mono ?_
              rintro e w2 ⟨rfl, d2⟩
              have HJ2 : Hid (Dr w1 w2) := Lib.hid (by rw [d2]; exact HJ.out)
              clear d2
              by_cases hY0 : Y = 0
              · subst hY0
                have HF2 : Hid (R = if yrs (XS.drop (q + 1)) ≠ 0 then yrs (XS.drop (q + 1)) else yearL (rf.drop (k + 1))) := Lib.hid (by have h := HST.out; rw [if_neg (show ¬ ((0 : Int) ≠ 0) by decide)] at h; exact h)
                clear HST hrg
                go_wp2
                go_roundw
                case rel => exact ⟨q + 1, by go_num, by omega, HF2, HJ2⟩
                case measure => simp [intOf]; omega
              · have hyp : 0 < Y := by omega
                have hyb : (Y == 0) = false := by rw [beq_eq_false_iff_ne]; exact hY0
                have hyc : (Y != 0) = true := by unfold bne; rw [hyb]; rfl
                have HF2 : Hid (R = Y) := Lib.hid (by have h := HST.out; rw [if_pos hY0, if_pos hY0] at h; exact h)
                clear HST hrg hY0
                go_wp2
                go_ret
                exact ⟨by rw [HF2.out]; rfl, HB0.out.bt (HB3.out.bt (HJ2.out.below _))⟩
            · have hqz : ¬ (q : Int) < (m : Int) := by omega
              have HF2 : Hid (R = yearL (rf.drop (k + 1))) := Lib.hid (by rw [HQ.out, yrs_end (by have := HMM.out; omega), if_neg (by decide)])
              clear HQ
              go_wp2
              go_roundw
              case rel => exact ⟨k + 1, by go_num, by omega, HF2, HB4⟩
              case measure => simp [intOf]; omega
    · have hltz : ¬ (k : Int) < (n : Int) := by omega
      have HF : Hid (R = 0) := Lib.hid (by rw [HK.out]; exact yearL_end (by have := HN.out; omega))
      clear HK
      go_wp2
      go_ret
      exact ⟨by rw [HF.out]; rfl, HB0.out.bt HB.out⟩
end Go.Proofs.YtkfjeolpbopcnaaGreatDoor
namespace Go.Proofs.YtkfjeolpbopcnaaGreatDoor
open Go Go.RowKit

/-- The headings of a field; of fields. -/
def subjF (f : Fld) : List ByteArray := if allF [97, 120, 121, 122] f.subs = [] then [] else [joinB ⟨#[45, 45]⟩ (allF [97, 120, 121, 122] f.subs)]
def subjL (l : List Fld) : List ByteArray := l.flatMap subjF
theorem subjL_step {l : List Fld} {k : Nat} {f : Fld} (h : l[k]? = some f) : subjL (l.take (k + 1)) = subjL (l.take k) ++ subjF f := by
  rw [List.take_add_one, h]
  simp [subjL]
theorem subjF_len (f : Fld) : (subjF f).length ≤ 1 := by
  unfold subjF
  split <;> simp
theorem subjL_len (l : List Fld) : (subjL l).length ≤ l.length := by
  induction l with
  | nil => simp [subjL]
  | cons f r ih =>
    have := subjF_len f
    unfold subjL at *
    rw [List.flatMap_cons, List.length_append, List.length_cons]
    omega
theorem append_str2 {ops : Array Oper} {rest : List Oper} {o : Oper} {a : Act} {w : World} {Q : Exit → Act → World → Prop} (hgd : o.guard = none) (s x : Operand)
    (ho : o.op = .call { callee := .builtin .append, args := #[s, x], argTypes := #[45, 45] })
    (B : Nat) (v : Value) (out : List ByteArray) (hs : a.eval s = v) (hown : (∃ g, v = .slice (some ⟨g, 0, none⟩) 0 0 ∧ out = []) ∨ OwnS w B v out) (g : Nat) (y : ByteArray) (hx : a.eval x = .slice (some ⟨g, 0, none⟩) 1 1) (hg : w.heap[g]? = some (.cells #[.string y] 9 (0, 0)))
    (hlen : out.length + 1 ≤ 1000000) (hB : B ≤ w.heap.size)
    (h : ∀ v' w', OwnS w' B v' (out ++ [y]) → Below B w w' → wpList Tryz.prog ops Q rest (a.put o.dst v') w') : wpList Tryz.prog ops Q (o :: rest) a w := by
  rcases hown with ⟨g', rfl, rfl⟩ | hown
  · obtain ⟨i0, hi, hz0, hz1, hz2⟩ := info_parts infoStr
    refine wpList_plain hgd fun K hK => ?_
    obtain ⟨v', w', hr, h1, h2⟩ := run_append_arg_grows (P := Tryz.prog) (w := w) 45 o.type 9 i0 (.string ⟨#[]⟩) 1 16 Tryz.underlying45 hi hz0 hz1 hz2 rfl (by decide) ⟨g', 0, none⟩ 0 0 [] rfl (by intro j u hj; cases hj) ⟨g, 0, none⟩ 1 1 [.string y] rfl (by
      intro j u hj
      rw [Addr.add_lit]
      have hj0 : j = 0 := by have := (List.getElem?_eq_some_iff.1 hj).1; simpa using this
      subst hj0
      cases hj
      exact (Lib.cell_of_heap hg 0).trans rfl) (by omega) (by unfold maxLen; omega) (by omega)
    unfold Oper.wp execOp
    simp only [ho, resolve, invoke, builtin, Sem.run_bind, Sem.run_pure, Result.andThen_ok, List.map_toArray, List.map_cons, List.map_nil, hs, hx, hr]
    refine hK _ _ (h v' w' ?_ ((Below.refl B w).grown h2 hB (by intro k hk; cases hk)))
    refine ⟨rfl, ?_⟩
    rcases h1.2 with h0 | ⟨gg, cap, cur, e, hb, r⟩
    · exact .inl h0
    · exact .inr ⟨gg, cap, cur, e, Nat.le_trans hB hb, r⟩
  · exact append_str hgd s x ho B v out hs hown g y hx hg hlen hB h

set_option maxRecDepth 100000 in
set_option maxHeartbeats 4000000 in
theorem pSubjects (x : Rcd) (w : World) (hx : RcdAt w x) (hl : x.r.fields.length ≤ 900) (hs : ∀ f ∈ x.r.fields, f.subs.length ≤ 100000) (hj : ∀ f ∈ x.r.fields, (joinB ⟨#[45, 45]⟩ (allF [97, 120, 121, 122] f.subs)).size ≤ 4000000000) :
    Calls Tryz.prog 34 #[recV5 x] w (RetStrs w (subjL (begL [54] x.r.fields))) := by
  have HF := Lib.hid (fun W (h : Below w.heap.size w W) => pFields x ⟨#[54]⟩ W (RcdAt.below hx h (Nat.le_refl _)) hl)
  have HM := Lib.hid (fun W (f : Fld) (hf : f ∈ x.r.fields) (h : FldAt W f) => pAll f ⟨#[97, 120, 121, 122]⟩ W h (hs f hf) (by decide))
  have HJJ := Lib.hid hj
  have HXN : Hid (∀ f ∈ x.r.fields, (allF [97, 120, 121, 122] f.subs).length ≤ 100000) := Lib.hid (fun f hf => by have := allF_len [97, 120, 121, 122] f.subs f.subs.length; rw [List.take_length] at this; have := hs f hf; omega)
  have HSUB : Hid (∀ f ∈ begL [54] x.r.fields, f ∈ x.r.fields) := Lib.hid (fun f hf => (List.mem_filter.1 hf).1)
  have HLN : Hid ((begL [54] x.r.fields).length ≤ 900) := Lib.hid (by have := begL_len [54] x.r.fields x.r.fields.length; rw [List.take_length] at this; omega)
  rw [show (⟨#[54]⟩ : ByteArray).data.toList = [54] from rfl] at HF
  obtain ⟨L, hL⟩ : ∃ L, L = begL [54] x.r.fields := ⟨_, rfl⟩
  rw [← hL] at HF HSUB HLN ⊢
  obtain ⟨⟨id, ver, kind, lang, rf⟩, ra, rc⟩ := x
  unfold recV5 at HF ⊢
  simp only at HF HM HJJ HXN HSUB hl ⊢
  obtain ⟨n, hn⟩ : ∃ n, n = rf.length := ⟨_, rfl⟩
  rw [← hn] at HF hl ⊢
  obtain ⟨W0, hW0⟩ : ∃ W, W = w.alloc (recO id ver kind lang ra n rc) := ⟨_, rfl⟩
  have hb0 : Below w.heap.size w W0 := by rw [hW0]; exact (Below.refl _ _).alloc (Nat.le_refl _) _
  have h0 : W0.heap[w.heap.size]? = some (recO id ver kind lang ra n rc) := by rw [hW0]; exact alloc_at rfl
  have d0 := Lib.cell_of_heap h0 0
  have d1 := Lib.cell_of_heap h0 1
  have d2 := Lib.cell_of_heap h0 2
  have d3 := Lib.cell_of_heap h0 3
  have d4 := Lib.cell_of_heap h0 4
  rw [hW0] at d0 d1 d2 d3 d4
  have HF0 := Lib.hid (HF.out W0 hb0)
  have HB0 := Lib.hid hb0
  have HW0 := Lib.hid hW0
  clear hx hs hj hL hn hb0 h0 HF
  go_enter Tryz.func34, Tryz.ntmps34
  go_wp2_with fail
  rw [← HW0.out]
  refine HF0.out.mono ?_
  rintro e w1 ⟨v1, rfl, ⟨⟨va, vc, rfl, hvc, hcells⟩, hmem⟩, b1⟩
  have HB1 : Hid (Below w.heap.size w w1) := Lib.hid (HB0.out.bt b1)
  have HA := Lib.hid hcells
  have HMEM := Lib.hid hmem
  obtain ⟨m, hm⟩ : ∃ m, m = L.length := ⟨_, rfl⟩
  have hm9 : m ≤ 900 := by rw [hm]; exact HLN.out
  rw [← hm] at hvc ⊢
  have HN := Lib.hid hm
  clear b1 hcells hmem hm d0 d1 d2 d3 d4 HF0 hW0
  go_wp2
  go_loopw [3, 10] (fun v i wr => ∃ k : Nat, i = .int .i64 k ∧ k ≤ m ∧ Hid ((∃ g, v = .slice (some ⟨g, 0, none⟩) 0 0 ∧ subjL (L.take k) = []) ∨ OwnS wr w1.heap.size v (subjL (L.take k))) ∧ Hid (Below w1.heap.size w1 wr)) (fun _ i _ => m - (intOf i).toNat)
  case atStart => exact ⟨0, rfl, by omega, Lib.hid (.inr ⟨rfl, .inl ⟨rfl, rfl⟩⟩), Lib.hid (Below.refl _ _)⟩
  case round =>
    obtain ⟨k, rfl, hk, HO, HB⟩ := hrel
    obtain ⟨wo, rfl⟩ : ∃ W, W = wr := ⟨_, rfl⟩
    by_cases hlt : k < m
    · have hltz : (k : Int) < (m : Int) := by omega
      obtain ⟨f, hf⟩ : ∃ x, L[k]? = some x := ⟨_, List.getElem?_eq_getElem (by have := HN.out; omega)⟩
      rcases HA.out with h0 | ⟨b, o, rfl, hb1, hcells1⟩
      · rw [h0] at hf; cases hf
      have hst := subjL_step hf
      obtain ⟨q0, q1, q2, q3⟩ := (four_of (hcells1 k f hf)).below HB.out hb1
      have hfL := List.mem_of_getElem? hf
      have hfm := HSUB.out f hfL
      obtain ⟨XS, hXS⟩ : ∃ XS, XS = allF [97, 120, 121, 122] f.subs := ⟨_, rfl⟩
      have HXL : Hid (XS.length ≤ 100000) := Lib.hid (by rw [hXS]; exact HXN.out f hfm)
      have HXJ : Hid ((joinB ⟨#[45, 45]⟩ XS).size ≤ 4000000000) := Lib.hid (by rw [hXS]; exact HJJ.out f hfm)
      have HJO := Lib.hid (fun v W (h : Strs W v XS) => pJoinB XS ⟨#[45, 45]⟩ v W h (by have := HXL.out; omega) (HXJ.out))
      have hall := fun W (h : Below w1.heap.size w1 W) => HM.out W f hfm ((HMEM.out f hfL).below h (Nat.le_refl _))
      unfold fldV at hall
      unfold subjF at hst
      rw [← hXS] at hall
      rw [← hXS] at hst
      obtain ⟨Y, hY⟩ : ∃ Y, Y = joinB ⟨#[45, 45]⟩ XS := ⟨_, rfl⟩
      rw [← hY] at hst HJO
      obtain ⟨T, hT⟩ : ∃ T, T = lb f.tag := ⟨_, rfl⟩
      obtain ⟨I, hI⟩ : ∃ I, I = lb f.ind := ⟨_, rfl⟩
      obtain ⟨sn, hsn⟩ : ∃ sn, sn = f.subs.length := ⟨_, rfl⟩
      rw [← hT, ← hI, ← hsn] at hall
      rw [← hT] at q0
      rw [← hI] at q1
      rw [← hsn] at q2
      have e0 : (wo.alloc (fldO T I f.sa sn f.sc f.auth)).heap[wo.heap.size]? = some (fldO T I f.sa sn f.sc f.auth) := alloc_at rfl
      have s0 := Lib.cell_of_heap e0 0
      have s1 := Lib.cell_of_heap e0 1
      have s2 := Lib.cell_of_heap e0 2
      have s3 := Lib.cell_of_heap e0 3
      have hb2 : Below wo.heap.size wo (wo.alloc (fldO T I f.sa sn f.sc f.auth)) := (Below.refl _ _).alloc (Nat.le_refl _) _
      have HB2 := Lib.hid hb2
      have HAL := Lib.hid (hall _ (HB.out.bt hb2))
      have HST := Lib.hid hst
      obtain ⟨v0, hv0⟩ : ∃ v, v = u3 := ⟨_, rfl⟩
      subst hv0
      clear hcells1 hf hst hfm hfL hall hXS hY hT hI hsn hb2 e0
      go_wp2_with fail
      refine HAL.out.mono ?_
      rintro e w2 ⟨v2, rfl, hv2, b2⟩
      have HB3 : Hid (Below wo.heap.size wo w2) := Lib.hid (HB2.out.bt b2)
      have HJ1 := Lib.hid (HJO.out v2 w2 hv2)
      obtain ⟨xa, xc, rfl, hxc, -⟩ := hv2
      have HO2 : Hid ((∃ g, v0 = .slice (some ⟨g, 0, none⟩) 0 0 ∧ subjL (L.take k) = []) ∨ OwnS w2 w1.heap.size v0 (subjL (L.take k))) := Lib.hid (by
        rcases HO.out with h | h
        · exact .inl h
        · exact .inr (own_below h HB3.out))
      obtain ⟨xn, hxn⟩ : ∃ xn, xn = XS.length := ⟨_, rfl⟩
      rw [← hxn] at HJ1 hxc ⊢
      have HXN2 := Lib.hid hxn
      clear b2 HAL HO hxn hxc
      by_cases hx0 : xn = 0
      · have HST2 : Hid (subjL (L.take (k + 1)) = subjL (L.take k)) := Lib.hid (by rw [HST.out, if_pos (List.length_eq_zero_iff.1 (by rw [← HXN2.out]; exact hx0)), List.append_nil])
        have hxz : ¬ (0 : Int) < (xn : Int) := by omega
        clear hx0 HST HJ1 HJO
        go_wp2
        go_roundw
        case rel => exact ⟨k + 1, by go_num, by omega, Lib.hid (by rw [HST2.out]; exact HO2.out), Lib.hid (HB.out.bt HB3.out)⟩
        case measure => simp [intOf]; omega
      · have HST2 : Hid (subjL (L.take (k + 1)) = subjL (L.take k) ++ [Y]) := Lib.hid (by rw [HST.out, if_neg (fun e => hx0 (by rw [HXN2.out, e]; rfl))])
        have hxz : (0 : Int) < (xn : Int) := by omega
        clear hx0 HST HJO
        go_wp2_with fail
        refine HJ1.out.mono ?_
        rintro e w3 ⟨rfl, b3⟩
        have HB4 : Hid (Below wo.heap.size wo w3) := Lib.hid (HB3.out.bt b3)
        have HO3 : Hid ((∃ g, v0 = .slice (some ⟨g, 0, none⟩) 0 0 ∧ subjL (L.take k) = []) ∨ OwnS (w3.alloc (.cells #[.string Y] 9)) w1.heap.size v0 (subjL (L.take k))) := Lib.hid (by
          rcases HO2.out with h | h
          · exact .inl h
          · exact .inr (own_below h (b3.bt ((Below.refl _ _).alloc (Nat.le_refl _) _))))
        clear b3
        have HZ : Hid (w1.heap.size ≤ w3.heap.size) := Lib.hid (HB.out.bt HB4.out).size
        go_wp2_with (at_builtin; refine append_str2 rfl _ _ rfl w1.heap.size v0 (subjL (L.take k)) (by simp [Act.eval]) HO3.out w3.heap.size Y (by simp [Act.eval]) (alloc_at rfl) (by have h9 := subjL_len (L.take k); have := HLN.out; rw [List.length_take] at h9; omega) (by simp only [World.size_alloc]; have := HZ.out; omega) ?_)
        intro v3 w4 ho4 b4
        have HO4 : Hid ((∃ g, v3 = .slice (some ⟨g, 0, none⟩) 0 0 ∧ subjL (L.take (k + 1)) = []) ∨ OwnS w4 w1.heap.size v3 (subjL (L.take (k + 1)))) := Lib.hid (.inr (by rw [HST2.out]; exact ho4))
        have HB5 : Hid (Below w1.heap.size w1 w4) := Lib.hid (((HB.out.bt HB4.out).alloc HZ.out _).trans b4)
        clear ho4 b4
        go_wp2
        go_roundw
        case rel => exact ⟨k + 1, by go_num, by omega, HO4, HB5⟩
        case measure => simp [intOf]; omega
    · have hltz : ¬ (k : Int) < (m : Int) := by omega
      have HFN : Hid (Strs wo u3 (subjL L)) := Lib.hid (by
        have h := HO.out
        rw [List.take_of_length_le (by have := HN.out; omega)] at h
        rcases h with ⟨g, rfl, h0⟩ | h
        · rw [h0]; exact ⟨_, 0, rfl, Nat.le_refl _, .inl rfl⟩
        · exact Strs.of_own h rfl)
      clear HO
      go_wp2
      go_ret
      exact ⟨_, rfl, HFN.out, HB1.out.bt HB.out⟩

set_option maxRecDepth 100000 in
set_option maxHeartbeats 4000000 in
theorem rSubjects (x : Rcd) (w : World) (hx : RcdAt w x) (hl : x.r.fields.length ≤ 900) (hs : ∀ f ∈ x.r.fields, f.subs.length ≤ 100000) (hc : ∀ f ∈ x.r.fields, ∀ s ∈ f.subs, s.1 < 256) (hj : ∀ f ∈ x.r.fields, (joinB ⟨#[45, 45]⟩ (allF [97, 120, 121, 122] f.subs)).size ≤ 4000000000) :
    Calls Tryz.prog 35 #[recV5 x] w (RetStrs w (subjL (begL [54] x.r.fields))) := by
  have HF := Lib.hid (fun W (h : Below w.heap.size w W) => rFields x ⟨#[54]⟩ W (RcdAt.below hx h (Nat.le_refl _)) hl)
  have HM := Lib.hid (fun W (f : Fld) (hf : f ∈ x.r.fields) (h : FldAt W f) => rAll f ⟨#[97, 120, 121, 122]⟩ W h (hs f hf) (hc f hf) (by decide) (by decide))
  have HJJ := Lib.hid hj
  have HXN : Hid (∀ f ∈ x.r.fields, (allF [97, 120, 121, 122] f.subs).length ≤ 100000) := Lib.hid (fun f hf => by have := allF_len [97, 120, 121, 122] f.subs f.subs.length; rw [List.take_length] at this; have := hs f hf; omega)
  have HSUB : Hid (∀ f ∈ begL [54] x.r.fields, f ∈ x.r.fields) := Lib.hid (fun f hf => (List.mem_filter.1 hf).1)
  have HLN : Hid ((begL [54] x.r.fields).length ≤ 900) := Lib.hid (by have := begL_len [54] x.r.fields x.r.fields.length; rw [List.take_length] at this; omega)
  rw [show (⟨#[54]⟩ : ByteArray).data.toList = [54] from rfl] at HF
  obtain ⟨L, hL⟩ : ∃ L, L = begL [54] x.r.fields := ⟨_, rfl⟩
  rw [← hL] at HF HSUB HLN ⊢
  obtain ⟨⟨id, ver, kind, lang, rf⟩, ra, rc⟩ := x
  unfold recV5 at HF ⊢
  simp only at HF HM HJJ HXN HSUB hl ⊢
  obtain ⟨n, hn⟩ : ∃ n, n = rf.length := ⟨_, rfl⟩
  rw [← hn] at HF hl ⊢
  obtain ⟨W0, hW0⟩ : ∃ W, W = (w.alloc (recO id ver kind lang ra n rc)).alloc (.cells #[] 9) := ⟨_, rfl⟩
  have hb0 : Below w.heap.size w W0 := by rw [hW0]; exact (Below.refl _ _).alloc2 (Nat.le_refl _) _ _
  have h0 : W0.heap[w.heap.size]? = some (recO id ver kind lang ra n rc) := by rw [hW0]; exact (alloc_old (by simp)).trans (alloc_at rfl)
  have d0 := Lib.cell_of_heap h0 0
  have d1 := Lib.cell_of_heap h0 1
  have d2 := Lib.cell_of_heap h0 2
  have d3 := Lib.cell_of_heap h0 3
  have d4 := Lib.cell_of_heap h0 4
  rw [hW0] at d0 d1 d2 d3 d4
  have HF0 := Lib.hid (HF.out W0 hb0)
  have HB0 := Lib.hid hb0
  have HW0 := Lib.hid hW0
  clear hx hs hc hj hL hn hb0 h0 HF
  go_enter Tryz.func35, Tryz.ntmps35
  go_wp2_with fail
  rw [← HW0.out]
  refine HF0.out.mono ?_
  rintro e w1 ⟨v1, rfl, ⟨⟨va, vc, rfl, hvc, hcells⟩, hmem⟩, b1⟩
  have HB1 : Hid (Below w.heap.size w w1) := Lib.hid (HB0.out.bt b1)
  have HA := Lib.hid hcells
  have HMEM := Lib.hid hmem
  obtain ⟨m, hm⟩ : ∃ m, m = L.length := ⟨_, rfl⟩
  have hm9 : m ≤ 900 := by rw [hm]; exact HLN.out
  rw [← hm] at hvc ⊢
  have HN := Lib.hid hm
  clear b1 hcells hmem hm d0 d1 d2 d3 d4 HF0 hW0
  go_wp2
  go_loopw [3, 5] (fun v i wr => ∃ k : Nat, i = .int .i64 k ∧ k ≤ m ∧ Hid ((∃ g, v = .slice (some ⟨g, 0, none⟩) 0 0 ∧ subjL (L.take k) = []) ∨ OwnS wr w1.heap.size v (subjL (L.take k))) ∧ Hid (Below w1.heap.size w1 wr)) (fun _ i _ => m - (intOf i).toNat)
  case atStart => exact ⟨0, rfl, by omega, Lib.hid (.inl ⟨_, rfl, rfl⟩), Lib.hid (Below.refl _ _)⟩
  case round =>
    obtain ⟨k, rfl, hk, HO, HB⟩ := hrel
    obtain ⟨wo, rfl⟩ : ∃ W, W = wr := ⟨_, rfl⟩
    by_cases hlt : k < m
    · have hltz : (k : Int) < (m : Int) := by omega
      obtain ⟨f, hf⟩ : ∃ x, L[k]? = some x := ⟨_, List.getElem?_eq_getElem (by have := HN.out; omega)⟩
      rcases HA.out with h0 | ⟨b, o, rfl, hb1, hcells1⟩
      · rw [h0] at hf; cases hf
      have hst := subjL_step hf
      obtain ⟨q0, q1, q2, q3⟩ := (four_of (hcells1 k f hf)).below HB.out hb1
      have hfL := List.mem_of_getElem? hf
      have hfm := HSUB.out f hfL
      obtain ⟨XS, hXS⟩ : ∃ XS, XS = allF [97, 120, 121, 122] f.subs := ⟨_, rfl⟩
      have HXL : Hid (XS.length ≤ 100000) := Lib.hid (by rw [hXS]; exact HXN.out f hfm)
      have HXJ : Hid ((joinB ⟨#[45, 45]⟩ XS).size ≤ 4000000000) := Lib.hid (by rw [hXS]; exact HJJ.out f hfm)
      have HJO := Lib.hid (fun v W (h : Strs W v XS) => rJoined XS ⟨#[45, 45]⟩ v W h HXJ.out (by have := HXL.out; omega))
      have hall := fun W (h : Below w1.heap.size w1 W) => HM.out W f hfm ((HMEM.out f hfL).below h (Nat.le_refl _))
      unfold fldV at hall
      unfold subjF at hst
      rw [← hXS] at hall
      rw [← hXS] at hst
      obtain ⟨Y, hY⟩ : ∃ Y, Y = joinB ⟨#[45, 45]⟩ XS := ⟨_, rfl⟩
      rw [← hY] at hst HJO
      obtain ⟨T, hT⟩ : ∃ T, T = lb f.tag := ⟨_, rfl⟩
      obtain ⟨I, hI⟩ : ∃ I, I = lb f.ind := ⟨_, rfl⟩
      obtain ⟨sn, hsn⟩ : ∃ sn, sn = f.subs.length := ⟨_, rfl⟩
      rw [← hT, ← hI, ← hsn] at hall
      rw [← hT] at q0
      rw [← hI] at q1
      rw [← hsn] at q2
      have hb2 : Below wo.heap.size wo wo := Below.refl _ _
      have HB2 := Lib.hid hb2
      have HAL := Lib.hid (hall _ (HB.out.bt hb2))
      have HST := Lib.hid hst
      obtain ⟨v0, hv0⟩ : ∃ v, v = u3 := ⟨_, rfl⟩
      subst hv0
      clear hcells1 hf hst hfm hfL hall hXS hY hT hI hsn hb2
      go_wp2_with fail
      refine HAL.out.mono ?_
      rintro e w2 ⟨v2, rfl, hv2, b2⟩
      have HB3 : Hid (Below wo.heap.size wo w2) := Lib.hid (HB2.out.bt b2)
      have HJ1 := Lib.hid (HJO.out v2 w2 hv2)
      obtain ⟨xa, xc, rfl, hxc, -⟩ := hv2
      have HO2 : Hid ((∃ g, v0 = .slice (some ⟨g, 0, none⟩) 0 0 ∧ subjL (L.take k) = []) ∨ OwnS w2 w1.heap.size v0 (subjL (L.take k))) := Lib.hid (by
        rcases HO.out with h | h
        · exact .inl h
        · exact .inr (own_below h HB3.out))
      obtain ⟨xn, hxn⟩ : ∃ xn, xn = XS.length := ⟨_, rfl⟩
      rw [← hxn] at HJ1 hxc ⊢
      have HXN2 := Lib.hid hxn
      clear b2 HAL HO hxn hxc
      by_cases hx0 : xn = 0
      · have HST2 : Hid (subjL (L.take (k + 1)) = subjL (L.take k)) := Lib.hid (by rw [HST.out, if_pos (List.length_eq_zero_iff.1 (by rw [← HXN2.out]; exact hx0)), List.append_nil])
        have hxz : ¬ (0 : Int) < (xn : Int) := by omega
        clear hx0 HST HJ1 HJO
        go_wp2
        go_roundw
        case rel => exact ⟨k + 1, by go_num, by omega, Lib.hid (by rw [HST2.out]; exact HO2.out), Lib.hid (HB.out.bt HB3.out)⟩
        case measure => simp [intOf]; omega
      · have HST2 : Hid (subjL (L.take (k + 1)) = subjL (L.take k) ++ [Y]) := Lib.hid (by rw [HST.out, if_neg (fun e => hx0 (by rw [HXN2.out, e]; rfl))])
        have hxz : (0 : Int) < (xn : Int) := by omega
        clear hx0 HST HJO
        go_wp2_with fail
        refine HJ1.out.mono ?_
        rintro e w3 ⟨rfl, rfl⟩
        have HB4 : Hid (Below wo.heap.size wo w2) := HB3
        have HO3 : Hid ((∃ g, v0 = .slice (some ⟨g, 0, none⟩) 0 0 ∧ subjL (L.take k) = []) ∨ OwnS (w2.alloc (.cells #[.string Y] 9)) w1.heap.size v0 (subjL (L.take k))) := Lib.hid (by
          rcases HO2.out with h | h
          · exact .inl h
          · exact .inr (own_below h ((Below.refl _ _).alloc (Nat.le_refl _) _)))
        have HZ : Hid (w1.heap.size ≤ w2.heap.size) := Lib.hid (HB.out.bt HB4.out).size
        go_wp2_with (at_builtin; refine append_str2 rfl _ _ rfl w1.heap.size v0 (subjL (L.take k)) (by simp [Act.eval]) HO3.out w2.heap.size Y (by simp [Act.eval]) (alloc_at rfl) (by have h9 := subjL_len (L.take k); have := HLN.out; rw [List.length_take] at h9; omega) (by simp only [World.size_alloc]; have := HZ.out; omega) ?_)
        intro v3 w4 ho4 b4
        have HO4 : Hid ((∃ g, v3 = .slice (some ⟨g, 0, none⟩) 0 0 ∧ subjL (L.take (k + 1)) = []) ∨ OwnS w4 w1.heap.size v3 (subjL (L.take (k + 1)))) := Lib.hid (.inr (by rw [HST2.out]; exact ho4))
        have HB5 : Hid (Below w1.heap.size w1 w4) := Lib.hid (((HB.out.bt HB4.out).alloc HZ.out _).trans b4)
        clear ho4 b4
        go_wp2
        go_roundw
        case rel => exact ⟨k + 1, by go_num, by omega, HO4, HB5⟩
        case measure => simp [intOf]; omega
    · have hltz : ¬ (k : Int) < (m : Int) := by omega
      have HFN : Hid (Strs wo u3 (subjL L)) := Lib.hid (by
        have h := HO.out
        rw [List.take_of_length_le (by have := HN.out; omega)] at h
        rcases h with ⟨g, rfl, h0⟩ | h
        · rw [h0]; exact ⟨_, 0, rfl, Nat.le_refl _, .inl rfl⟩
        · exact Strs.of_own h rfl)
      clear HO
      go_wp2
      go_ret
      exact ⟨_, rfl, HFN.out, HB1.out.bt HB.out⟩
end Go.Proofs.YtkfjeolpbopcnaaGreatDoor
