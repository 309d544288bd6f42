/- The law RecordOrders walked (layer 08). -/
import Derived.Test.YtkfjeolpbopcnaaGreatDoorEf
import Derived.Test.YtkfjeolpbopcnaaGreatDoorEg
import Derived.Test.YtkfjeolpbopcnaaGreatDoorDrp
import Derived.Test.YtkfjeolpbopcnaaGreatDoorDr7
import Derived.Deep.Quiet
namespace Go.Proofs.YtkfjeolpbopcnaaGreatDoor
open Go Go.RowKit

set_option maxRecDepth 100000 in
set_option maxHeartbeats 8000000 in
theorem law_RecordOrders (r : Rec) (a : Option Addr) (m c : Nat) (w : World) (hE : Env w) (hx0 : Flds w (.slice a m c) r.fields) (hq : Codes r) :
    Calls Tryz.prog 9 #[.agg #[.int .i64 r.id, .int .i64 r.ver, .int .i64 r.kind, .string r.lang, .slice a m c]] w fun e w' => e = .returned (.bool true) ∧ Below w.heap.size w w' := by
  obtain ⟨rfl, -⟩ := hx0.len
  have hx : RcdAt w ⟨r, a, c⟩ := hx0
  have HAL : Hid (∀ W, Below w.heap.size w W → Calls Tryz.prog 11 #[] W fun e w' => e = .returned (.bool true) ∧ Below W.heap.size W w') := Lib.hid (fun W h => lAlive W (hE.below h))
  have HVA : Hid (∀ W, Below w.heap.size w W → Calls Tryz.prog 16 #[.agg #[.int .i64 r.id, .int .i64 r.ver, .int .i64 r.kind, .string r.lang, .slice a r.fields.length c]] W fun e w' => e = .returned (.bool (validR r)) ∧ Below W.heap.size W w') := Lib.hid (fun W h => lValid ⟨r, a, c⟩ W (RcdAt.below hx h (Nat.le_refl _)) hq)
  have hl9 : validR r = true → (⟨r, a, c⟩ : Rcd).r.fields.length ≤ 900 := fun hv => by have := (good_of hv hq).len; show r.fields.length ≤ 900; omega
  have HPS : Hid (validR r = true → ∀ W, Below w.heap.size w W → Calls Tryz.prog 25 #[.agg #[.int .i64 r.id, .int .i64 r.ver, .int .i64 r.kind, .string r.lang, .slice a r.fields.length c]] W (RetR1 W (withL r (sortR r.fields)))) := Lib.hid (fun hv W h => pSorted ⟨r, a, c⟩ W (hE.below h) (RcdAt.below hx h (Nat.le_refl _)) (hl9 hv))
  obtain ⟨L, hL⟩ : ∃ L, L = sortR r.fields := ⟨_, rfl⟩
  have hlen : L.length = r.fields.length := by rw [hL]; exact sort_len _
  have HRI : Hid (validR r = true → ∀ W x y, Below w.heap.size w W → RcdAt W ⟨withL r L, x, y⟩ → Calls Tryz.prog 12 #[recV5 ⟨withL r L, x, y⟩] W (fun e w' => e = .returned (.int .i64 0) ∧ Below W.heap.size W w')) := Lib.hid (fun hv W x y h hr => by
    have hgd := sort_valid (good_of hv hq)
    rw [← hL] at hgd
    have h1 := pRecRight (withL r L) x L.length y W (hE.below h) hr hgd.2
    rwa [hgd.1] at h1)
  have HSO : Hid (validR r = true → ∀ W x y, Below w.heap.size w W → RcdAt W ⟨withL r L, x, y⟩ → Calls Tryz.prog 25 #[recV5 ⟨withL r L, x, y⟩] W (RetR1 W (withL r L))) := Lib.hid (fun hv W x y h hr => by
    have h1 := pSorted ⟨withL r L, x, y⟩ W (hE.below h) hr (by show L.length ≤ 900; have := hl9 hv; simp only at this; omega)
    have h2 : withL (withL r L) (sortR (withL r L).fields) = withL r L := by
      show withL r (sortR L) = withL r L
      rw [hL, sort_again]
    rwa [h2] at h1)
  have HSA : Hid (validR r = true → ∀ W x y x' y', RcdAt W ⟨withL r L, x', y'⟩ → RcdAt W ⟨withL r L, x, y⟩ → Calls Tryz.prog 14 #[recV5 ⟨withL r L, x', y'⟩, recV5 ⟨withL r L, x, y⟩] W (fun e w' => e = .returned (.bool true) ∧ Below W.heap.size W w')) := Lib.hid (fun hv W x y x' y' h1 h2 => by
    have hgd := sort_valid (good_of hv hq)
    rw [← hL] at hgd
    have h3 := pSameRec (withL r L) (withL r L) x' x L.length y' L.length y W h1 h2 hgd.2.1 (fun f hf => (hgd.2.2 f hf).subs)
    rwa [sameRB_refl] at h3)
  have HF1 : Hid (validR r = true → ∀ W x y (p : ByteArray), RcdAt W ⟨withL r L, x, y⟩ → Calls Tryz.prog 18 #[recV5 ⟨withL r L, x, y⟩, .string p] W (RetF W (begL p.data.toList L))) := Lib.hid (fun hv W x y p h => pFields ⟨withL r L, x, y⟩ p W h (by show L.length ≤ 900; have := hl9 hv; simp only at this; omega))
  have HF2 : Hid (validR r = true → ∀ W (p : ByteArray), Below w.heap.size w W → Calls Tryz.prog 18 #[.agg #[.int .i64 r.id, .int .i64 r.ver, .int .i64 r.kind, .string r.lang, .slice a r.fields.length c], .string p] W (RetF W (begL p.data.toList r.fields))) := Lib.hid (fun hv W p h => pFields ⟨r, a, c⟩ p W (RcdAt.below hx h (Nat.le_refl _)) (hl9 hv))
  have HSF : Hid (validR r = true → ∀ W (p : List UInt8) v v', Flds W v (begL p L) → Flds W v' (begL p L) → Calls Tryz.prog 17 #[v, v'] W (fun e w' => e = .returned (.bool true) ∧ Below W.heap.size W w')) := Lib.hid (fun hv W p v v' h1 h2 => by
    have hgd := sort_valid (good_of hv hq)
    rw [← hL] at hgd
    have hs : ∀ f ∈ begL p L, f.subs.length ≤ 1000000 := fun f hf => (hgd.2.2 f (List.mem_filter.1 hf).1).subs
    have h3 := rSameFlds v v' _ _ W h1 h2 (by have h4 : (begL p L).length ≤ L.length := List.length_filter_le _ _; have := hl9 hv; simp only at this; omega) hs hs
    rwa [sameL_refl] at h3)
  have HBG : Hid (validR r = true → ∀ f ∈ L, begL f.tag r.fields = begL f.tag L) := Lib.hid (fun hv f hf => by rw [hL] at hf ⊢; exact (sort_begL (good_of hv hq) hf).symm)
  have HST : Hid (∀ (j : Nat) (f g : Fld), L[j]? = some f → L[j + 1]? = some g → Op.bytesLess g.tag f.tag = false) := Lib.hid (fun j f g hf hg => by rw [hL] at hf hg; exact sort_step hf hg)
  rw [← hL] at HPS
  unfold recV5 withL at HRI HSO HSA HF1
  unfold withL at HPS
  simp only at HRI HSO HSA HF1 HPS
  rw [hlen] at HRI HSO HSA HF1
  have HLE : Hid (L.length = r.fields.length) := Lib.hid hlen
  have HBD : Hid (validR r = true → r.fields.length ≤ 900) := Lib.hid hl9
  obtain ⟨V, hV⟩ : ∃ S, S = validR r := ⟨_, rfl⟩
  rw [← hV] at HVA HPS HRI HSO HSA HF1 HF2 HBD HSF HBG
  clear hx0 hx hq hE hV hL hlen hl9
  obtain ⟨id, ver, kind, lang, rf⟩ := r
  simp only at HVA HPS HRI HSO HSA HF1 HF2 HLE HBD HBG ⊢
  obtain ⟨n, hn⟩ : ∃ n, n = rf.length := ⟨_, rfl⟩
  rw [← hn] at HVA HPS HRI HSO HSA HF1 HF2 HLE HBD ⊢
  clear hn
  obtain ⟨ra, hra⟩ : ∃ x, x = a := ⟨_, rfl⟩
  obtain ⟨rc, hrc⟩ : ∃ x, x = c := ⟨_, rfl⟩
  rw [← hra, ← hrc] at HVA HPS HF2 ⊢
  clear hra hrc
  obtain ⟨W0, hW0⟩ : ∃ W, W = w.alloc (recO id ver kind lang ra n rc) := ⟨_, rfl⟩
  have hb0 : Below w.heap.size w W0 := by rw [hW0]; exact (Below.refl _ _).alloc (Nat.le_refl _) _
  have h0 : W0.heap[w.heap.size]? = some (recO id ver kind lang ra n rc) := by rw [hW0]; exact alloc_at rfl
  have hs0 : W0.heap.size = w.heap.size + 1 := by rw [hW0]; simp
  have HBK : Hid (∀ W, Below W0.heap.size W0 W → W.heap[w.heap.size]? = some (recO id ver kind lang ra n rc) ∧ Below w.heap.size w W) := Lib.hid (fun W h => ⟨(h.block w.heap.size (by omega)).trans h0, hb0.bt h⟩)
  have HW0 := Lib.hid hW0
  have HB0 := Lib.hid hb0
  have p0 := Lib.cell_of_heap h0 0
  have p1 := Lib.cell_of_heap h0 1
  have p2 := Lib.cell_of_heap h0 2
  have p3 := Lib.cell_of_heap h0 3
  have p4 := Lib.cell_of_heap h0 4
  rw [hW0] at p0 p1 p2 p3 p4
  clear hb0 h0 hs0 hW0
  go_enter Tryz.func9, Tryz.ntmps9
  go_wp2_with fail
  rw [← HW0.out]
  refine (HVA.out W0 HB0.out).mono ?_
  rintro e w1 ⟨rfl, b1⟩
  have HB1 := Lib.hid b1
  clear b1 p0 p1 p2 p3 p4
  obtain ⟨h0, hb1⟩ := HBK.out w1 HB1.out
  have p0 := Lib.cell_of_heap h0 0
  have p1 := Lib.cell_of_heap h0 1
  have p2 := Lib.cell_of_heap h0 2
  have p3 := Lib.cell_of_heap h0 3
  have p4 := Lib.cell_of_heap h0 4
  have HA1 := Lib.hid (HAL.out w1 hb1)
  have HBW1 := Lib.hid hb1
  clear hb1 h0
  cases V with
  | false =>
    clear HPS HRI HSO HSA HF1 HF2 HLE HBD HSF HBG HST p0 p1 p2 p3 p4
    go_wp2_with fail
    refine HA1.out.mono ?_
    rintro e w2 ⟨rfl, b2⟩
    have HB2 := Lib.hid (HBW1.out.bt b2)
    clear b2
    go_wp2
    go_ret
    exact ⟨rfl, HB2.out⟩
  | true =>
    replace HPS := Lib.hid (HPS.out (by trivial))
    replace HRI := Lib.hid (HRI.out (by trivial))
    replace HSO := Lib.hid (HSO.out (by trivial))
    replace HSA := Lib.hid (HSA.out (by trivial))
    replace HF1 := Lib.hid (HF1.out (by trivial))
    replace HF2 := Lib.hid (HF2.out (by trivial))
    replace HSF := Lib.hid (HSF.out (by trivial))
    replace HBG := Lib.hid (HBG.out (by trivial))
    replace HBD := Lib.hid (HBD.out (by trivial))
    have CA := Lib.hid (HPS.out w1 HBW1.out)
    clear HPS HA1 HVA
    go_wp2_with fail
    refine CA.out.mono ?_
    rintro e u1 ⟨x1, y1, rfl, hr, bb⟩
    unfold recV5
    simp only at hr ⊢
    rw [HLE.out]
    have hba : Below u1.heap.size u1 (u1.alloc (recO id ver kind lang x1 n y1)) := (Below.refl _ _).alloc (Nat.le_refl _) _
    have HB2 := Lib.hid (HB1.out.bt (bb.bt hba))
    have HR1 : Hid (∀ V, Below (u1.alloc (recO id ver kind lang x1 n y1)).heap.size (u1.alloc (recO id ver kind lang x1 n y1)) V → V.heap[u1.heap.size]? = some (recO id ver kind lang x1 n y1) ∧ RcdAt V ⟨⟨id, ver, kind, lang, L⟩, x1, y1⟩) := Lib.hid (fun V h => ⟨(h.block _ (by simp)).trans (alloc_at rfl), RcdAt.below (RcdAt.below hr hba (Nat.le_refl _)) h (Nat.le_refl _)⟩)
    clear hr bb hba CA HB1 HBW1 p0 p1 p2 p3 p4
    go_upto_region 4 with fail
    obtain ⟨A, hA⟩ : ∃ W, W = u1.alloc (recO id ver kind lang x1 n y1) := ⟨_, rfl⟩
    rw [← hA] at HR1 HB2 ⊢
    obtain ⟨n1, hn1⟩ : ∃ n, n = u1.heap.size := ⟨_, rfl⟩
    rw [← hn1] at HR1 ⊢
    clear hA hn1
    have HBA : Hid (∀ V, Below A.heap.size A V → V.heap[w.heap.size]? = some (recO id ver kind lang ra n rc) ∧ Below w.heap.size w V) := Lib.hid (fun V h => HBK.out V (HB2.out.bt h))
    clear HBK HB2 HB0 HW0
    refine or_four w.heap.size n1 id ver kind lang ra n rc x1 y1 ⟨id, ver, kind, lang, L⟩ (HBA.out A (Below.refl _ _)).1 (HR1.out A (Below.refl _ _)).1
      (Lib.hid (fun W h => HRI.out W x1 y1 (HBA.out W h).2 (HR1.out W h).2)) (Lib.hid (fun W h => HSO.out W x1 y1 (HBA.out W h).2 (HR1.out W h).2))
      (Lib.hid (fun W x y h hr => by
        have h1 := HSA.out W x1 y1 x y hr (HR1.out W h).2
        unfold recV5
        simp only
        rw [HLE.out]
        exact h1)) (by kernel_rfl) rfl ?_
    intro xs A2 hbA e29
    replace e29 : xs 29 = .bool false := e29
    have HA2 := Lib.hid hbA
    clear hbA HRI HSO HSA
    obtain ⟨h1, -⟩ := HR1.out A2 HA2.out
    have c4 := Lib.cell_of_heap h1 4
    clear h1
    simp only [e29]
    go_wp2
    clear c4
    go_loopw [33] (fun i wr => ∃ k : Nat, i = .int .i64 k ∧ k ≤ n ∧ Hid (Below A.heap.size A wr)) (fun i _ => n - (intOf i).toNat)
    case atStart => exact ⟨0, rfl, by omega, HA2⟩
    case round =>
      obtain ⟨k, rfl, hk, HK⟩ := hrel
      by_cases hlt : k < n
      · have hltz : (k : Int) < (n : Int) := by omega
        obtain ⟨f, hf⟩ : ∃ f, L[k]? = some f := ⟨_, List.getElem?_eq_getElem (by have := HLE.out; omega)⟩
        obtain ⟨h1, hr1⟩ := HR1.out wr HK.out
        obtain ⟨h0, hw⟩ := HBA.out wr HK.out
        obtain ⟨sb, so, hx1, hcl⟩ : ∃ sb so, x1 = some (⟨sb, so, none⟩ : Addr) ∧ ∀ j g, L[j]? = some g → wr.cell? ⟨sb, so + j * 4, none⟩ = some (.string (lb g.tag)) := by
          obtain ⟨⟨a', c', he, -, hcells⟩, -⟩ := hr1
          cases he
          rcases hcells with h0 | ⟨b, o, h1, hbl, hcl⟩
          · simp only at h0; rw [h0] at hf; cases hf
          · exact ⟨b, o, h1, fun j g hg => (four_of (hcl j g hg)).c0⟩
        have c0 := hcl k f hf
        have hfm := List.mem_of_getElem? hf
        have Y1 := Lib.hid (fun W (h : Below wr.heap.size wr W) => HF1.out W x1 y1 (lb f.tag) (HR1.out W (HK.out.bt h)).2)
        have Y2 := Lib.hid (fun W (h : Below wr.heap.size wr W) => HF2.out W (lb f.tag) (HBA.out W (HK.out.bt h)).2)
        have Y3 : Hid (∀ W v v', Below wr.heap.size wr W → Flds W v (begL f.tag L) → Flds W v' (begL f.tag L) → Calls Tryz.prog 17 #[v, v'] W (fun e w' => e = .returned (.bool true) ∧ Below W.heap.size W w')) := Lib.hid (fun W v v' _ h1 h2 => HSF.out W f.tag v v' h1 h2)
        rw [lb_data] at Y1 Y2
        rw [HBG.out f hfm] at Y2
        subst hx1
        by_cases hp : (0 : Int) < (k : Int)
        · obtain ⟨j, rfl⟩ : ∃ j, k = j + 1 := ⟨k - 1, by omega⟩
          obtain ⟨g, hg⟩ : ∃ g, L[j]? = some g := ⟨_, List.getElem?_eq_getElem (by have := HLE.out; omega)⟩
          have c1 := hcl j g hg
          have hless : Op.bytesLess (lb f.tag).toList (lb g.tag).toList = false := by rw [lb_list, lb_list]; exact HST.out j g f hg hf
          obtain ⟨kk, hkk⟩ : ∃ kk, kk = j + 1 := ⟨_, rfl⟩
          rw [← hkk] at c0 hp hltz hlt hk ⊢
          have hwp : IntKind.i64.wrap ((kk : Int) - 1) = (j : Int) := by rw [IntKind.wrap_i64]; have := HBD.out; omega
          have hjn : (j : Int) < (n : Int) := by omega
          have HLT := Lib.hid hlt
          clear hkk hcl hg hf hfm hw hr1 hlt
          go_upto_region 9 with fail
          refine or_next w.heap.size n1 id ver kind lang ra n rc y1 sb so (lb f.tag) (begL f.tag L) kk j (lb g.tag) h0 h1 hltz hp c0 c1 hwp hjn hless Y1 Y2 Y3 (by kernel_rfl) rfl ?_
          intro xs2 W hb e73
          replace e73 : xs2 73 = .bool false := e73
          have HK2 := Lib.hid (HK.out.bt hb)
          clear hb h0 h1 c0 c1 hwp hjn hless hp
          simp only [e73]
          have hinc : IntKind.i64.wrap ((kk : Int) + 1) = ((kk + 1 : Nat) : Int) := by rw [IntKind.wrap_i64]; have := HBD.out; have := HLT.out; omega
          go_wp2
          go_roundw
          case rel => exact ⟨kk + 1, by go_num, by have := HLT.out; omega, HK2⟩
          case measure => have := HLT.out; simp [intOf]; omega
        · have HLT := Lib.hid hlt
          clear hcl hf hfm hw hr1 hlt
          go_upto_region 9 with fail
          refine or_first w.heap.size n1 id ver kind lang ra n rc y1 sb so (lb f.tag) (begL f.tag L) k h0 h1 hltz hp c0 Y1 Y2 Y3 (by kernel_rfl) rfl ?_
          intro xs2 W hb e73
          replace e73 : xs2 73 = .bool false := e73
          have HK2 := Lib.hid (HK.out.bt hb)
          clear hb h0 h1 c0 hp
          simp only [e73]
          have hinc : IntKind.i64.wrap ((k : Int) + 1) = ((k + 1 : Nat) : Int) := by rw [IntKind.wrap_i64]; have := HBD.out; have := HLT.out; omega
          go_wp2
          go_roundw
          case rel => exact ⟨k + 1, by go_num, by have := HLT.out; omega, HK2⟩
          case measure => have := HLT.out; simp [intOf]; omega
      · have hltz : ¬ (k : Int) < (n : Int) := by omega
        obtain ⟨h1, -⟩ := HR1.out wr HK.out
        obtain ⟨h0, hw⟩ := HBA.out wr HK.out
        have p0 := Lib.cell_of_heap h0 0
        have p1 := Lib.cell_of_heap h0 1
        have p2 := Lib.cell_of_heap h0 2
        have p3 := Lib.cell_of_heap h0 3
        have p4 := Lib.cell_of_heap h0 4
        have c0 := Lib.cell_of_heap h1 0
        have c1 := Lib.cell_of_heap h1 1
        have c2 := Lib.cell_of_heap h1 2
        have c3 := Lib.cell_of_heap h1 3
        have c4 := Lib.cell_of_heap h1 4
        have CA := Lib.hid (HAL.out wr hw)
        have HW := Lib.hid hw
        clear h0 h1 hw
        go_wp2_with fail
        refine CA.out.mono ?_
        rintro e u6 ⟨rfl, bb⟩
        have HB9 := Lib.hid (HW.out.bt bb)
        clear bb
        go_wp2
        go_ret
        exact ⟨rfl, HB9.out⟩
end Go.Proofs.YtkfjeolpbopcnaaGreatDoor
