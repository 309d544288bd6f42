/- The walks of a record's Right on both sides (layers 18, 16, 08). -/
import Derived.Test.YtkfjeolpbopcnaaGreatDoorMfr
import Derived.Test.YtkfjeolpbopcnaaGreatDoorMfx
namespace Go.Proofs.YtkfjeolpbopcnaaGreatDoor
open Go Go.RowKit

theorem langOk_cases (L : ByteArray) : (L.size ≠ 3 ∧ langOk L = false) ∨ (L.size = 3 ∧ langOk L = L.data.toList.all lowB) := by
  unfold langOk
  by_cases h : L.size = 3
  · rw [h]; exact .inr ⟨rfl, rfl⟩
  · exact .inl ⟨h, by simp [h]⟩
theorem pTrimLow (s : ByteArray) (w : World) (hs : s.size ≤ 4000000000) :
    ∃ T : ByteArray, T.toList.isEmpty = s.data.toList.all lowB ∧ Calls Tryz.prog 38 #[.string s, .string ⟨#[97, 98, 99, 100, 101, 102, 103, 104, 105, 106, 107, 108, 109, 110, 111, 112, 113, 114, 115, 116, 117, 118, 119, 120, 121, 122]⟩] w fun e w' => e = .returned (.string T) ∧ Below w.heap.size w w' := by
  refine ⟨⟨(Lib.trimS s.data.toList lowSet).toArray⟩, ?_, ?_⟩
  · rw [ByteArray.toList_eq]
    exact trim_set low_set s.data.toList
  · exact Any.strings_Trim_laid Tryz.lays160 (by kernel_rfl) s ⟨#[97, 98, 99, 100, 101, 102, 103, 104, 105, 106, 107, 108, 109, 110, 111, 112, 113, 114, 115, 116, 117, 118, 119, 120, 121, 122]⟩ w (by omega) (by decide) (ascii_of_all (by decide))

set_option maxRecDepth 100000 in
set_option maxHeartbeats 8000000 in
theorem pRecRight (r : Rec) (a : Option Addr) (n0 c : Nat) (w : World) (hE : Env w) (hv : Flds w (.slice a n0 c) r.fields) (hs : r.small) :
    Calls Tryz.prog 12 #[.agg #[.int .i64 r.id, .int .i64 r.ver, .int .i64 r.kind, .string r.lang, .slice a n0 c]] w fun e w' => e = .returned (.int .i64 (recErr r)) ∧ Below w.heap.size w w' := by
  obtain ⟨R, hR⟩ : ∃ R, R = recErr r := ⟨_, rfl⟩
  rw [← hR]
  unfold recErr at hR
  obtain ⟨id, ver, kind, lang, l⟩ := r
  obtain ⟨hs1, hs2⟩ := hs
  obtain ⟨⟨a', c', he, hc, hcells⟩, hfl⟩ := hv
  simp only at hs1 hs2 hcells hfl hc he hR ⊢
  cases he
  obtain ⟨n, hnn⟩ : ∃ n, n = l.length := ⟨_, rfl⟩
  rw [← hnn] at hs1 hc hR ⊢
  have HB0 : Hid (Below w.heap.size w (recW w id ver kind lang a n c)) := Lib.hid ((Below.refl _ _).alloc (Nat.le_refl _) _)
  have HN := Lib.hid hnn
  have HC := Lib.hid hcells
  have HF := Lib.hid hfl
  have HS := Lib.hid hs2
  have HE : Hid (Env (recW w id ver kind lang a n c)) := Lib.hid (hE.below HB0.out)
  clear hnn hcells hfl hs2 hE
  by_cases g1 : id < 0 ∨ 9999 < id
  · rw [if_pos g1] at hR
    have HR := Lib.hid hR
    clear hR
    rcases (by omega : id < 0 ∨ (0 ≤ id ∧ 9999 < id)) with h | ⟨h, h'⟩
    all_goals
      clear g1
      go_enter Tryz.func12, Tryz.ntmps12
      go_wp2
      go_ret
      exact ⟨by rw [HR.out]; rfl, HB0.out⟩
  rw [if_neg g1] at hR
  obtain ⟨i1, i2⟩ : 0 ≤ id ∧ id ≤ 9999 := by omega
  clear g1
  by_cases g2 : ver < 1 ∨ 3 < ver
  · rw [if_pos g2] at hR
    have HR := Lib.hid hR
    clear hR
    rcases (by omega : ver < 1 ∨ (1 ≤ ver ∧ 3 < ver)) with h | ⟨h, h'⟩
    all_goals
      clear g2
      go_enter Tryz.func12, Tryz.ntmps12
      go_wp2
      go_ret
      exact ⟨by rw [HR.out]; rfl, HB0.out⟩
  rw [if_neg g2] at hR
  obtain ⟨i3, i4⟩ : 1 ≤ ver ∧ ver ≤ 3 := by omega
  clear g2
  by_cases g3 : kind < 1 ∨ 4 < kind
  · rw [if_pos g3] at hR
    have HR := Lib.hid hR
    clear hR
    rcases (by omega : kind < 1 ∨ (1 ≤ kind ∧ 4 < kind)) with h | ⟨h, h'⟩
    all_goals
      clear g3
      go_enter Tryz.func12, Tryz.ntmps12
      go_wp2
      go_ret
      exact ⟨by rw [HR.out]; rfl, HB0.out⟩
  rw [if_neg g3] at hR
  obtain ⟨i5, i6⟩ : 1 ≤ kind ∧ kind ≤ 4 := by omega
  clear g3
  rcases langOk_cases lang with ⟨h1, h9⟩ | ⟨h1, h9⟩
  · rw [h9] at hR
    have HR : Hid (R = 3) := Lib.hid (by rw [hR, if_pos rfl])
    have n3 : (((lang.size : Nat) : Int) != 3) = true := by
      have : ((lang.size : Nat) : Int) ≠ 3 := by omega
      simpa using this
    clear hR h9 h1
    go_enter Tryz.func12, Tryz.ntmps12
    go_wp2
    go_ret
    exact ⟨by rw [HR.out]; rfl, HB0.out⟩
  · obtain ⟨T, hT, htr⟩ := pTrimLow lang (recW w id ver kind lang a n c) (by omega)
    have n3 : (((lang.size : Nat) : Int) != 3) = false := by
      have : ((lang.size : Nat) : Int) = 3 := by omega
      simpa using this
    rw [h9] at hR
    obtain ⟨D, hD⟩ : ∃ D, D = lang.data.toList.all lowB := ⟨_, rfl⟩
    rw [← hD] at hR hT
    have HTR := Lib.hid htr
    clear htr hD h9 h1
    cases D with
    | false =>
      have HR : Hid (R = 3) := Lib.hid (by rw [hR, if_pos rfl])
      clear hR
      go_enter Tryz.func12, Tryz.ntmps12
      go_wp2_with fail
      refine HTR.out.mono ?_
      rintro e w1 ⟨rfl, b1⟩
      have q4 := block_cells b1 4 (.slice a n c) rfl
      have HB1 : Hid (Below (recW w id ver kind lang a n c).heap.size (recW w id ver kind lang a n c) w1) := Lib.hid b1
      have HW1 := Lib.hid (HB0.out.bt b1)
      clear b1
      go_wp2
      go_ret
      exact ⟨by rw [HR.out]; rfl, HW1.out⟩
    | true =>
      rw [if_neg (by simp)] at hR
      by_cases hn64 : 64 < n
      · have hn64z : (64 : Int) < (n : Int) := by omega
        have HR : Hid (R = 4) := Lib.hid (by rw [hR, if_pos hn64])
        clear hR hn64
        go_enter Tryz.func12, Tryz.ntmps12
        go_wp2_with fail
        refine HTR.out.mono ?_
        rintro e w1 ⟨rfl, b1⟩
        have q4 := block_cells b1 4 (.slice a n c) rfl
        have HB1 : Hid (Below (recW w id ver kind lang a n c).heap.size (recW w id ver kind lang a n c) w1) := Lib.hid b1
        have HW1 := Lib.hid (HB0.out.bt b1)
        clear b1
        go_wp2
        go_ret
        exact ⟨by rw [HR.out]; rfl, HW1.out⟩
      rw [if_neg hn64] at hR
      have hn64z : (n : Int) ≤ 64 := by omega
      have HR : Hid (R = fldsErr (l.drop 0)) := Lib.hid (by rw [hR, List.drop_zero])
      clear hR hn64
      go_enter Tryz.func12, Tryz.ntmps12
      go_wp2_with fail
      refine HTR.out.mono ?_
      rintro e w1 ⟨rfl, b1⟩
      have q4 := block_cells b1 4 (.slice a n c) rfl
      have HB1 : Hid (Below (recW w id ver kind lang a n c).heap.size (recW w id ver kind lang a n c) w1) := Lib.hid b1
      have HW1 := Lib.hid (HB0.out.bt b1)
      clear b1
      go_wp2
      go_loopw [52] (fun vk wr => ∃ k : Nat, vk = .int .i64 k ∧ k ≤ n ∧ Hid (R = fldsErr (l.drop k)) ∧ Hid (Below (recW w id ver kind lang a n c).heap.size (recW w id ver kind lang a n c) wr)) (fun vk _ => n - (intOf vk).toNat)
      case atStart => exact ⟨0, rfl, by omega, HR, HB1⟩
      case round =>
        obtain ⟨k, rfl, hk, HKK, HB⟩ := hrel
        have HBW := Lib.hid (HB0.out.bt HB.out)
        by_cases hlt : k < n
        · have hltz : (k : Int) < (n : Int) := by omega
          obtain ⟨f, hf⟩ : ∃ f, l[k]? = some f := ⟨_, List.getElem?_eq_getElem (by have := HN.out; omega)⟩
          rcases HC.out with h0 | ⟨b, o, rfl, hbl, hcl⟩
          · rw [h0] at hf; cases hf
          obtain ⟨p0, p1, p2, p3⟩ := (four_of (hcl k f hf)).below HBW.out hbl
          have hst := HKK.out
          rw [fldsErr_step hf] at hst
          have hat := HF.out f (List.mem_of_getElem? hf)
          have hsf := HS.out f (List.mem_of_getElem? hf)
          have HB1' : Hid (Below (recW w id ver kind lang (some ⟨b, o, none⟩) n c).heap.size (recW w id ver kind lang (some ⟨b, o, none⟩) n c) (fldW wr (lb f.tag) (lb f.ind) f.sa f.subs.length f.sc f.auth)) := Lib.hid (HB.out.alloc HB.out.size _)
          have hck := pFldRight f (fldW wr (lb f.tag) (lb f.ind) f.sa f.subs.length f.sc f.auth) (HE.out.below HB1'.out) (hat.below (HB0.out.bt HB1'.out) (Nat.le_refl _)) hsf
          obtain ⟨x, hx⟩ : ∃ x, x = fldErr f := ⟨_, rfl⟩
          rw [← hx] at hst hck
          have HCK := Lib.hid hck
          clear HKK hf hcl hck hx HR hat hsf
          obtain ⟨T, hT⟩ : ∃ T, T = lb f.tag := ⟨_, rfl⟩
          obtain ⟨I, hI⟩ : ∃ I, I = lb f.ind := ⟨_, rfl⟩
          obtain ⟨sn, hsn⟩ : ∃ sn, sn = f.subs.length := ⟨_, rfl⟩
          rw [← hT] at p0 HCK HB1'
          rw [← hI] at p1 HCK HB1'
          rw [← hsn] at p2 HCK HB1'
          clear hT hI hsn
          by_cases h3 : x = 0
          · subst h3
            rw [if_neg (by simp)] at hst
            have HT := Lib.hid hst
            clear hst
            go_wp2_with fail
            refine HCK.out.mono ?_
            rintro e w4 ⟨rfl, b4⟩
            have HB4 := Lib.hid (HB1'.out.bt b4)
            clear b4
            go_wp2
            go_roundw
            case rel => exact ⟨k + 1, by go_num, by omega, HT, HB4⟩
            case measure => simp [intOf]; omega
          · rw [if_pos h3] at hst
            have HT := Lib.hid hst
            have h3' : (x != 0) = true := by simpa using h3
            clear hst h3
            go_wp2_with fail
            refine HCK.out.mono ?_
            rintro e w4 ⟨rfl, b4⟩
            have HW4 := Lib.hid (HB0.out.bt (HB1'.out.bt b4))
            clear b4
            go_wp2
            go_ret
            exact ⟨by rw [HT.out]; rfl, HW4.out⟩
        · have hltz : ¬ (k : Int) < (n : Int) := by omega
          have HT : Hid (R = 0) := Lib.hid (by rw [HKK.out, List.drop_eq_nil_of_le (by have := HN.out; omega)]; rfl)
          clear HKK HR
          go_wp2
          go_ret
          exact ⟨by rw [HT.out]; rfl, HBW.out⟩

theorem low_cases (b : UInt8) : (97 ≤ ((b.toNat : Nat) : Int) ∧ ((b.toNat : Nat) : Int) ≤ 122 ∧ lowB b = true) ∨ (((b.toNat : Nat) : Int) < 97 ∧ lowB b = false) ∨ (97 ≤ ((b.toNat : Nat) : Int) ∧ 122 < ((b.toNat : Nat) : Int) ∧ lowB b = false) := by
  unfold lowB
  simp only [decide_eq_true_eq, decide_eq_false_iff_not]
  omega

set_option maxRecDepth 100000 in
set_option maxHeartbeats 8000000 in
theorem rRecRight (r : Rec) (a : Option Addr) (n0 c : Nat) (w : World) (hv : Flds w (.slice a n0 c) r.fields) (hs : r.small) :
    Calls Tryz.prog 13 #[.agg #[.int .i64 r.id, .int .i64 r.ver, .int .i64 r.kind, .string r.lang, .slice a n0 c]] w fun e w' => e = .returned (.int .i64 (recErr r)) ∧ Below w.heap.size w w' := by
  obtain ⟨R, hR⟩ : ∃ R, R = recErr r := ⟨_, rfl⟩
  rw [← hR]
  unfold recErr at hR
  obtain ⟨id, ver, kind, lang, l⟩ := r
  obtain ⟨hs1, hs2⟩ := hs
  obtain ⟨⟨a', c', he, hc, hcells⟩, hfl⟩ := hv
  simp only at hs1 hs2 hcells hfl hc he hR ⊢
  cases he
  obtain ⟨n, hnn⟩ : ∃ n, n = l.length := ⟨_, rfl⟩
  rw [← hnn] at hs1 hc hR ⊢
  have HB0 : Hid (Below w.heap.size w (recW w id ver kind lang a n c)) := Lib.hid ((Below.refl _ _).alloc (Nat.le_refl _) _)
  have HN := Lib.hid hnn
  have HC := Lib.hid hcells
  have HF := Lib.hid hfl
  have HS := Lib.hid hs2
  clear hnn hcells hfl hs2
  by_cases g1 : id < 0 ∨ 9999 < id
  · rw [if_pos g1] at hR
    have HR := Lib.hid hR
    clear hR
    rcases (by omega : id < 0 ∨ (0 ≤ id ∧ 9999 < id)) with h | ⟨h, h'⟩
    all_goals
      clear g1
      go_enter Tryz.func13, Tryz.ntmps13
      go_wp2
      go_ret
      exact ⟨by rw [HR.out]; rfl, HB0.out⟩
  rw [if_neg g1] at hR
  obtain ⟨i1, i2⟩ : 0 ≤ id ∧ id ≤ 9999 := by omega
  clear g1
  by_cases g2 : ver < 1 ∨ 3 < ver
  · rw [if_pos g2] at hR
    have HR := Lib.hid hR
    clear hR
    rcases (by omega : ver < 1 ∨ (1 ≤ ver ∧ 3 < ver)) with h | ⟨h, h'⟩
    all_goals
      clear g2
      go_enter Tryz.func13, Tryz.ntmps13
      go_wp2
      go_ret
      exact ⟨by rw [HR.out]; rfl, HB0.out⟩
  rw [if_neg g2] at hR
  obtain ⟨i3, i4⟩ : 1 ≤ ver ∧ ver ≤ 3 := by omega
  clear g2
  by_cases g3 : kind < 1 ∨ 4 < kind
  · rw [if_pos g3] at hR
    have HR := Lib.hid hR
    clear hR
    rcases (by omega : kind < 1 ∨ (1 ≤ kind ∧ 4 < kind)) with h | ⟨h, h'⟩
    all_goals
      clear g3
      go_enter Tryz.func13, Tryz.ntmps13
      go_wp2
      go_ret
      exact ⟨by rw [HR.out]; rfl, HB0.out⟩
  rw [if_neg g3] at hR
  obtain ⟨i5, i6⟩ : 1 ≤ kind ∧ kind ≤ 4 := by omega
  clear g3
  rcases langOk_cases lang with ⟨h1, h9⟩ | ⟨h1, h9⟩
  · rw [h9] at hR
    have HR : Hid (R = 3) := Lib.hid (by rw [hR, if_pos rfl])
    have n3 : (((lang.size : Nat) : Int) != 3) = true := by
      have : ((lang.size : Nat) : Int) ≠ 3 := by omega
      simpa using this
    clear hR h9 h1
    go_enter Tryz.func13, Tryz.ntmps13
    go_wp2
    go_ret
    exact ⟨by rw [HR.out]; rfl, HB0.out⟩
  · have n3 : (((lang.size : Nat) : Int) != 3) = false := by
      have : ((lang.size : Nat) : Int) = 3 := by omega
      simpa using this
    have hlz : (3 : Int) ≤ ((lang.size : Nat) : Int) := by omega
    have hl3 : 3 ≤ lang.size := by omega
    rw [h9] at hR
    have HR := Lib.hid hR
    have HL : Hid (lang.data.toList.length = 3) := Lib.hid (by rw [len_lst]; exact h1)
    clear hR h9 h1
    go_enter Tryz.func13, Tryz.ntmps13
    go_wp2
    go_loopw [3] (fun vk wr => ∃ k : Nat, vk = .int .i64 k ∧ k ≤ 3 ∧ wr = recW w id ver kind lang a n c ∧ Hid ((lang.data.toList.take k).all lowB = true)) (fun vk _ => 3 - (intOf vk).toNat)
    case atStart => exact ⟨0, rfl, by omega, rfl, Lib.hid rfl⟩
    case round =>
      obtain ⟨k, rfl, hk, rfl, HKK⟩ := hrel
      by_cases hlt : k < 3
      · have hltz : (k : Int) < 3 := by omega
        have hlz2 : (k : Int) < ((lang.size : Nat) : Int) := by omega
        have hll : k < lang.size := by omega
        have hx : lang.data.toList[k]? = some lang[k] := by
          rw [List.getElem?_eq_getElem (by rw [len_lst]; exact hll)]; rfl
        have hmem : lang[k] ∈ lang.data.toList := List.mem_of_getElem? hx
        rcases low_cases lang[k] with ⟨x1, x2, x3⟩ | ⟨x1, x3⟩ | ⟨x1, x2, x3⟩
        · have HT : Hid ((lang.data.toList.take (k + 1)).all lowB = true) := Lib.hid (by
            have h := HKK.out
            rw [List.take_add_one, hx, List.all_append, h]
            simp [x3])
          clear HKK hx hmem x3
          go_wp2
          go_roundw
          case rel => exact ⟨k + 1, by go_num, by omega, by trivial, HT⟩
          case measure => simp [intOf]; omega
        · have HT : Hid (R = 3) := Lib.hid (by
            have hf : lang.data.toList.all lowB = false := List.all_eq_false.2 ⟨_, hmem, by rw [x3]; simp⟩
            rw [HR.out, hf]; rfl)
          clear HKK hx hmem x3 HR
          go_wp2
          go_ret
          exact ⟨by rw [HT.out]; rfl, HB0.out⟩
        · have HT : Hid (R = 3) := Lib.hid (by
            have hf : lang.data.toList.all lowB = false := List.all_eq_false.2 ⟨_, hmem, by rw [x3]; simp⟩
            rw [HR.out, hf]; rfl)
          clear HKK hx hmem x3 HR
          go_wp2
          go_ret
          exact ⟨by rw [HT.out]; rfl, HB0.out⟩
      · have hltz : ¬ (k : Int) < 3 := by omega
        have hall : lang.data.toList.all lowB = true := by
          have h := HKK.out
          rwa [List.take_of_length_le (by have := HL.out; omega)] at h
        have hR := HR.out
        rw [hall, if_neg (by simp)] at hR
        clear HKK hall HR
        by_cases hn64 : 64 < n
        · have hn64z : (64 : Int) < (n : Int) := by omega
          have HR : Hid (R = 4) := Lib.hid (by rw [hR, if_pos hn64])
          clear hR hn64
          go_wp2
          go_ret
          exact ⟨by rw [HR.out]; rfl, HB0.out⟩
        rw [if_neg hn64] at hR
        have hn64z : (n : Int) ≤ 64 := by omega
        have HR : Hid (R = fldsErr (l.drop 0)) := Lib.hid (by rw [hR, List.drop_zero])
        clear hR hn64
        go_wp2
        go_loopw [4] (fun vk wr => ∃ k : Nat, vk = .int .i64 k ∧ k ≤ n ∧ Hid (R = fldsErr (l.drop k)) ∧ Hid (Below (recW w id ver kind lang a n c).heap.size (recW w id ver kind lang a n c) wr)) (fun vk _ => n - (intOf vk).toNat)
        case atStart => exact ⟨0, rfl, by omega, HR, Lib.hid (Below.refl _ _)⟩
        case round =>
          obtain ⟨k, rfl, hk, HKK, HB⟩ := hrel
          have HBW := Lib.hid (HB0.out.bt HB.out)
          have q4 := block_cells HB.out 4 (.slice a n c) rfl
          by_cases hlt : k < n
          · have hltz : (k : Int) < (n : Int) := by omega
            obtain ⟨f, hf⟩ : ∃ f, l[k]? = some f := ⟨_, List.getElem?_eq_getElem (by have := HN.out; omega)⟩
            rcases HC.out with h0 | ⟨b, o, rfl, hbl, hcl⟩
            · rw [h0] at hf; cases hf
            obtain ⟨p0, p1, p2, p3⟩ := (four_of (hcl k f hf)).below HBW.out hbl
            have hst := HKK.out
            rw [fldsErr_step hf] at hst
            have hat := HF.out f (List.mem_of_getElem? hf)
            have hsf := HS.out f (List.mem_of_getElem? hf)
            have hck := rFldRight f wr (hat.below HBW.out (Nat.le_refl _)) hsf
            obtain ⟨x, hx⟩ : ∃ x, x = fldErr f := ⟨_, rfl⟩
            rw [← hx] at hst hck
            have HCK := Lib.hid hck
            clear HKK hf hcl hck hx HR hat hsf
            obtain ⟨T, hT⟩ : ∃ T, T = lb f.tag := ⟨_, rfl⟩
            obtain ⟨I, hI⟩ : ∃ I, I = lb f.ind := ⟨_, rfl⟩
            obtain ⟨sn, hsn⟩ : ∃ sn, sn = f.subs.length := ⟨_, rfl⟩
            rw [← hT] at p0 HCK
            rw [← hI] at p1 HCK
            rw [← hsn] at p2 HCK
            clear hT hI hsn
            by_cases h3 : x = 0
            · subst h3
              rw [if_neg (by simp)] at hst
              have HT := Lib.hid hst
              clear hst
              go_wp2_with fail
              refine HCK.out.mono ?_
              rintro e w4 ⟨rfl, b4⟩
              have HB4 := Lib.hid (HB.out.bt b4)
              clear b4
              go_wp2
              go_roundw
              case rel => exact ⟨k + 1, by go_num, by omega, HT, HB4⟩
              case measure => simp [intOf]; omega
            · rw [if_pos h3] at hst
              have HT := Lib.hid hst
              have h3' : (x != 0) = true := by simpa using h3
              clear hst h3
              go_wp2_with fail
              refine HCK.out.mono ?_
              rintro e w4 ⟨rfl, b4⟩
              have HW4 := Lib.hid (HBW.out.bt b4)
              clear b4
              go_wp2
              go_ret
              exact ⟨by rw [HT.out]; rfl, HW4.out⟩
          · have hltz : ¬ (k : Int) < (n : Int) := by omega
            have HT : Hid (R = 0) := Lib.hid (by rw [HKK.out, List.drop_eq_nil_of_le (by have := HN.out; omega)]; rfl)
            clear HKK HR
            go_wp2
            go_ret
            exact ⟨by rw [HT.out]; rfl, HBW.out⟩
end Go.Proofs.YtkfjeolpbopcnaaGreatDoor
