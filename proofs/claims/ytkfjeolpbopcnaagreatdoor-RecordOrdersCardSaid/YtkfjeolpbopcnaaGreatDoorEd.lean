/- The walks of record.Fields, of the reference's Begins and Fields (layer 08). The walks of field.All and of the reference's in and All (layer 08). The walks of the reference's All, and of Get on both sides (layer 08). The walk of field.Get (layer 08). Joining texts: plain laws, and the walks of the references' two joins (layer 08). The walks of record.first, of the two Plain and the two Title (layer 08). The walks of the two Plain and the two Title (layer 08). -/
import Derived.Test.YtkfjeolpbopcnaaGreatDoorEc
import Derived.Lib.IndexAny
import Derived.Test.YtkfjeolpbopcnaaGreatDoorPfl
import Derived.Lib.Join
import Derived.Test.YtkfjeolpbopcnaaGreatDoorPcn
import Derived.Test.YtkfjeolpbopcnaaGreatDoorRcn
import Derived.Test.YtkfjeolpbopcnaaGreatDoorMfs
namespace Go.Proofs.YtkfjeolpbopcnaaGreatDoor
open Go Go.RowKit

/-- The fields whose tag begins so. -/
def begL (p : List UInt8) (l : List Fld) : List Fld := l.filter fun f => Lib.hasPrefix f.tag p
theorem begL_step {p : List UInt8} {l : List Fld} {k : Nat} {f : Fld} (h : l[k]? = some f) : begL p (l.take (k + 1)) = begL p (l.take k) ++ (if Lib.hasPrefix f.tag p = true then [f] else []) := by
  rw [List.take_add_one, h]
  unfold begL
  rw [List.filter_append]
  congr 1
  by_cases e : Lib.hasPrefix f.tag p = true <;> simp [e]
theorem begL_len (p : List UInt8) (l : List Fld) (k : Nat) : (begL p (l.take k)).length ≤ k :=
  Nat.le_trans (List.length_filter_le _ _) (by rw [List.length_take]; omega)
/-- A call returns fields. -/
def RetF (w : World) (l : List Fld) (e : Ending) (w' : World) : Prop := ∃ v, e = .returned v ∧ Flds w' v l ∧ Below w.heap.size w w'
theorem one_cells (f : Fld) (W : World) (g : Nat) (T I : ByteArray) (sn : Nat) (hT : T = lb f.tag) (hI : I = lb f.ind) (hs : sn = f.subs.length) (hg : W.heap[g]? = some (.cells #[.string T, .string I, .slice f.sa sn f.sc, .int .i64 f.auth] 35 (0, 0))) :
    ∀ ad, some (⟨g, 0, none⟩ : Addr) = some ad → ∀ j u, (flatE fldE [f])[j]? = some u → W.cell? (ad.add j) = some u := by
  intro ad e j u hj
  cases e
  subst hT hI hs
  exact cells_fld (f := f) (four_of (fun i u hi => by rw [Nat.zero_add, Lib.cell_of_heap hg]; simpa [fldE] using hi)) j u hj
theorem flds_own {w : World} {B : Nat} {v : Value} {l : List Fld} (h : OwnR w B v l) (hf : ∀ f ∈ l, FldAt w f) : Flds w v l := ⟨Rows.of_own fldE_len h rfl, hf⟩

set_option maxRecDepth 100000 in
set_option maxHeartbeats 4000000 in
theorem pFields (x : Rcd) (p : ByteArray) (w : World) (hx : RcdAt w x) (hl : x.r.fields.length ≤ 900) :
    Calls Tryz.prog 18 #[recV5 x, .string p] w (RetF w (begL p.data.toList x.r.fields)) := by
  have hmem : ∀ W, Below w.heap.size w W → ∀ f ∈ x.r.fields, FldAt W f := fun W h f hf => (hx.2 f hf).below h (Nat.le_refl _)
  have HPR := Lib.hid (fun (s : ByteArray) W => Tryz.strings_HasPrefix s p W)
  obtain ⟨⟨ra, rc, he, hrc, hcells⟩, -⟩ := hx
  obtain ⟨⟨id, ver, kind, lang, rf⟩, ra', rc'⟩ := x
  simp only at he hrc hcells hmem hl ⊢
  cases he
  unfold recV5
  simp only
  obtain ⟨n, hnn⟩ : ∃ n, n = rf.length := ⟨_, rfl⟩
  rw [← hnn] at hl hrc ⊢
  have HN := Lib.hid hnn
  have HA := Lib.hid hcells
  have HM := Lib.hid hmem
  obtain ⟨P, hP⟩ : ∃ P, P = p.data.toList := ⟨_, rfl⟩
  rw [← hP] at HPR ⊢
  clear hnn hcells hmem hP
  have d4 : (w.alloc (recO id ver kind lang ra n rc)).cell? ⟨w.heap.size, 4, none⟩ = some (.slice ra n rc) := Lib.cell_of_heap (alloc_at rfl) 4
  have HB0 : Hid (Below w.heap.size w (w.alloc (recO id ver kind lang ra n rc))) := Lib.hid ((Below.refl _ _).alloc (Nat.le_refl _) _)
  go_enter Tryz.func18, Tryz.ntmps18
  go_wp2
  go_loopw [5, 11] (fun v i wr => ∃ k : Nat, i = .int .i64 k ∧ k ≤ n ∧ Hid (OwnR wr w.heap.size v (begL P (rf.take k))) ∧ Hid (Below w.heap.size w wr)) (fun _ i _ => n - (intOf i).toNat)
  case atStart => exact ⟨0, rfl, by omega, Lib.hid (by rw [List.take_zero]; exact ⟨rfl, .inl ⟨rfl, rfl⟩⟩), HB0⟩
  case round =>
    obtain ⟨k, rfl, hk, HO, HBW⟩ := hrel
    obtain ⟨wo, rfl⟩ : ∃ W, W = wr := ⟨_, rfl⟩
    by_cases hlt : k < n
    · have hltz : (k : Int) < (n : Int) := by omega
      obtain ⟨f, hf⟩ : ∃ x, rf[k]? = some x := ⟨_, List.getElem?_eq_getElem (by have := HN.out; omega)⟩
      rcases HA.out with h0 | ⟨b, o, rfl, hb1, hcells1⟩
      · rw [h0] at hf; cases hf
      obtain ⟨q0, q1, q2, q3⟩ := (four_of (hcells1 k f hf)).below HBW.out hb1
      have hst := begL_step (p := P) hf
      have hcall := HPR.out (lb f.tag)
      rw [lb_data] at hcall
      obtain ⟨G, hG⟩ : ∃ G, G = Lib.hasPrefix f.tag P := ⟨_, rfl⟩
      rw [← hG] at hst hcall
      obtain ⟨T, hT⟩ : ∃ T, T = lb f.tag := ⟨_, rfl⟩
      obtain ⟨I, hI⟩ : ∃ I, I = lb f.ind := ⟨_, rfl⟩
      obtain ⟨sn, hsn⟩ : ∃ sn, sn = f.subs.length := ⟨_, rfl⟩
      rw [← hT] at q0 hcall
      rw [← hI] at q1
      rw [← hsn] at q2
      have HTT := Lib.hid hT
      have HII := Lib.hid hI
      have HSN := Lib.hid hsn
      have HST := Lib.hid hst
      have HC := Lib.hid hcall
      have e0 : (wo.alloc (fldO T I f.sa sn f.sc f.auth)).heap[wo.heap.size]? = some (fldO T I f.sa sn f.sc f.auth) := alloc_at rfl
      have s0 := Lib.cell_of_heap e0 0
      have s1 := Lib.cell_of_heap e0 1
      have s2 := Lib.cell_of_heap e0 2
      have s3 := Lib.cell_of_heap e0 3
      have HZ : Hid (w.heap.size ≤ wo.heap.size) := Lib.hid HBW.out.size
      have HB1 : Hid (Below w.heap.size w (wo.alloc (fldO T I f.sa sn f.sc f.auth))) := Lib.hid (HBW.out.alloc HZ.out _)
      clear hcells1 hf hcall hT hI hsn hG hst e0
      go_wp2_with fail
      refine (HC.out _).mono ?_
      rintro e w1 ⟨rfl, rfl⟩
      cases G with
      | false =>
        go_wp2
        go_roundw
        case rel => exact ⟨k + 1, by go_num, by omega, Lib.hid (by rw [HST.out, if_neg (by decide), List.append_nil]; exact own_below HO.out ((Below.refl _ _).alloc (Nat.le_refl _) _)), HB1⟩
        case measure => simp [intOf]; omega
      | true =>
        obtain ⟨v0, hv0⟩ : ∃ v, v = u5 := ⟨_, rfl⟩
        subst hv0
        go_wp2_with (at_builtin; refine append_rows rfl _ _ rfl w.heap.size v0 (begL P (rf.take k)) rfl (own_below HO.out ((Below.refl _ _).alloc2 (Nat.le_refl _) _ _)) (some ⟨wo.heap.size + 1, 0, none⟩) 1 1 [f] (by simp [Act.eval]) rfl (by intro e; cases e) (one_cells f _ _ T I sn HTT.out HII.out HSN.out (alloc_at (by simp))) (by have := begL_len P rf k; omega) (by simp only [World.size_alloc]; have := HZ.out; omega) ?_)
        intro v2 w2 ho b2
        have HO2 : Hid (OwnR w2 w.heap.size v2 (begL P (rf.take (k + 1)))) := Lib.hid (by rw [HST.out]; simpa using ho)
        have HB2 : Hid (Below w.heap.size w w2) := Lib.hid ((HBW.out.alloc2 HZ.out _ _).trans b2)
        clear ho b2
        go_wp2
        go_roundw
        case rel => exact ⟨k + 1, by go_num, by omega, HO2, HB2⟩
        case measure => simp [intOf]; omega
    · have hltz : ¬ (k : Int) < (n : Int) := by omega
      have HF : Hid (Flds wo u5 (begL P rf)) := Lib.hid (by
        have h := HO.out
        rw [List.take_of_length_le (by have := HN.out; omega)] at h
        exact flds_own h (fun f hf => HM.out _ HBW.out f (List.mem_filter.1 hf).1))
      clear HO
      go_wp2
      go_ret
      exact ⟨_, rfl, HF.out, HBW.out⟩

set_option maxRecDepth 100000 in
set_option maxHeartbeats 1000000 in
theorem rBegins (s p : ByteArray) (w : World) :
    Calls Tryz.prog 44 #[.string s, .string p] w fun e w' => e = .returned (.bool (Lib.hasPrefix s.data.toList p.data.toList)) ∧ w' = w := by
  have hraw := Lib.hasPrefix_raw s p
  obtain ⟨R, hR⟩ : ∃ R, R = Lib.hasPrefix s.data.toList p.data.toList := ⟨_, rfl⟩
  rw [← hR] at hraw ⊢
  clear hR
  by_cases hle : p.size ≤ s.size
  · rw [decide_eq_true hle, Bool.true_and] at hraw
    have hz : (p.size : Int) ≤ (s.size : Int) := by omega
    go_enter Tryz.func44, Tryz.ntmps44
    go_wp2
    go_ret
    exact ⟨by first | rfl | rw [← hraw] | simp [hraw], rfl⟩
  · rw [decide_eq_false hle, Bool.false_and] at hraw
    have hz : ¬ (p.size : Int) ≤ (s.size : Int) := by omega
    subst hraw
    go_enter Tryz.func44, Tryz.ntmps44
    go_wp2
    go_ret
    exact ⟨by first | rfl | simp, rfl⟩

set_option maxRecDepth 100000 in
set_option maxHeartbeats 4000000 in
theorem rFields (x : Rcd) (p : ByteArray) (w : World) (hx : RcdAt w x) (hl : x.r.fields.length ≤ 900) :
    Calls Tryz.prog 19 #[recV5 x, .string p] w (RetF w (begL p.data.toList x.r.fields)) := by
  have hmem : ∀ W, Below w.heap.size w W → ∀ f ∈ x.r.fields, FldAt W f := fun W h f hf => (hx.2 f hf).below h (Nat.le_refl _)
  have HPR := Lib.hid (fun (s : ByteArray) W => rBegins s p W)
  obtain ⟨⟨ra, rc, he, hrc, hcells⟩, -⟩ := hx
  obtain ⟨⟨id, ver, kind, lang, rf⟩, ra', rc'⟩ := x
  simp only at he hrc hcells hmem hl ⊢
  cases he
  unfold recV5
  simp only
  obtain ⟨n, hnn⟩ : ∃ n, n = rf.length := ⟨_, rfl⟩
  rw [← hnn] at hl hrc ⊢
  have HN := Lib.hid hnn
  have HA := Lib.hid hcells
  have HM := Lib.hid hmem
  obtain ⟨P, hP⟩ : ∃ P, P = p.data.toList := ⟨_, rfl⟩
  rw [← hP] at HPR ⊢
  clear hnn hcells hmem hP
  have d4 : (w.alloc (recO id ver kind lang ra n rc)).cell? ⟨w.heap.size, 4, none⟩ = some (.slice ra n rc) := Lib.cell_of_heap (alloc_at rfl) 4
  have HD : Hid (∀ W, Below (w.heap.size + 1) (w.alloc (recO id ver kind lang ra n rc)) W → W.cell? ⟨w.heap.size, 4, none⟩ = some (.slice ra n rc)) := Lib.hid (fun W h => (h.cell (p := ⟨w.heap.size, 4, none⟩) (by show w.heap.size < _; omega)).trans d4)
  have HB0 : Hid (Below w.heap.size w (w.alloc (recO id ver kind lang ra n rc))) := Lib.hid ((Below.refl _ _).alloc (Nat.le_refl _) _)
  go_enter Tryz.func19, Tryz.ntmps19
  go_wp2
  go_loopw [5, 6] (fun v i wr => ∃ k : Nat, i = .int .i64 k ∧ k ≤ n ∧ Hid (OwnR wr (w.heap.size + 1) v (begL P (rf.take k))) ∧ Hid (Below (w.heap.size + 1) (w.alloc (recO id ver kind lang ra n rc)) wr)) (fun _ i _ => n - (intOf i).toNat)
  case atStart => exact ⟨0, rfl, by omega, Lib.hid (by rw [List.take_zero]; exact OwnR.made _ _ _ (by simp) (Nat.le_refl _)), Lib.hid ((Below.refl _ _).alloc (by simp) _)⟩
  case round =>
    obtain ⟨k, rfl, hk, HO, HBX⟩ := hrel
    obtain ⟨wo, rfl⟩ : ∃ W, W = wr := ⟨_, rfl⟩
    have HBW : Hid (Below w.heap.size w wo) := Lib.hid (HB0.out.trans (HBX.out.mono (by omega)))
    have d4' := HD.out wo HBX.out
    clear d4
    by_cases hlt : k < n
    · have hltz : (k : Int) < (n : Int) := by omega
      obtain ⟨f, hf⟩ : ∃ x, rf[k]? = some x := ⟨_, List.getElem?_eq_getElem (by have := HN.out; omega)⟩
      rcases HA.out with h0 | ⟨b, o, rfl, hb1, hcells1⟩
      · rw [h0] at hf; cases hf
      obtain ⟨q0, q1, q2, q3⟩ := (four_of (hcells1 k f hf)).below HBW.out hb1
      have hst := begL_step (p := P) hf
      have hcall := HPR.out (lb f.tag)
      rw [lb_data] at hcall
      obtain ⟨G, hG⟩ : ∃ G, G = Lib.hasPrefix f.tag P := ⟨_, rfl⟩
      rw [← hG] at hst hcall
      obtain ⟨T, hT⟩ : ∃ T, T = lb f.tag := ⟨_, rfl⟩
      obtain ⟨I, hI⟩ : ∃ I, I = lb f.ind := ⟨_, rfl⟩
      obtain ⟨sn, hsn⟩ : ∃ sn, sn = f.subs.length := ⟨_, rfl⟩
      rw [← hT] at q0 hcall
      rw [← hI] at q1
      rw [← hsn] at q2
      have HTT := Lib.hid hT
      have HII := Lib.hid hI
      have HSN := Lib.hid hsn
      have HST := Lib.hid hst
      have HC := Lib.hid hcall
      have HZ : Hid (w.heap.size + 1 ≤ wo.heap.size) := Lib.hid (by have := HBX.out.size; simpa using this)
      clear hcells1 hf hcall hT hI hsn hG hst
      go_wp2_with fail
      refine (HC.out _).mono ?_
      rintro e w1 ⟨rfl, rfl⟩
      cases G with
      | false =>
        go_wp2
        go_roundw
        case rel => exact ⟨k + 1, by go_num, by omega, Lib.hid (by rw [HST.out]; simpa using HO.out), HBX⟩
        case measure => simp [intOf]; omega
      | true =>
        obtain ⟨v0, hv0⟩ : ∃ v, v = u5 := ⟨_, rfl⟩
        subst hv0
        go_wp2_with (at_builtin; refine append_rows rfl _ _ rfl (w.heap.size + 1) v0 (begL P (rf.take k)) rfl (own_below HO.out ((Below.refl _ _).alloc (Nat.le_refl _) _)) (some ⟨w1.heap.size, 0, none⟩) 1 1 [f] (by simp [Act.eval]) rfl (by intro e; cases e) (one_cells f _ _ T I sn HTT.out HII.out HSN.out (alloc_at rfl)) (by have := begL_len P rf k; omega) (by simp only [World.size_alloc]; have := HZ.out; omega) ?_)
        intro v2 w2 ho b2
        have HO2 : Hid (OwnR w2 (w.heap.size + 1) v2 (begL P (rf.take (k + 1)))) := Lib.hid (by rw [HST.out]; simpa using ho)
        have HB2 : Hid (Below (w.heap.size + 1) (w.alloc (recO id ver kind lang (some ⟨b, o, none⟩) n rc)) w2) := Lib.hid ((HBX.out.alloc HZ.out _).trans b2)
        clear ho b2
        go_wp2
        go_roundw
        case rel => exact ⟨k + 1, by go_num, by omega, HO2, HB2⟩
        case measure => simp [intOf]; omega
    · have hltz : ¬ (k : Int) < (n : Int) := by omega
      have HF : Hid (Flds wo u5 (begL P rf)) := Lib.hid (by
        have h := HO.out
        rw [List.take_of_length_le (by have := HN.out; omega)] at h
        exact flds_own h (fun f hf => HM.out _ HBW.out f (List.mem_filter.1 hf).1))
      clear HO
      go_wp2
      go_ret
      exact ⟨_, rfl, HF.out, HBW.out⟩
end Go.Proofs.YtkfjeolpbopcnaaGreatDoor
namespace Go.Proofs.YtkfjeolpbopcnaaGreatDoor
open Go Go.RowKit

/-- Is it one of the codes? -/
def codeIn (cs : List UInt8) (c : Nat) : Bool := cs.contains c.toUInt8
/-- The values of the codes. -/
def allF (cs : List UInt8) (l : List (Nat × ByteArray)) : List ByteArray := (l.filter fun s => codeIn cs s.1).map (·.2)
theorem allF_step {cs : List UInt8} {l : List (Nat × ByteArray)} {k : Nat} {s : Nat × ByteArray} (h : l[k]? = some s) : allF cs (l.take (k + 1)) = allF cs (l.take k) ++ (if codeIn cs s.1 = true then [s.2] else []) := by
  rw [List.take_add_one, h]
  unfold allF
  rw [List.filter_append, List.map_append]
  congr 1
  by_cases e : codeIn cs s.1 = true <;> simp [e]
theorem allF_len (cs : List UInt8) (l : List (Nat × ByteArray)) (k : Nat) : (allF cs (l.take k)).length ≤ k := by
  unfold allF
  rw [List.length_map]
  exact Nat.le_trans (List.length_filter_le _ _) (by rw [List.length_take]; omega)
theorem code_index (cs : List UInt8) (c : Nat) : codeIn cs c = decide (0 ≤ Lib.indexByte cs ((c : Int).toNat.toUInt8)) := by
  rw [Int.toNat_natCast]
  exact Lib.contains_iff_indexByte cs _
abbrev OwnS (w : World) (B : Nat) (v : Value) (l : List ByteArray) : Prop := w.ownsRow B 9 1 v l.length (l.map Value.string)
theorem append_str {ops : Array Oper} {rest : List Oper} {o : Oper} {a : Act} {w : World} {Q : Exit → Act → World → Prop} (hgd : o.guard = none) (s x : Operand)
    (ho : o.op = .call { callee := .builtin .append, args := #[s, x], argTypes := #[45, 45] })
    (B : Nat) (v : Value) (out : List ByteArray) (hs : a.eval s = v) (hown : OwnS w B v out) (g : Nat) (y : ByteArray) (hx : a.eval x = .slice (some ⟨g, 0, none⟩) 1 1) (hg : w.heap[g]? = some (.cells #[.string y] 9 (0, 0)))
    (hlen : out.length + 1 ≤ 1000000) (hB : B ≤ w.heap.size)
    (h : ∀ v' w', OwnS w' B v' (out ++ [y]) → Below B w w' → wpList Tryz.prog ops Q rest (a.put o.dst v') w') : wpList Tryz.prog ops Q (o :: rest) a w := by
  obtain ⟨i0, hi, hz0, hz1, hz2⟩ := info_parts infoStr
  refine wpList_append_own _ hgd s x 45 ho B 9 i0 (.string ⟨#[]⟩) 1 16 Tryz.underlying45 hi hz0 hz1 hz2 rfl (by decide) v out.length (out.map Value.string) hs hown ⟨g, 0, none⟩ 1 1 [.string y] hx rfl ?_ (by simp [Value.oneCell']) (by unfold maxLen; omega) (by omega) hB ?_
  · intro j u hj
    rw [Addr.add_lit]
    have hj0 : j = 0 := by have := (List.getElem?_eq_some_iff.1 hj).1; simpa using this
    subst hj0
    cases hj
    exact (Lib.cell_of_heap hg 0).trans rfl
  · intro v' w' h1 h2 _
    refine h v' w' ?_ ((Below.refl B w).grown h2 hB (fun k hk => (hown.lt k hk).1))
    show w'.ownsRow B 9 1 v' (out ++ [y]).length ((out ++ [y]).map Value.string)
    rw [List.map_append, List.length_append]
    exact h1
theorem sub_two {w : World} {b o : Nat} {l : List (Nat × ByteArray)} {k : Nat} {s : Nat × ByteArray} (h : ∀ j p, l[j]? = some p → ∀ i u, (subE p)[i]? = some u → w.cell? ⟨b, o + j * 2 + i, none⟩ = some u) (hk : l[k]? = some s) : w.cell? ⟨b, o + k * 2, none⟩ = some (.int .u8 (s.1 : Int)) ∧ w.cell? ⟨b, o + k * 2 + 1, none⟩ = some (.string s.2) := sub_cells (h k s hk)

set_option maxRecDepth 100000 in
set_option maxHeartbeats 4000000 in
theorem pAll (f : Fld) (cs : ByteArray) (w : World) (hf : FldAt w f) (hl : f.subs.length ≤ 100000) (hne : cs.size ≠ 0) :
    Calls Tryz.prog 59 #[fldV f, .string cs] w (RetStrs w (allF cs.data.toList f.subs)) := by
  have HIB := Lib.hid (fun (c : Nat) W => Tryz.strings_IndexByte cs (c : Int) W)
  have hemp : cs.toList.isEmpty = false := by rw [empty_of]; exact decide_eq_false hne
  obtain ⟨P, hP⟩ : ∃ P, P = cs.data.toList := ⟨_, rfl⟩
  rw [← hP] at HIB ⊢
  obtain ⟨tag, ind, subs, auth, sa, sc⟩ := f
  obtain ⟨sa', sc', he, hsc, hcells⟩ := hf
  simp only at he hsc hcells hl ⊢
  cases he
  unfold fldV
  simp only
  obtain ⟨T, hT⟩ : ∃ T, T = lb tag := ⟨_, rfl⟩
  obtain ⟨I, hI⟩ : ∃ I, I = lb ind := ⟨_, rfl⟩
  rw [← hT, ← hI]
  obtain ⟨n, hnn⟩ : ∃ n, n = subs.length := ⟨_, rfl⟩
  rw [← hnn] at hl hsc ⊢
  have HN := Lib.hid hnn
  have HA := Lib.hid hcells
  clear hnn hcells hP hT hI hne
  have d2 : (w.alloc (fldO T I sa n sc auth)).cell? ⟨w.heap.size, 2, none⟩ = some (.slice sa n sc) := Lib.cell_of_heap (alloc_at rfl) 2
  have HB0 : Hid (Below w.heap.size w (w.alloc (fldO T I sa n sc auth))) := Lib.hid ((Below.refl _ _).alloc (Nat.le_refl _) _)
  go_enter Tryz.func59, Tryz.ntmps59
  go_wp2
  go_loopw [5, 11] (fun v i wr => ∃ k : Nat, i = .int .i64 k ∧ k ≤ n ∧ Hid (OwnS wr w.heap.size v (allF P (subs.take k))) ∧ Hid (Below w.heap.size w wr)) (fun _ i _ => n - (intOf i).toNat)
  case atStart => exact ⟨0, rfl, by omega, Lib.hid (by rw [List.take_zero]; exact ⟨rfl, .inl ⟨rfl, rfl⟩⟩), HB0⟩
  case round =>
    obtain ⟨k, rfl, hk, HO, HBW⟩ := hrel
    obtain ⟨wo, rfl⟩ : ∃ W, W = wr := ⟨_, rfl⟩
    by_cases hlt : k < n
    · have hltz : (k : Int) < (n : Int) := by omega
      obtain ⟨s, hs⟩ : ∃ x, subs[k]? = some x := ⟨_, List.getElem?_eq_getElem (by have := HN.out; omega)⟩
      rcases HA.out with h0 | ⟨b, o, rfl, hb1, hcells1⟩
      · rw [h0] at hs; cases hs
      obtain ⟨q0', q1'⟩ := sub_two hcells1 hs
      have q0 := (HBW.out.cell (p := ⟨b, o + k * 2, none⟩) hb1).trans q0'
      have q1 := (HBW.out.cell (p := ⟨b, o + k * 2 + 1, none⟩) hb1).trans q1'
      have hst := allF_step (cs := P) hs
      have hcall := HIB.out s.1
      rw [code_index] at hst
      obtain ⟨X, hX⟩ : ∃ X, X = Lib.indexByte P (s.1 : Int).toNat.toUInt8 := ⟨_, rfl⟩
      rw [← hX] at hst hcall
      obtain ⟨c, y⟩ := s
      simp only at q0 q1 hst hcall
      have HST := Lib.hid hst
      have HC := Lib.hid hcall
      have e0 : (wo.alloc (.cells #[.int .u8 (c : Int), .string y] 54)).heap[wo.heap.size]? = some (.cells #[.int .u8 (c : Int), .string y] 54 (0, 0)) := alloc_at rfl
      have s0 := Lib.cell_of_heap e0 0
      have s1 := Lib.cell_of_heap e0 1
      have HZ : Hid (w.heap.size ≤ wo.heap.size) := Lib.hid HBW.out.size
      have HB1 : Hid (Below w.heap.size w (wo.alloc (.cells #[.int .u8 (c : Int), .string y] 54))) := Lib.hid (HBW.out.alloc HZ.out _)
      clear hcells1 hs hcall hX hst e0 q0' q1'
      by_cases hx : 0 ≤ X
      · have HST2 : Hid (allF P (subs.take (k + 1)) = allF P (subs.take k) ++ [y]) := Lib.hid (by rw [HST.out, if_pos (decide_eq_true hx)])
        go_wp2_with fail
        refine (HC.out _).mono ?_
        rintro e w1 ⟨rfl, rfl⟩
        go_wp2_with (at_builtin; refine append_str rfl _ _ rfl w.heap.size u5 (allF P (subs.take k)) (by simp [Act.eval]) (own_below HO.out ((Below.refl _ _).alloc2 (Nat.le_refl _) _ _)) (wo.heap.size + 1) y (by simp [Act.eval]) (alloc_at (by simp)) (by have := allF_len P subs k; omega) (by simp only [World.size_alloc]; have := HZ.out; omega) ?_)
        intro v2 w2 ho b2
        have HO2 : Hid (OwnS w2 w.heap.size v2 (allF P (subs.take (k + 1)))) := Lib.hid (by rw [HST2.out]; exact ho)
        have HB2 : Hid (Below w.heap.size w w2) := Lib.hid ((HBW.out.alloc2 HZ.out _ _).trans b2)
        clear ho b2
        go_wp2
        go_roundw
        case rel => exact ⟨k + 1, by go_num, by omega, HO2, HB2⟩
        case measure => simp [intOf]; omega
      · have HST2 : Hid (allF P (subs.take (k + 1)) = allF P (subs.take k)) := Lib.hid (by rw [HST.out, if_neg (by simpa using hx), List.append_nil])
        go_wp2_with fail
        refine (HC.out _).mono ?_
        rintro e w1 ⟨rfl, rfl⟩
        go_wp2
        go_roundw
        case rel => exact ⟨k + 1, by go_num, by omega, Lib.hid (by rw [HST2.out]; exact own_below HO.out ((Below.refl _ _).alloc (Nat.le_refl _) _)), HB1⟩
        case measure => simp [intOf]; omega
    · have hltz : ¬ (k : Int) < (n : Int) := by omega
      have HF : Hid (Strs wo u5 (allF P subs)) := Lib.hid (by
        have h := HO.out
        rw [List.take_of_length_le (by have := HN.out; omega)] at h
        exact Strs.of_own h rfl)
      clear HO
      go_wp2
      go_ret
      exact ⟨_, rfl, HF.out, HBW.out⟩

theorem any_codes (cs : List UInt8) (c : Nat) (hc : c < 256) : (cs.any fun b => decide ((b.toNat : Int) = (c : Int))) = codeIn cs c := by
  unfold codeIn
  rw [Bool.eq_iff_iff, List.any_eq_true, List.contains_iff_mem]
  constructor
  · rintro ⟨b, hb, h⟩
    have h := of_decide_eq_true h
    have : b = c.toUInt8 := UInt8.toNat_inj.1 (by rw [Nat.toUInt8_eq, UInt8.toNat_ofNat']; omega)
    rwa [← this]
  · intro h
    exact ⟨_, h, decide_eq_true (by rw [Nat.toUInt8_eq, UInt8.toNat_ofNat']; omega)⟩
set_option maxRecDepth 100000 in
set_option maxHeartbeats 4000000 in
theorem rIn (c : Nat) (cs : ByteArray) (w : World) (hc : c < 256) (hs : cs.size ≤ 1000000) (hne : cs.size ≠ 0) :
    Calls Tryz.prog 94 #[.int .u8 (c : Int), .string cs] w fun e w' => e = .returned (.bool (codeIn cs.data.toList c)) ∧ w' = w := by
  have hemp : cs.toList.isEmpty = false := by rw [empty_of]; exact decide_eq_false hne
  have hany := any_codes cs.data.toList c hc
  obtain ⟨R, hR⟩ : ∃ R, R = codeIn cs.data.toList c := ⟨_, rfl⟩
  rw [← hR] at hany ⊢
  have HANY := Lib.hid hany
  clear hR hany
  go_enter Tryz.func94, Tryz.ntmps94
  go_wp2
  go_loopw [5] (fun i wr => ∃ k : Nat, i = .int .i64 k ∧ k ≤ cs.size ∧ wr = w ∧ Hid ((cs.data.toList.drop k).any (fun b => decide ((b.toNat : Int) = (c : Int))) = R)) (fun i _ => cs.size - (intOf i).toNat)
  case atStart => exact ⟨0, rfl, by omega, rfl, Lib.hid (by rw [List.drop_zero]; exact HANY.out)⟩
  case round =>
    obtain ⟨k, rfl, hk, rfl, HK⟩ := hrel
    by_cases hlt : k < cs.size
    · have hltz : (k : Int) < (cs.size : Int) := by omega
      have hcell : cs.data.toList[k]? = some cs[k] := by
        rw [List.getElem?_eq_getElem (by rw [len_data]; exact hlt), Array.getElem_toList]; rfl
      have hst := HK.out
      rw [drop_step hcell, List.any_cons] at hst
      have HST := Lib.hid hst
      by_cases he : (cs[k].toNat : Int) = (c : Int)
      · have heb : ((cs[k].toNat : Int) == (c : Int)) = true := by simpa using he
        have HF : Hid (R = true) := Lib.hid (by rw [← HST.out, decide_eq_true he]; rfl)
        clear hcell hst HK
        go_wp2
        all_goals go_ret
        all_goals exact ⟨by rw [HF.out]; rfl, rfl⟩
      · have heb : ((cs[k].toNat : Int) == (c : Int)) = false := by simpa using he
        have HF : Hid ((cs.data.toList.drop (k + 1)).any (fun b => decide ((b.toNat : Int) = (c : Int))) = R) := Lib.hid (by rw [← HST.out, decide_eq_false he]; rfl)
        clear hcell hst HK
        go_wp2
        go_roundw
        case rel => exact ⟨k + 1, by go_num, by omega, trivial, HF⟩
        case measure => simp [intOf]; omega
    · have hltz : ¬ (k : Int) < (cs.size : Int) := by omega
      have HF : Hid (R = false) := Lib.hid (by rw [← HK.out, List.drop_eq_nil_of_le (by rw [len_data]; omega)]; rfl)
      clear HK
      go_wp2
      go_ret
      exact ⟨by rw [HF.out]; first | rfl | simp [hemp], rfl⟩
end Go.Proofs.YtkfjeolpbopcnaaGreatDoor
namespace Go.Proofs.YtkfjeolpbopcnaaGreatDoor
open Go Go.RowKit

set_option maxRecDepth 100000 in
set_option maxHeartbeats 4000000 in
theorem rAll (f : Fld) (cs : ByteArray) (w : World) (hf : FldAt w f) (hl : f.subs.length ≤ 100000) (hc : ∀ s ∈ f.subs, s.1 < 256) (hs : cs.size ≤ 1000000) (hne : cs.size ≠ 0) :
    Calls Tryz.prog 61 #[fldV f, .string cs] w (RetStrs w (allF cs.data.toList f.subs)) := by
  have HIB := Lib.hid (fun (c : Nat) (h : c < 256) W => rIn c cs W h hs hne)
  obtain ⟨P, hP⟩ : ∃ P, P = cs.data.toList := ⟨_, rfl⟩
  rw [← hP] at HIB ⊢
  obtain ⟨tag, ind, subs, auth, sa, sc⟩ := f
  obtain ⟨sa', sc', he, hsc, hcells⟩ := hf
  simp only at he hsc hcells hl hc ⊢
  cases he
  unfold fldV
  simp only
  obtain ⟨T, hT⟩ : ∃ T, T = lb tag := ⟨_, rfl⟩
  obtain ⟨I, hI⟩ : ∃ I, I = lb ind := ⟨_, rfl⟩
  rw [← hT, ← hI]
  obtain ⟨n, hnn⟩ : ∃ n, n = subs.length := ⟨_, rfl⟩
  rw [← hnn] at hl hsc ⊢
  have HN := Lib.hid hnn
  have HA := Lib.hid hcells
  have HCC := Lib.hid hc
  clear hnn hcells hP hT hI hne hs hc
  have HD : Hid (∀ W, Below (w.heap.size + 1) (w.alloc (fldO T I sa n sc auth)) W → W.cell? ⟨w.heap.size, 2, none⟩ = some (.slice sa n sc)) := Lib.hid (fun W h => (h.cell (p := ⟨w.heap.size, 2, none⟩) (by show w.heap.size < _; omega)).trans (Lib.cell_of_heap (alloc_at rfl) 2))
  have HB0 : Hid (Below w.heap.size w (w.alloc (fldO T I sa n sc auth))) := Lib.hid ((Below.refl _ _).alloc (Nat.le_refl _) _)
  go_enter Tryz.func61, Tryz.ntmps61
  go_wp2
  go_loopw [5, 6] (fun v i wr => ∃ k : Nat, i = .int .i64 k ∧ k ≤ n ∧ Hid (OwnS wr (w.heap.size + 1) v (allF P (subs.take k))) ∧ Hid (Below (w.heap.size + 1) (w.alloc (fldO T I sa n sc auth)) wr)) (fun _ i _ => n - (intOf i).toNat)
  case atStart => exact ⟨0, rfl, by omega, Lib.hid (by rw [List.take_zero]; exact ⟨rfl, .inl ⟨rfl, rfl⟩⟩), Lib.hid (Below.refl _ _)⟩
  case round =>
    obtain ⟨k, rfl, hk, HO, HBX⟩ := hrel
    obtain ⟨wo, rfl⟩ : ∃ W, W = wr := ⟨_, rfl⟩
    have d2 := HD.out wo HBX.out
    have HBW : Hid (Below w.heap.size w wo) := Lib.hid (HB0.out.trans (HBX.out.mono (by omega)))
    by_cases hlt : k < n
    · have hltz : (k : Int) < (n : Int) := by omega
      obtain ⟨s, hs⟩ : ∃ x, subs[k]? = some x := ⟨_, List.getElem?_eq_getElem (by have := HN.out; omega)⟩
      rcases HA.out with h0 | ⟨b, o, rfl, hb1, hcells1⟩
      · rw [h0] at hs; cases hs
      obtain ⟨q0', q1'⟩ := sub_two hcells1 hs
      have q0 := (HBW.out.cell (p := ⟨b, o + k * 2, none⟩) hb1).trans q0'
      have q1 := (HBW.out.cell (p := ⟨b, o + k * 2 + 1, none⟩) hb1).trans q1'
      have hst := allF_step (cs := P) hs
      have hcall := HIB.out s.1 (HCC.out s (List.mem_of_getElem? hs))
      obtain ⟨X, hX⟩ : ∃ X, X = codeIn P s.1 := ⟨_, rfl⟩
      rw [← hX] at hst hcall
      obtain ⟨c, y⟩ := s
      simp only at q0 q1 hst hcall
      have HST := Lib.hid hst
      have HC := Lib.hid hcall
      have HZ : Hid (w.heap.size + 1 ≤ wo.heap.size) := Lib.hid (by have := HBX.out.size; simpa using this)
      clear hcells1 hs hcall hX hst q0' q1'
      cases X with
      | true =>
        go_wp2_with fail
        refine (HC.out _).mono ?_
        rintro e w1 ⟨rfl, rfl⟩
        go_wp2_with (at_builtin; refine append_str rfl _ _ rfl (w.heap.size + 1) u5 (allF P (subs.take k)) (by simp [Act.eval]) (own_below HO.out ((Below.refl _ _).alloc (Nat.le_refl _) _)) w1.heap.size y (by simp [Act.eval]) (alloc_at rfl) (by have := allF_len P subs k; omega) (by simp only [World.size_alloc]; have := HZ.out; omega) ?_)
        intro v2 w2 ho b2
        have HO2 : Hid (OwnS w2 (w.heap.size + 1) v2 (allF P (subs.take (k + 1)))) := Lib.hid (by rw [HST.out]; simpa using ho)
        have HB2 : Hid (Below (w.heap.size + 1) (w.alloc (fldO T I (some ⟨b, o, none⟩) n sc auth)) w2) := Lib.hid ((HBX.out.alloc HZ.out _).trans b2)
        clear ho b2
        go_wp2
        go_roundw
        case rel => exact ⟨k + 1, by go_num, by omega, HO2, HB2⟩
        case measure => simp [intOf]; omega
      | false =>
        go_wp2_with fail
        refine (HC.out _).mono ?_
        rintro e w1 ⟨rfl, rfl⟩
        go_wp2
        go_roundw
        case rel => exact ⟨k + 1, by go_num, by omega, Lib.hid (by rw [HST.out]; simpa using HO.out), HBX⟩
        case measure => simp [intOf]; omega
    · have hltz : ¬ (k : Int) < (n : Int) := by omega
      have HF : Hid (Strs wo u5 (allF P subs)) := Lib.hid (by
        have h := HO.out
        rw [List.take_of_length_le (by have := HN.out; omega)] at h
        exact Strs.of_own h rfl)
      clear HO
      go_wp2
      go_ret
      exact ⟨_, rfl, HF.out, HBW.out⟩

/-- The first value of a code. -/
def getF (c : Nat) : List (Nat × ByteArray) → ByteArray × Bool
  | [] => (⟨#[]⟩, false)
  | s :: l => if s.1 = c then (s.2, true) else getF c l
theorem getF_step {c : Nat} {l : List (Nat × ByteArray)} {k : Nat} {s : Nat × ByteArray} (h : l[k]? = some s) : getF c (l.drop k) = if s.1 = c then (s.2, true) else getF c (l.drop (k + 1)) := by
  rw [drop_step h]; rfl
theorem getF_end {c : Nat} {l : List (Nat × ByteArray)} {k : Nat} (h : l.length ≤ k) : getF c (l.drop k) = (⟨#[]⟩, false) := by
  rw [List.drop_eq_nil_of_le h]; rfl
def RetG (w : World) (p : ByteArray × Bool) (e : Ending) (w' : World) : Prop := e = .returned (.tuple #[.string p.1, .bool p.2]) ∧ Below w.heap.size w w'

set_option maxRecDepth 100000 in
set_option maxHeartbeats 4000000 in
theorem rGet (f : Fld) (c : Nat) (w : World) (hf : FldAt w f) (hl : f.subs.length ≤ 100000) :
    Calls Tryz.prog 58 #[fldV f, .int .u8 (c : Int)] w (RetG w (getF c f.subs)) := by
  obtain ⟨tag, ind, subs, auth, sa, sc⟩ := f
  obtain ⟨sa', sc', he, hsc, hcells⟩ := hf
  simp only at he hsc hcells hl ⊢
  cases he
  unfold fldV
  simp only
  obtain ⟨T, hT⟩ : ∃ T, T = lb tag := ⟨_, rfl⟩
  obtain ⟨I, hI⟩ : ∃ I, I = lb ind := ⟨_, rfl⟩
  rw [← hT, ← hI]
  obtain ⟨n, hnn⟩ : ∃ n, n = subs.length := ⟨_, rfl⟩
  rw [← hnn] at hl hsc ⊢
  have HN := Lib.hid hnn
  have HA := Lib.hid hcells
  obtain ⟨R, hR⟩ : ∃ R, R = getF c subs := ⟨_, rfl⟩
  rw [← hR]
  have HR := Lib.hid hR
  clear hnn hcells hT hI hR
  have hbw : Below w.heap.size w (w.alloc (fldO T I sa n sc auth)) := (Below.refl _ _).alloc (Nat.le_refl _) _
  have d2 := Lib.cell_of_heap (alloc_at rfl : (w.alloc (fldO T I sa n sc auth)).heap[w.heap.size]? = _) 2
  obtain ⟨W0, hW0⟩ : ∃ W, W = w.alloc (fldO T I sa n sc auth) := ⟨_, rfl⟩
  have HW0 := Lib.hid hW0
  have d2' := d2
  rw [← hW0] at d2' hbw
  have HD2 := Lib.hid d2'
  have HBW := Lib.hid hbw
  clear hW0 d2' hbw
  go_enter Tryz.func58, Tryz.ntmps58
  go_wp2
  go_loopw [6] (fun i wr => ∃ k : Nat, i = .int .i64 k ∧ k ≤ n ∧ Hid (wr = W0) ∧ Hid (R = getF c (subs.drop k))) (fun i _ => n - (intOf i).toNat)
  case atStart => exact ⟨0, rfl, by omega, Lib.hid HW0.out.symm, Lib.hid (by rw [HR.out, List.drop_zero])⟩
  case round =>
    obtain ⟨k, rfl, hk, HWR, HK⟩ := hrel
    have hwr := HWR.out
    subst hwr
    have e2 := HD2.out
    clear d2
    by_cases hlt : k < n
    · have hltz : (k : Int) < (n : Int) := by omega
      obtain ⟨s, hs⟩ : ∃ x, subs[k]? = some x := ⟨_, List.getElem?_eq_getElem (by have := HN.out; omega)⟩
      rcases HA.out with h0 | ⟨b, o, rfl, hb1, hcells1⟩
      · rw [h0] at hs; cases hs
      obtain ⟨q0', q1'⟩ := sub_two hcells1 hs
      have q0 := (HBW.out.cell (p := ⟨b, o + k * 2, none⟩) hb1).trans q0'
      have q1 := (HBW.out.cell (p := ⟨b, o + k * 2 + 1, none⟩) hb1).trans q1'
      have hst := HK.out
      rw [getF_step hs] at hst
      obtain ⟨d, y⟩ := s
      simp only at q0 q1 hst
      by_cases hd : d = c
      · subst hd
        rw [if_pos rfl] at hst
        have HST := Lib.hid hst
        clear hcells1 hs hst q0' q1' HK
        go_wp2
        go_ret2
        rw [HST.out]
        exact ⟨rfl, HBW.out⟩
      · rw [if_neg hd] at hst
        have HST := Lib.hid hst
        have hdz : ((d : Int) == (c : Int)) = false := by rw [beq_eq_false_iff_ne]; omega
        clear hcells1 hs hst q0' q1' HK hd
        go_wp2
        go_roundw
        case rel => exact ⟨k + 1, by go_num, by omega, Lib.hid trivial, HST⟩
        case measure => simp [intOf]; omega
    · have hltz : ¬ (k : Int) < (n : Int) := by omega
      have HST : Hid (R = (⟨#[]⟩, false)) := Lib.hid (by rw [HK.out]; exact getF_end (by have := HN.out; omega))
      clear HK
      go_wp2
      go_ret2
      rw [HST.out]
      exact ⟨rfl, HBW.out⟩
end Go.Proofs.YtkfjeolpbopcnaaGreatDoor
namespace Go.Proofs.YtkfjeolpbopcnaaGreatDoor
open Go Go.RowKit

set_option maxRecDepth 100000 in
set_option maxHeartbeats 1000000 in
theorem pGetC (d c : Nat) (y : ByteArray) (cl : Nat) (w : World) (hcl : w.cell? ⟨cl, 0, none⟩ = some (.int .u8 (c : Int))) :
    Calls Tryz.prog 92 #[.agg #[.int .u8 (d : Int), .string y], .pointer (some ⟨cl, 0, none⟩)] w fun e w' => e = .returned (.bool (decide (d = c))) ∧ Below w.heap.size w w' := by
  have hb : Below w.heap.size w (w.alloc (.cells #[.int .u8 (d : Int), .string y] 54)) := (Below.refl _ _).alloc (Nat.le_refl _) _
  have q0 := new1_cell w #[.int .u8 (d : Int), .string y] 54 0
  have q1 := Lib.cell?_alloc_some (.cells #[.int .u8 (d : Int), .string y] 54) hcl
  have HB := Lib.hid hb
  have he : (((d : Int) == (c : Int)) : Bool) = decide (d = c) := by rw [Bool.eq_iff_iff]; simp; omega
  have HE := Lib.hid he
  clear hb hcl he
  go_enter Tryz.func92, Tryz.ntmps92
  go_wp2
  go_ret
  exact ⟨retb HE.out, HB.out⟩
def FoundAt (c : Nat) (subs : List (Nat × ByteArray)) (i : Int) : Prop := (i = -1 ∧ getF c subs = (⟨#[]⟩, false)) ∨ ∃ (k : Nat) (s : Nat × ByteArray), i = (k : Int) ∧ subs[k]? = some s ∧ getF c subs = (s.2, true)
set_option maxRecDepth 100000 in
set_option maxHeartbeats 4000000 in
theorem pIndexSub (v : Value) (l : List (Nat × ByteArray)) (c cl : Nat) (w : World) (hv : Rows subE 2 w v l) (hl : l.length ≤ 100000) (hcl : w.cell? ⟨cl, 0, none⟩ = some (.int .u8 (c : Int))) :
    Calls Tryz.prog 91 #[v, .func (.func 92) #[] #[.pointer (some ⟨cl, 0, none⟩)]] w fun e w' => ∃ i : Int, e = .returned (.int .i64 i) ∧ FoundAt c l i ∧ Below w.heap.size w w' := by
  obtain ⟨pa, pc, rfl, hpc, hcells⟩ := hv
  have hcall : ∀ W, Below w.heap.size w W → ∀ (d : Nat) (y : ByteArray), Calls Tryz.prog 92 #[.agg #[.int .u8 (d : Int), .string y], .pointer (some ⟨cl, 0, none⟩)] W fun e w' => e = .returned (.bool (decide (d = c))) ∧ Below W.heap.size W w' := fun W h d y => pGetC d c y cl W ((h.cell (p := ⟨cl, 0, none⟩) (World.block_lt_of_cell? w ⟨cl, 0, none⟩ hcl)).trans hcl)
  obtain ⟨R, hR⟩ : ∃ R, R = getF c l := ⟨_, rfl⟩
  unfold FoundAt
  rw [← hR]
  obtain ⟨n, hnn⟩ : ∃ n, n = l.length := ⟨_, rfl⟩
  rw [← hnn] at hl hpc ⊢
  have HN := Lib.hid hnn
  have HC := Lib.hid hcells
  have HR := Lib.hid hR
  have HX := Lib.hid hcall
  clear hnn hcells hR hcall hcl
  go_enter Tryz.func91, Tryz.ntmps91
  go_wp2
  go_loopw [8] (fun vk wr => ∃ k : Nat, vk = .int .i64 k ∧ k ≤ n ∧ Hid (R = getF c (l.drop k)) ∧ Hid (Below w.heap.size w wr)) (fun vk _ => n - (intOf vk).toNat)
  case atStart => exact ⟨0, rfl, by omega, Lib.hid (by rw [HR.out, List.drop_zero]), Lib.hid (Below.refl _ _)⟩
  case round =>
    obtain ⟨k, rfl, hk, HK, HB⟩ := hrel
    by_cases hlt : k < n
    · have hltz : (k : Int) < (n : Int) := by omega
      obtain ⟨s, hs⟩ : ∃ f, l[k]? = some f := ⟨_, List.getElem?_eq_getElem (by have := HN.out; omega)⟩
      rcases HC.out with h0 | ⟨b, o, rfl, hbl, hcl⟩
      · rw [h0] at hs; cases hs
      have hst := HK.out
      rw [getF_step hs] at hst
      obtain ⟨q0', q1'⟩ := sub_two hcl hs
      have q0 := (HB.out.cell (p := ⟨b, o + k * 2, none⟩) hbl).trans q0'
      have q1 := (HB.out.cell (p := ⟨b, o + k * 2 + 1, none⟩) hbl).trans q1'
      obtain ⟨d, y⟩ := s
      simp only at hst q0 q1
      have HCALL := Lib.hid (HX.out wr HB.out d y)
      have HST := Lib.hid hst
      have HS := Lib.hid hs
      clear HK hcl hs hst HR q0' q1'
      go_wp2_with fail
      refine HCALL.out.mono ?_
      rintro e w2 ⟨rfl, b2⟩
      have HB2 : Hid (Below w.heap.size w w2) := Lib.hid (HB.out.bt b2)
      clear b2 HCALL
      by_cases hd : d = c
      · have hdd : decide (d = c) = true := decide_eq_true hd
        have HF : Hid (R = (y, true)) := Lib.hid (by rw [HST.out, if_pos hd])
        clear HST hd
        go_wp2
        go_ret
        exact ⟨(k : Int), rfl, .inr ⟨k, (d, y), rfl, HS.out, HF.out⟩, HB2.out⟩
      · have hdd : decide (d = c) = false := decide_eq_false hd
        have HF : Hid (R = getF c (l.drop (k + 1))) := Lib.hid (by rw [HST.out, if_neg hd])
        clear HST hd
        go_wp2
        go_roundw
        case rel => exact ⟨k + 1, by go_num, by omega, HF, HB2⟩
        case measure => simp [intOf]; omega
    · have hltz : ¬ (k : Int) < (n : Int) := by omega
      have HF : Hid (R = (⟨#[]⟩, false)) := Lib.hid (by rw [HK.out]; exact getF_end (by have := HN.out; omega))
      clear HK HR
      go_wp2
      go_ret
      exact ⟨-1, rfl, .inl ⟨rfl, HF.out⟩, HB.out⟩
set_option maxRecDepth 100000 in
set_option maxHeartbeats 4000000 in
theorem pGet (f : Fld) (c : Nat) (w : World) (hf : FldAt w f) (hl : f.subs.length ≤ 100000) :
    Calls Tryz.prog 57 #[fldV f, .int .u8 (c : Int)] w (RetG w (getF c f.subs)) := by
  obtain ⟨W0, hW0⟩ : ∃ W, W = (w.alloc (fldO (lb f.tag) (lb f.ind) f.sa f.subs.length f.sc f.auth)).alloc (.cells #[.int .u8 (c : Int)] 5) := ⟨_, rfl⟩
  have hb0 : Below w.heap.size w W0 := by rw [hW0]; exact (Below.refl _ _).alloc2 (Nat.le_refl _) _ _
  have h0 : W0.heap[w.heap.size]? = some (fldO (lb f.tag) (lb f.ind) f.sa f.subs.length f.sc f.auth) := by rw [hW0]; exact (alloc_old (by simp)).trans (alloc_at rfl)
  have h1 : W0.cell? ⟨w.heap.size + 1, 0, none⟩ = some (.int .u8 (c : Int)) := by rw [hW0]; exact (Lib.cell_of_heap (alloc_at (by simp)) 0).trans rfl
  have HIX := Lib.hid (pIndexSub _ f.subs c (w.heap.size + 1) W0 (hf.below hb0 (Nat.le_refl _)) hl h1)
  obtain ⟨tag, ind, subs, auth, sa, sc⟩ := f
  obtain ⟨sa', sc', he, hsc, hcells⟩ := hf
  simp only at he hsc hcells hl hW0 h0 HIX ⊢
  cases he
  unfold fldV
  simp only
  obtain ⟨T, hT⟩ : ∃ T, T = lb tag := ⟨_, rfl⟩
  obtain ⟨I, hI⟩ : ∃ I, I = lb ind := ⟨_, rfl⟩
  rw [← hT, ← hI] at hW0 h0 ⊢
  obtain ⟨n, hnn⟩ : ∃ n, n = subs.length := ⟨_, rfl⟩
  rw [← hnn] at hl hsc hW0 h0 HIX ⊢
  have HN := Lib.hid hnn
  have HA := Lib.hid hcells
  have H0 := Lib.hid h0
  have HB0 := Lib.hid hb0
  have HW0 := Lib.hid hW0
  obtain ⟨R, hR⟩ : ∃ R, R = getF c subs := ⟨_, rfl⟩
  unfold FoundAt at HIX
  rw [← hR] at HIX ⊢
  have d2 := Lib.cell_of_heap h0 2
  rw [hW0] at d2
  clear hnn hcells hT hI hR hW0 hb0 h0 h1
  go_enter Tryz.func57, Tryz.ntmps57
  go_wp2_with fail
  rw [← HW0.out]
  refine HIX.out.mono ?_
  rintro e w1 ⟨i, rfl, hfo, b1⟩
  have HB1 : Hid (Below w.heap.size w w1) := Lib.hid (HB0.out.bt b1)
  have h0 : w1.heap[w.heap.size]? = _ := (b1.block _ (Array.getElem?_eq_some_iff.1 H0.out).1).trans H0.out
  have e2 := Lib.cell_of_heap h0 2
  clear d2 b1 h0
  rcases hfo with ⟨rfl, hR⟩ | ⟨k, s, rfl, hs, hR⟩
  · have HR := Lib.hid hR
    clear hR
    go_wp2
    go_ret2
    rw [HR.out]
    exact ⟨rfl, HB1.out⟩
  · have hkn : k < n := by have := (List.getElem?_eq_some_iff.1 hs).1; have := HN.out; omega
    have hltz : (k : Int) < (n : Int) := by omega
    have hk0 : ¬ (k : Int) < 0 := by omega
    rcases HA.out with h0 | ⟨b, o, rfl, hb1, hcells1⟩
    · rw [h0] at hs; cases hs
    obtain ⟨q0', q1'⟩ := sub_two hcells1 hs
    have q0 := (HB1.out.cell (p := ⟨b, o + k * 2, none⟩) hb1).trans q0'
    have q1 := (HB1.out.cell (p := ⟨b, o + k * 2 + 1, none⟩) hb1).trans q1'
    obtain ⟨d, y⟩ := s
    simp only at q0 q1 hR
    have HR := Lib.hid hR
    clear hR hs hcells1 q0' q1'
    go_wp2
    go_ret2
    rw [HR.out]
    exact ⟨rfl, HB1.out⟩
end Go.Proofs.YtkfjeolpbopcnaaGreatDoor
namespace Go.Proofs.YtkfjeolpbopcnaaGreatDoor
open Go Go.RowKit

/-- Texts joined by another one. -/
def joinB (sep : ByteArray) (xs : List ByteArray) : ByteArray := ⟨(Lib.join (xs.map (·.data.toList)) sep.data.toList).toArray⟩
theorem joinB_data (sep : ByteArray) (xs : List ByteArray) : (joinB sep xs).data.toList = Lib.join (xs.map (·.data.toList)) sep.data.toList := by simp [joinB]
theorem joinB_nil (sep : ByteArray) : joinB sep [] = ⟨#[]⟩ := rfl
theorem joinB_take {sep : ByteArray} {xs : List ByteArray} {k : Nat} {x : ByteArray} (h : xs[k]? = some x) : joinB sep (xs.take (k + 1)) = if k = 0 then x else joinB sep (xs.take k) ++ sep ++ x := by
  cases xs with
  | nil => cases h
  | cons y r =>
    apply ba_ext
    cases k with
    | zero =>
      cases h
      rw [if_pos rfl, joinB_data, List.take_succ_cons, List.take_zero, List.map_singleton, Lib.join_one]
    | succ j =>
      rw [List.getElem?_cons_succ] at h
      have hm : (r.map (·.data.toList))[j]? = some x.data.toList := by rw [List.getElem?_map, h]; rfl
      rw [if_neg (by omega), ByteArray.data_append, ByteArray.data_append, Array.toList_append, Array.toList_append, joinB_data, joinB_data, List.take_succ_cons, List.take_succ_cons, List.map_cons, List.map_cons, Lib.join_cons, Lib.join_cons, List.map_take, List.map_take, Lib.joinTail_take_succ _ _ _ _ hm]
      simp only [List.append_assoc]
theorem joinB_le (sep : ByteArray) (xs : List ByteArray) (k : Nat) : (joinB sep (xs.take k)).size ≤ (joinB sep xs).size := by
  rw [← len_data, ← len_data, joinB_data, joinB_data]
  cases xs with
  | nil => rw [List.take_nil]; exact Nat.le_refl _
  | cons y r =>
    cases k with
    | zero => rw [List.take_zero, List.map_nil, Lib.join_nil]; exact Nat.zero_le _
    | succ j =>
      rw [List.take_succ_cons, List.map_cons, List.map_cons, Lib.join_cons, Lib.join_cons, List.length_append, List.length_append]
      have e : Lib.joinTail sep.data.toList (r.map (·.data.toList)) = Lib.joinTail sep.data.toList ((r.take j).map (·.data.toList)) ++ Lib.joinTail sep.data.toList ((r.drop j).map (·.data.toList)) := by
        unfold Lib.joinTail
        rw [← List.flatten_append, ← List.map_append, ← List.map_append, List.take_append_drop]
      rw [e, List.length_append]
      omega
theorem pJoinB (xs : List ByteArray) (sep : ByteArray) (v : Value) (w : World) (hv : Strs w v xs) (hn : xs.length ≤ 4000000000) (hlen : (joinB sep xs).size ≤ 4000000000) :
    Calls Tryz.prog 63 #[v, .string sep] w fun e w' => e = .returned (.string (joinB sep xs)) ∧ Below w.heap.size w w' :=
  join_any xs sep v w hv hn (by have h := hlen; rw [← len_data, joinB_data] at h; omega)

set_option maxRecDepth 100000 in
set_option maxHeartbeats 1000000 in
theorem rJoined (xs : List ByteArray) (sep : ByteArray) (v : Value) (w : World) (hv : Strs w v xs) (hs : (joinB sep xs).size ≤ 4000000000) (hn : xs.length ≤ 4000000000) :
    Calls Tryz.prog 64 #[v, .string sep] w fun e w' => e = .returned (.string (joinB sep xs)) ∧ w = w' := by
  obtain ⟨a, cap, rfl, hcap, hx⟩ := hv
  obtain ⟨A, hA⟩ : ∃ A, A = joinB sep xs := ⟨_, rfl⟩
  rw [← hA] at hs ⊢
  have HA := Lib.hid hA
  obtain ⟨n, hn2⟩ : ∃ n, n = xs.length := ⟨_, rfl⟩
  rw [← hn2] at hcap hn ⊢
  have HN := Lib.hid hn2
  have HX := Lib.hid hx
  clear hx hA hn2
  go_enter Tryz.func64, Tryz.ntmps64
  go_wp2
  go_loop [5, 6] (fun o i => ∃ (k : Nat), i = .int .i64 k ∧ k ≤ n ∧ o = .string (joinB sep (xs.take k))) (fun _ i => n - (intOf i).toNat)
  case atStart => exact ⟨0, rfl, by omega, rfl⟩
  case round =>
    obtain ⟨k, rfl, hk, rfl⟩ := hrel
    by_cases hlt : k < n
    · obtain ⟨x, hx⟩ : ∃ x, xs[k]? = some x := ⟨_, List.getElem?_eq_getElem (by have := HN.out; omega)⟩
      rcases HX.out with h0 | ⟨b, o, rfl, hblt, hcells⟩
      · rw [h0] at hx; cases hx
      have hcell := hcells k x hx
      have hgt := joinB_take (sep := sep) hx
      have hle := joinB_le sep xs (k + 1)
      rw [← HA.out] at hle
      clear hcells hx
      by_cases h0 : k = 0
      · subst h0
        rw [if_pos rfl] at hgt
        have HG := Lib.hid hgt
        rw [hgt] at hle
        have hc0 : w.cell? ⟨b, o, none⟩ = some (.string x) := by simpa using hcell
        obtain ⟨E, hE⟩ : ∃ E, E = joinB sep (xs.take 0) := ⟨_, rfl⟩
        have hE0 : E = ⟨#[]⟩ := hE
        have hz0 : E.size ≤ 0 := by rw [hE0]; simp [ByteArray.size]
        have HE : Hid (E ++ x = x) := Lib.hid (by rw [hE0]; exact ByteArray.empty_append)
        rw [← hE]
        clear hgt hcell hE hE0
        go_wp2
        go_round
        case rel => exact ⟨1, rfl, by omega, by rw [HE.out, HG.out]⟩
        case measure => simp [intOf]; omega
      · rw [if_neg h0] at hgt
        have HG := Lib.hid hgt
        rw [hgt] at hle
        have hz : (joinB sep (xs.take k)).size + sep.size + x.size ≤ 4000000000 := by
          rw [ByteArray.size_append, ByteArray.size_append] at hle
          omega
        have hk0 : 0 < k := by omega
        clear hgt hle
        go_wp2
        go_round
        case rel => exact ⟨k + 1, by go_num, by omega, by rw [HG.out]⟩
        case measure => simp [intOf]; omega
    · go_wp2
      go_ret
      exact ⟨by rw [HA.out, List.take_of_length_le (by have := HN.out; omega)]; rfl, rfl⟩

set_option maxRecDepth 100000 in
set_option maxHeartbeats 1000000 in
theorem rJoin01 (xs : List ByteArray) (sep : ByteArray) (v : Value) (w : World) (hv : Strs w v xs) (hs : (joinB sep xs).size ≤ 4000000000) (hn : xs.length ≤ 4000000000) :
    Calls Tryz.prog 90 #[v, .string sep] w fun e w' => e = .returned (.string (joinB sep xs)) ∧ w = w' := by
  obtain ⟨a, cap, rfl, hcap, hx⟩ := hv
  obtain ⟨A, hA⟩ : ∃ A, A = joinB sep xs := ⟨_, rfl⟩
  rw [← hA] at hs ⊢
  have HA := Lib.hid hA
  obtain ⟨n, hn2⟩ : ∃ n, n = xs.length := ⟨_, rfl⟩
  rw [← hn2] at hcap hn ⊢
  have HN := Lib.hid hn2
  have HX := Lib.hid hx
  clear hx hA hn2
  go_enter Tryz.func90, Tryz.ntmps90
  go_wp2
  go_loop [5, 6] (fun o i => ∃ (k : Nat), i = .int .i64 k ∧ k ≤ n ∧ o = .string (joinB sep (xs.take k))) (fun _ i => n - (intOf i).toNat)
  case atStart => exact ⟨0, rfl, by omega, rfl⟩
  case round =>
    obtain ⟨k, rfl, hk, rfl⟩ := hrel
    by_cases hlt : k < n
    · obtain ⟨x, hx⟩ : ∃ x, xs[k]? = some x := ⟨_, List.getElem?_eq_getElem (by have := HN.out; omega)⟩
      rcases HX.out with h0 | ⟨b, o, rfl, hblt, hcells⟩
      · rw [h0] at hx; cases hx
      have hcell := hcells k x hx
      have hgt := joinB_take (sep := sep) hx
      have hle := joinB_le sep xs (k + 1)
      rw [← HA.out] at hle
      clear hcells hx
      by_cases h0 : k = 0
      · subst h0
        rw [if_pos rfl] at hgt
        have HG := Lib.hid hgt
        rw [hgt] at hle
        have hc0 : w.cell? ⟨b, o, none⟩ = some (.string x) := by simpa using hcell
        obtain ⟨E, hE⟩ : ∃ E, E = joinB sep (xs.take 0) := ⟨_, rfl⟩
        have hE0 : E = ⟨#[]⟩ := hE
        have hz0 : E.size ≤ 0 := by rw [hE0]; simp [ByteArray.size]
        have HE : Hid (E ++ x = x) := Lib.hid (by rw [hE0]; exact ByteArray.empty_append)
        rw [← hE]
        clear hgt hcell hE hE0
        go_wp2
        go_round
        case rel => exact ⟨1, rfl, by omega, by rw [HE.out, HG.out]⟩
        case measure => simp [intOf]; omega
      · rw [if_neg h0] at hgt
        have HG := Lib.hid hgt
        rw [hgt] at hle
        have hz : (joinB sep (xs.take k)).size + sep.size + x.size ≤ 4000000000 := by
          rw [ByteArray.size_append, ByteArray.size_append] at hle
          omega
        have hk0 : 0 < k := by omega
        clear hgt hle
        go_wp2
        go_round
        case rel => exact ⟨k + 1, by go_num, by omega, by rw [HG.out]⟩
        case measure => simp [intOf]; omega
    · go_wp2
      go_ret
      exact ⟨by rw [HA.out, List.take_of_length_le (by have := HN.out; omega)]; rfl, rfl⟩
end Go.Proofs.YtkfjeolpbopcnaaGreatDoor
namespace Go.Proofs.YtkfjeolpbopcnaaGreatDoor
open Go Go.RowKit

/-- The first field with a tag. -/
def firstF (t : List UInt8) : List Fld → Option Fld
  | [] => none
  | f :: l => if f.tag = t then some f else firstF t l
theorem firstF_step {t : List UInt8} {l : List Fld} {k : Nat} {f : Fld} (h : l[k]? = some f) : firstF t (l.drop k) = if f.tag = t then some f else firstF t (l.drop (k + 1)) := by
  rw [drop_step h]; rfl
theorem firstF_end {t : List UInt8} {l : List Fld} {k : Nat} (h : l.length ≤ k) : firstF t (l.drop k) = none := by
  rw [List.drop_eq_nil_of_le h]; rfl
theorem firstF_mem {t : List UInt8} : ∀ {l : List Fld} {f : Fld}, firstF t l = some f → f ∈ l ∧ f.tag = t
  | [], f, h => by cases h
  | g :: l, f, h => by
    unfold firstF at h
    by_cases e : g.tag = t
    · rw [if_pos e] at h
      cases h
      exact ⟨by simp, e⟩
    · rw [if_neg e] at h
      obtain ⟨h1, h2⟩ := firstF_mem h
      exact ⟨List.mem_cons_of_mem _ h1, h2⟩
theorem prefix_same {s t : List UInt8} (h : s.length = t.length) : Lib.hasPrefix s t = decide (s = t) := by
  unfold Lib.hasPrefix
  rw [Bool.eq_iff_iff, List.isPrefixOf_iff_prefix, decide_eq_true_eq]
  constructor
  · intro hp
    exact (List.IsPrefix.eq_of_length hp h.symm).symm
  · rintro rfl
    exact List.prefix_refl _
theorem begL_first {t : List UInt8} : ∀ {l : List Fld}, (∀ f ∈ l, f.tag.length = t.length) → (begL t l).head? = firstF t l
  | [], _ => rfl
  | f :: l, h => by
    have ih := begL_first (t := t) (l := l) (fun g hg => h g (List.mem_cons_of_mem _ hg))
    unfold begL at *
    show _ = if f.tag = t then some f else firstF t l
    rw [List.filter_cons, prefix_same (h f (by simp))]
    by_cases e : f.tag = t
    · simp [e]
    · simp only [e, decide_false, Bool.false_eq_true, if_false]
      exact ih
/-- A field in a block, as the result of a call. -/
theorem results_ft {fn : Func} {t u : Tmp} (h : fn.results = #[.cell t 35, .tmp u]) (tmps : Array Value) (w : World) (g : Nat) (a b : ByteArray) (c : Value) (d : Int) {T : TypeId} (ht : tmps.getD t undef = .pointer (some ⟨g, 0, none⟩))
    (hg : w.heap[g]? = some (.cells #[.string a, .string b, c, .int .i64 d] T (0, 0))) :
    (results fn tmps).run Tryz.prog w = .ok (.tuple #[.agg #[.string a, .string b, c, .int .i64 d], tmps.getD u undef]) w := by
  have q0 := Lib.cell_of_heap hg 0
  have q1 := Lib.cell_of_heap hg 1
  have q2 := Lib.cell_of_heap hg 2
  have q3 := Lib.cell_of_heap hg 3
  clear hg
  unfold results
  rw [h]
  simp only [List.mapM_toArray, List.mapM_cons, List.mapM_nil]
  rw [ht]
  go_simp
def zeroF : Fld := ⟨[], [], [], 0, none, 0⟩
def firstP (o : Option Fld) : Fld × Bool := match o with | some f => (f, true) | none => (zeroF, false)
def RetFi (w : World) (o : Option Fld) (e : Ending) (w' : World) : Prop := e = .returned (.tuple #[fldV (firstP o).1, .bool (firstP o).2]) ∧ Below w.heap.size w w'
theorem four_heap (w : World) (g : Nat) (a b : ByteArray) (c : Value) (d : Int) {cs : Array Value} {T : TypeId} (h : w.heap[g]? = some (.cells cs T (0, 0))) (hs : 4 = cs.size) :
    ((((w.setCell ⟨g, 0, none⟩ (.string a)).setCell ⟨g, 1, none⟩ (.string b)).setCell ⟨g, 2, none⟩ c).setCell ⟨g, 3, none⟩ (.int .i64 d)).heap[g]? = some (.cells #[.string a, .string b, c, .int .i64 d] T (0, 0)) :=
  putL_all [.string a, .string b, c, .int .i64 d] w g cs T h hs
theorem four_below {B : Nat} {x w : World} (h : Below B x w) {g : Nat} (hg : B ≤ g) (a b : ByteArray) (c : Value) (d : Int) :
    Below B x ((((w.setCell ⟨g, 0, none⟩ (.string a)).setCell ⟨g, 1, none⟩ (.string b)).setCell ⟨g, 2, none⟩ c).setCell ⟨g, 3, none⟩ (.int .i64 d)) :=
  putL_below [.string a, .string b, c, .int .i64 d] w g 0 h hg

set_option maxRecDepth 100000 in
set_option maxHeartbeats 4000000 in
theorem pFirst (x : Rcd) (t : ByteArray) (w : World) (hx : RcdAt w x) (hl : x.r.fields.length ≤ 900) :
    Calls Tryz.prog 52 #[recV5 x, .string t] w (RetFi w (firstF t.data.toList x.r.fields)) := by
  obtain ⟨⟨ra, rc, he, hrc, hcells⟩, -⟩ := hx
  obtain ⟨⟨id, ver, kind, lang, rf⟩, ra', rc'⟩ := x
  simp only at he hrc hcells hl ⊢
  cases he
  unfold recV5
  simp only
  obtain ⟨n, hnn⟩ : ∃ n, n = rf.length := ⟨_, rfl⟩
  rw [← hnn] at hl hrc ⊢
  have HN := Lib.hid hnn
  have HA := Lib.hid hcells
  obtain ⟨R, hR⟩ : ∃ R, R = firstF t.data.toList rf := ⟨_, rfl⟩
  rw [← hR]
  have HR := Lib.hid hR
  obtain ⟨W0, hW0⟩ : ∃ W, W = (w.alloc (recO id ver kind lang ra n rc)).alloc (fldO ⟨#[]⟩ ⟨#[]⟩ none 0 0 0) := ⟨_, rfl⟩
  have h1 : W0.heap[w.heap.size + 1]? = some (fldO ⟨#[]⟩ ⟨#[]⟩ none 0 0 0) := by rw [hW0]; exact alloc_at (by simp)
  have hb0 : Below w.heap.size w W0 := by rw [hW0]; exact (Below.refl _ _).alloc2 (Nat.le_refl _) _ _
  have hs0 : W0.heap.size = w.heap.size + 2 := by rw [hW0]; simp
  have H1 := Lib.hid h1
  have HB0 := Lib.hid hb0
  have HS0 := Lib.hid hs0
  have HW0 := Lib.hid hW0
  clear hnn hcells hR h1 hb0 hs0
  go_enter Tryz.func52, Tryz.ntmps52
  go_wp2
  go_loopw [11] (fun i wr => ∃ k : Nat, i = .int .i64 k ∧ k ≤ n ∧ Hid (R = firstF t.data.toList (rf.drop k)) ∧ Hid (Below W0.heap.size W0 wr)) (fun i _ => n - (intOf i).toNat)
  case atStart =>
    rw [← hW0]
    exact ⟨0, rfl, by omega, Lib.hid (by rw [HR.out, List.drop_zero]), Lib.hid (Below.refl _ _)⟩
  case round =>
    clear hW0
    obtain ⟨k, rfl, hk, HK, HB⟩ := hrel
    obtain ⟨wo, rfl⟩ : ∃ W, W = wr := ⟨_, rfl⟩
    have HBW : Hid (Below w.heap.size w wo) := Lib.hid (HB0.out.bt HB.out)
    have HZ : Hid (w.heap.size + 2 ≤ wo.heap.size) := Lib.hid (by have := HB.out.size; have := HS0.out; omega)
    have K1 : Hid (wo.heap[w.heap.size + 1]? = some (fldO ⟨#[]⟩ ⟨#[]⟩ none 0 0 0)) := Lib.hid ((HB.out.block _ (by have := HS0.out; omega)).trans H1.out)
    by_cases hlt : k < n
    · have hltz : (k : Int) < (n : Int) := by omega
      obtain ⟨f, hf⟩ : ∃ x, rf[k]? = some x := ⟨_, List.getElem?_eq_getElem (by have := HN.out; omega)⟩
      rcases HA.out with h0 | ⟨b, o, rfl, hb1, hcells1⟩
      · rw [h0] at hf; cases hf
      obtain ⟨q0, q1, q2, q3⟩ := (four_of (hcells1 k f hf)).below HBW.out hb1
      have hst := HK.out
      rw [firstF_step hf] at hst
      have hbe : ((lb f.tag).toList == t.toList) = decide (f.tag = t.data.toList) := by rw [lb_list, ByteArray.toList_eq, Bool.eq_iff_iff]; simp
      obtain ⟨G, hG⟩ : ∃ G, G = decide (f.tag = t.data.toList) := ⟨_, rfl⟩
      rw [← hG] at hbe
      have HFV : Hid (fldV f = .agg #[.string (lb f.tag), .string (lb f.ind), .slice f.sa f.subs.length f.sc, .int .i64 f.auth]) := Lib.hid rfl
      obtain ⟨T, hT⟩ : ∃ T, T = lb f.tag := ⟨_, rfl⟩
      obtain ⟨I, hI⟩ : ∃ I, I = lb f.ind := ⟨_, rfl⟩
      obtain ⟨sn, hsn⟩ : ∃ sn, sn = f.subs.length := ⟨_, rfl⟩
      rw [← hT] at q0 hbe HFV
      rw [← hI] at q1 HFV
      rw [← hsn] at q2 HFV
      have HST := Lib.hid hst
      have HG := Lib.hid hG
      have e0 : (wo.alloc (fldO T I f.sa sn f.sc f.auth)).heap[wo.heap.size]? = some (fldO T I f.sa sn f.sc f.auth) := alloc_at rfl
      have e1 : (wo.alloc (fldO T I f.sa sn f.sc f.auth)).heap[w.heap.size + 1]? = some (fldO ⟨#[]⟩ ⟨#[]⟩ none 0 0 0) := (alloc_old (by have := HZ.out; omega)).trans K1.out
      have s0 := Lib.cell_of_heap e0 0
      have s1 := Lib.cell_of_heap e0 1
      have s2 := Lib.cell_of_heap e0 2
      have s3 := Lib.cell_of_heap e0 3
      have L1 := Lib.hid e1
      have HB1 : Hid (Below w.heap.size w (wo.alloc (fldO T I f.sa sn f.sc f.auth))) := Lib.hid (HBW.out.alloc HBW.out.size _)
      clear hcells1 hf hst hT hI hsn hG e0 HK
      cases G with
      | true =>
        have HF : Hid (R = some f) := Lib.hid (by rw [HST.out, if_pos (of_decide_eq_true HG.out.symm)])
        have r0 := Lib.cell_of_heap e1 0
        have g0 := Lib.frozen_of_heap e1 0
        have r1 := Lib.cell_of_heap e1 1
        have g1 := Lib.frozen_of_heap e1 1
        have r2 := Lib.cell_of_heap e1 2
        have g2 := Lib.frozen_of_heap e1 2
        have r3 := Lib.cell_of_heap e1 3
        have g3 := Lib.frozen_of_heap e1 3
        clear e1
        go_wp2
        (try simp only [Exit.inBlock, Exit.then])
        have hgg := four_heap (wo.alloc (fldO T I f.sa sn f.sc f.auth)) (w.heap.size + 1) T I (.slice f.sa sn f.sc) f.auth L1.out rfl
        refine bodyPost_ret (results_ft rfl _ _ (w.heap.size + 1) T I (.slice f.sa sn f.sc) f.auth rfl hgg) rfl ?_
        unfold RetFi
        rw [HF.out]
        refine ⟨?_, four_below HB1.out (by omega) _ _ _ _⟩
        show _ = Ending.returned (.tuple #[fldV f, .bool true])
        rw [HFV.out]
        rfl
      | false =>
        have HF : Hid (R = firstF t.data.toList (rf.drop (k + 1))) := Lib.hid (by rw [HST.out, if_neg (of_decide_eq_false HG.out.symm)])
        clear e1
        go_wp2
        go_roundw
        case rel => exact ⟨k + 1, by go_num, by omega, HF, Lib.hid (HB.out.alloc HB.out.size _)⟩
        case measure => simp [intOf]; omega
    · have hltz : ¬ (k : Int) < (n : Int) := by omega
      have HF : Hid (R = none) := Lib.hid (by rw [HK.out]; exact firstF_end (by have := HN.out; omega))
      have r0 := Lib.cell_of_heap K1.out 0
      have g0 := Lib.frozen_of_heap K1.out 0
      have r1 := Lib.cell_of_heap K1.out 1
      have g1 := Lib.frozen_of_heap K1.out 1
      have r2 := Lib.cell_of_heap K1.out 2
      have g2 := Lib.frozen_of_heap K1.out 2
      have r3 := Lib.cell_of_heap K1.out 3
      have g3 := Lib.frozen_of_heap K1.out 3
      clear HK
      go_wp2
      (try simp only [Exit.inBlock, Exit.then])
      have hgg := four_heap wo (w.heap.size + 1) ⟨#[]⟩ ⟨#[]⟩ (.slice none 0 0) 0 K1.out rfl
      refine bodyPost_ret (results_ft rfl _ _ (w.heap.size + 1) ⟨#[]⟩ ⟨#[]⟩ (.slice none 0 0) 0 rfl hgg) rfl ?_
      unfold RetFi
      rw [HF.out]
      exact ⟨rfl, four_below HBW.out (by omega) _ _ _ _⟩
end Go.Proofs.YtkfjeolpbopcnaaGreatDoor
namespace Go.Proofs.YtkfjeolpbopcnaaGreatDoor
open Go Go.RowKit

set_option maxRecDepth 100000 in
set_option maxHeartbeats 1000000 in
theorem pPlain (f : Fld) (cs : ByteArray) (w : World) (hf : FldAt w f) (hl : f.subs.length ≤ 100000) (hne : cs.size ≠ 0) (hj : (joinB ⟨#[32]⟩ (allF cs.data.toList f.subs)).size ≤ 4000000000) :
    Calls Tryz.prog 54 #[fldV f, .string cs] w fun e w' => e = .returned (.string (joinB ⟨#[32]⟩ (allF cs.data.toList f.subs))) ∧ Below w.heap.size w w' := by
  have HAL := Lib.hid (fun W (h : Below w.heap.size w W) => pAll f cs W (hf.below h (Nat.le_refl _)) hl hne)
  have hlen : (allF cs.data.toList f.subs).length ≤ 4000000000 := by have := allF_len cs.data.toList f.subs f.subs.length; rw [List.take_length] at this; omega
  obtain ⟨X, hX⟩ : ∃ X, X = allF cs.data.toList f.subs := ⟨_, rfl⟩
  rw [← hX] at hj HAL hlen ⊢
  have HJ := Lib.hid (fun v W (h : Strs W v X) => pJoinB X ⟨#[32]⟩ v W h hlen hj)
  unfold fldV at HAL ⊢
  obtain ⟨T, hT⟩ : ∃ T, T = lb f.tag := ⟨_, rfl⟩
  obtain ⟨I, hI⟩ : ∃ I, I = lb f.ind := ⟨_, rfl⟩
  obtain ⟨sn, hsn⟩ : ∃ sn, sn = f.subs.length := ⟨_, rfl⟩
  rw [← hT, ← hI, ← hsn] at HAL ⊢
  have hb0 : Below w.heap.size w (w.alloc (fldO T I f.sa sn f.sc f.auth)) := (Below.refl _ _).alloc (Nat.le_refl _) _
  have HA1 := Lib.hid (HAL.out _ hb0)
  have HB0 := Lib.hid hb0
  clear hX hj hlen hf hl hne hT hI hsn hb0
  go_enter Tryz.func54, Tryz.ntmps54
  go_wp2_with fail
  refine HA1.out.mono ?_
  rintro e w1 ⟨v, rfl, hs, b1⟩
  have HJ1 := Lib.hid (HJ.out v w1 hs)
  have HB := Lib.hid (HB0.out.bt b1)
  clear hs b1
  go_wp2_with fail
  refine HJ1.out.mono ?_
  rintro e w2 ⟨rfl, b2⟩
  go_wp2
  go_ret
  exact ⟨rfl, HB.out.bt b2⟩
set_option maxRecDepth 100000 in
set_option maxHeartbeats 1000000 in
theorem rPlain (f : Fld) (cs : ByteArray) (w : World) (hf : FldAt w f) (hl : f.subs.length ≤ 100000) (hc : ∀ s ∈ f.subs, s.1 < 256) (hs : cs.size ≤ 1000000) (hne : cs.size ≠ 0) (hj : (joinB ⟨#[32]⟩ (allF cs.data.toList f.subs)).size ≤ 4000000000) :
    Calls Tryz.prog 56 #[fldV f, .string cs] w fun e w' => e = .returned (.string (joinB ⟨#[32]⟩ (allF cs.data.toList f.subs))) ∧ Below w.heap.size w w' := by
  have HAL := Lib.hid (fun W (h : Below w.heap.size w W) => rAll f cs W (hf.below h (Nat.le_refl _)) hl hc hs hne)
  have hlen : (allF cs.data.toList f.subs).length ≤ 4000000000 := by have := allF_len cs.data.toList f.subs f.subs.length; rw [List.take_length] at this; omega
  obtain ⟨X, hX⟩ : ∃ X, X = allF cs.data.toList f.subs := ⟨_, rfl⟩
  rw [← hX] at hj HAL hlen ⊢
  have HJ := Lib.hid (fun v W (h : Strs W v X) => rJoin01 X ⟨#[32]⟩ v W h hj hlen)
  unfold fldV at HAL ⊢
  obtain ⟨T, hT⟩ : ∃ T, T = lb f.tag := ⟨_, rfl⟩
  obtain ⟨I, hI⟩ : ∃ I, I = lb f.ind := ⟨_, rfl⟩
  obtain ⟨sn, hsn⟩ : ∃ sn, sn = f.subs.length := ⟨_, rfl⟩
  rw [← hT, ← hI, ← hsn] at HAL ⊢
  have hb0 : Below w.heap.size w (w.alloc (fldO T I f.sa sn f.sc f.auth)) := (Below.refl _ _).alloc (Nat.le_refl _) _
  have HA1 := Lib.hid (HAL.out _ hb0)
  have HB0 := Lib.hid hb0
  clear hX hj hlen hf hl hne hT hI hsn hb0 hc hs
  go_enter Tryz.func56, Tryz.ntmps56
  go_wp2_with fail
  refine HA1.out.mono ?_
  rintro e w1 ⟨v, rfl, hs, b1⟩
  have HJ1 := Lib.hid (HJ.out v w1 hs)
  have HB := Lib.hid (HB0.out.bt b1)
  clear hs b1
  go_wp2_with fail
  refine HJ1.out.mono ?_
  rintro e w2 ⟨rfl, rfl⟩
  go_wp2
  go_ret
  exact ⟨rfl, HB.out⟩
/-- What a title is. -/
def TitleIs (l : List Fld) (out : ByteArray) : Prop := (firstF [50, 52, 53] l = none ∧ out = ⟨#[]⟩) ∨ ∃ f cs, firstF [50, 52, 53] l = some f ∧ joinB ⟨#[32]⟩ (allF [97, 98] f.subs) = bs cs ∧ okt cs = true ∧ (bs cs).size ≤ 4000000000 ∧ f.subs.length ≤ 100000 ∧ (∀ s ∈ f.subs, s.1 < 256) ∧ out = bs (clean cs)

set_option maxRecDepth 100000 in
set_option maxHeartbeats 4000000 in
theorem pTitle (x : Rcd) (out : ByteArray) (w : World) (hx : RcdAt w x) (hl : x.r.fields.length ≤ 900) (ho : TitleIs x.r.fields out) :
    Calls Tryz.prog 27 #[recV5 x] w fun e w' => e = .returned (.string out) ∧ Below w.heap.size w w' := by
  have hmem : ∀ W, Below w.heap.size w W → ∀ f ∈ x.r.fields, FldAt W f := fun W h f hf => (hx.2 f hf).below h (Nat.le_refl _)
  have hb0 : Below w.heap.size w (w.alloc (recO x.r.id x.r.ver x.r.kind x.r.lang x.sa x.r.fields.length x.sc)) := (Below.refl _ _).alloc (Nat.le_refl _) _
  have HF := Lib.hid (pFirst x ⟨#[50, 52, 53]⟩ (w.alloc (recO x.r.id x.r.ver x.r.kind x.r.lang x.sa x.r.fields.length x.sc)) (hx.below hb0 (Nat.le_refl _)) hl)
  have HM := Lib.hid hmem
  have HB0 := Lib.hid hb0
  obtain ⟨O, hO⟩ : ∃ O, O = firstF [50, 52, 53] x.r.fields := ⟨_, rfl⟩
  rw [show (⟨#[50, 52, 53]⟩ : ByteArray).data.toList = [50, 52, 53] from rfl, ← hO] at HF
  unfold TitleIs at ho
  rw [← hO] at ho
  have HO := Lib.hid hO
  obtain ⟨⟨id, ver, kind, lang, rf⟩, ra, rc⟩ := x
  unfold recV5 at HF ⊢
  simp only at HF HM HB0 HO hl ⊢
  obtain ⟨n, hn⟩ : ∃ n, n = rf.length := ⟨_, rfl⟩
  rw [← hn] at HF HB0 hl ⊢
  clear hx hmem hb0 hO hn
  rcases ho with ⟨rfl, rfl⟩ | ⟨f, cs, rfl, hj, hok, hsz, hsl, -, rfl⟩
  · unfold RetFi firstP at HF
    simp only at HF
    unfold fldV at HF
    go_enter Tryz.func27, Tryz.ntmps27
    go_wp2_with fail
    refine HF.out.mono ?_
    rintro e w1 ⟨rfl, b1⟩
    have HB1 := Lib.hid (HB0.out.bt b1)
    clear b1
    go_wp2
    go_ret
    exact ⟨rfl, HB1.out.trans ((Below.refl _ _).alloc HB1.out.size _)⟩
  · have hfm : f ∈ rf := (firstF_mem HO.out.symm).1
    have HPL := Lib.hid (fun W (h : Below w.heap.size w W) => pPlain f ⟨#[97, 98]⟩ W (HM.out W h f hfm) hsl (by decide) (by rw [show (⟨#[97, 98]⟩ : ByteArray).data.toList = [97, 98] from rfl, hj]; exact hsz))
    rw [show (⟨#[97, 98]⟩ : ByteArray).data.toList = [97, 98] from rfl, hj] at HPL
    have HCN := Lib.hid (fun W => pClean cs W hok hsz)
    unfold RetFi firstP at HF
    simp only at HF
    unfold fldV at HF HPL
    obtain ⟨T, hT⟩ : ∃ T, T = lb f.tag := ⟨_, rfl⟩
    obtain ⟨I, hI⟩ : ∃ I, I = lb f.ind := ⟨_, rfl⟩
    obtain ⟨sn, hsn⟩ : ∃ sn, sn = f.subs.length := ⟨_, rfl⟩
    obtain ⟨Y, hY⟩ : ∃ Y, Y = bs cs := ⟨_, rfl⟩
    rw [← hT, ← hI, ← hsn] at HF HPL
    rw [← hY] at HPL HCN
    clear hT hI hsn hY hj hok hsz hsl hfm
    go_enter Tryz.func27, Tryz.ntmps27
    go_wp2_with fail
    refine HF.out.mono ?_
    rintro e w1 ⟨rfl, b1⟩
    have HB1 := Lib.hid (HB0.out.bt b1)
    clear b1
    have e0 : (w1.alloc (fldO T I f.sa sn f.sc f.auth)).heap[w1.heap.size]? = some (fldO T I f.sa sn f.sc f.auth) := alloc_at rfl
    have s0 := Lib.cell_of_heap e0 0
    have s1 := Lib.cell_of_heap e0 1
    have s2 := Lib.cell_of_heap e0 2
    have s3 := Lib.cell_of_heap e0 3
    have hb2 : Below w.heap.size w (w1.alloc (fldO T I f.sa sn f.sc f.auth)) := HB1.out.alloc HB1.out.size _
    have HP1 := Lib.hid (HPL.out _ hb2)
    have HB2 := Lib.hid hb2
    clear e0 hb2
    go_wp2_with fail
    refine HP1.out.mono ?_
    rintro e w2 ⟨rfl, b2⟩
    have HB3 := Lib.hid (HB2.out.bt b2)
    clear b2
    go_wp2_with fail
    refine (HCN.out _).mono ?_
    rintro e w3 ⟨rfl, b3⟩
    have HB4 := Lib.hid (HB3.out.bt b3)
    clear b3
    go_wp2
    go_ret
    exact ⟨rfl, HB4.out⟩
set_option maxRecDepth 100000 in
set_option maxHeartbeats 4000000 in
theorem rTitle (x : Rcd) (out : ByteArray) (w : World) (hx : RcdAt w x) (hl : x.r.fields.length ≤ 900) (ht : ∀ f ∈ x.r.fields, f.tag.length = 3) (ho : TitleIs x.r.fields out) :
    Calls Tryz.prog 28 #[recV5 x] w fun e w' => e = .returned (.string out) ∧ Below w.heap.size w w' := by
  have hb0 : Below w.heap.size w (w.alloc (recO x.r.id x.r.ver x.r.kind x.r.lang x.sa x.r.fields.length x.sc)) := (Below.refl _ _).alloc (Nat.le_refl _) _
  have HF := Lib.hid (rFields x ⟨#[50, 52, 53]⟩ (w.alloc (recO x.r.id x.r.ver x.r.kind x.r.lang x.sa x.r.fields.length x.sc)) (hx.below hb0 (Nat.le_refl _)) hl)
  have HB0 := Lib.hid hb0
  have hfi := begL_first (t := [50, 52, 53]) ht
  rw [show (⟨#[50, 52, 53]⟩ : ByteArray).data.toList = [50, 52, 53] from rfl] at HF
  obtain ⟨L, hL⟩ : ∃ L, L = begL [50, 52, 53] x.r.fields := ⟨_, rfl⟩
  rw [← hL] at HF hfi
  unfold TitleIs at ho
  rw [← hfi] at ho
  obtain ⟨⟨id, ver, kind, lang, rf⟩, ra, rc⟩ := x
  unfold recV5 at HF ⊢
  simp only at HF HB0 hl ⊢
  obtain ⟨n, hn⟩ : ∃ n, n = rf.length := ⟨_, rfl⟩
  rw [← hn] at HF HB0 hl ⊢
  clear hx hb0 hn ht hfi hL
  go_enter Tryz.func28, Tryz.ntmps28
  go_wp2_with fail
  refine HF.out.mono ?_
  rintro e w1 ⟨v, rfl, hv, b1⟩
  have HB1 := Lib.hid (HB0.out.bt b1)
  clear b1
  cases L with
  | nil =>
    rcases ho with ⟨-, rfl⟩ | ⟨f, cs, h, -⟩
    · obtain ⟨⟨a, c, rfl, hc, hcells⟩, -⟩ := hv
      clear hcells hc
      go_wp2
      go_ret
      exact ⟨rfl, HB1.out⟩
    · cases h
  | cons f L =>
    rcases ho with ⟨h, -⟩ | ⟨f', cs, hf, hj, hok, hsz, hsl, hco, rfl⟩
    · cases h
    · cases hf
      have HPL := Lib.hid (fun W (h : Below w1.heap.size w1 W) => rPlain f ⟨#[97, 98]⟩ W ((hv.2 f (by simp)).below h (Nat.le_refl _)) hsl hco (by decide) (by decide) (by rw [show (⟨#[97, 98]⟩ : ByteArray).data.toList = [97, 98] from rfl, hj]; exact hsz))
      rw [show (⟨#[97, 98]⟩ : ByteArray).data.toList = [97, 98] from rfl, hj] at HPL
      have HCN := Lib.hid (fun W => rClean cs W hok hsz)
      obtain ⟨⟨a, c, rfl, hc, h0 | ⟨b, o, rfl, hb1, hcells1⟩⟩, -⟩ := hv
      · cases h0
      obtain ⟨q0, q1, q2, q3⟩ := four_of (hcells1 0 f rfl)
      rw [Nat.zero_mul, Nat.add_zero] at q0 q1 q2 q3
      unfold fldV at HPL
      obtain ⟨T, hT⟩ : ∃ T, T = lb f.tag := ⟨_, rfl⟩
      obtain ⟨I, hI⟩ : ∃ I, I = lb f.ind := ⟨_, rfl⟩
      obtain ⟨sn, hsn⟩ : ∃ sn, sn = f.subs.length := ⟨_, rfl⟩
      obtain ⟨Y, hY⟩ : ∃ Y, Y = bs cs := ⟨_, rfl⟩
      rw [← hT, ← hI, ← hsn] at HPL
      rw [← hY] at HPL HCN
      rw [← hT] at q0
      rw [← hI] at q1
      rw [← hsn] at q2
      have HP1 := Lib.hid (HPL.out w1 (Below.refl _ _))
      obtain ⟨m, hm⟩ : ∃ m, m = L.length := ⟨_, rfl⟩
      rw [List.length_cons, ← hm] at hc ⊢
      have hm0 : ((m + 1 : Nat) : Int) ≠ 0 := by omega
      have hmb : (((m + 1 : Nat) : Int) == 0) = false := by rw [beq_eq_false_iff_ne]; exact hm0
      have hmb2 : (((m : Int) + 1) == 0) = false := by rw [beq_eq_false_iff_ne]; omega
      have hm1 : (0 : Int) < (m : Int) + 1 := by omega
      clear hT hI hsn hY hj hok hsz hsl hcells1 hc hm0 hm
      go_wp2_with fail
      refine HP1.out.mono ?_
      rintro e w2 ⟨rfl, b2⟩
      have HB3 := Lib.hid (HB1.out.bt b2)
      clear b2
      go_wp2_with fail
      refine (HCN.out _).mono ?_
      rintro e w3 ⟨rfl, b3⟩
      go_wp2
      go_ret
      exact ⟨rfl, HB3.out.bt (b3.below _)⟩
end Go.Proofs.YtkfjeolpbopcnaaGreatDoor
