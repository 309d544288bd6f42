/- Small fields and records: the walks (layer 08; the text of layer 18, without what Gsm has). Valid records: the walk of valid, and what it says (layer 08). A parameter api.Field, opened (layer 08). -/
import Derived.Test.YtkfjeolpbopcnaaGreatDoorGsm
import Derived.Test.YtkfjeolpbopcnaaGreatDoorDrc
import Derived.Test.YtkfjeolpbopcnaaGreatDoorMrr
import Derived.Test.YtkfjeolpbopcnaaGreatDoorEc
import Derived.Test.YtkfjeolpbopcnaaGreatDoorEd
import Derived.Test.YtkfjeolpbopcnaaGreatDoorMop
namespace Go.Proofs.YtkfjeolpbopcnaaGreatDoor
open Go Go.RowKit

def smallF (f : Fld) : Bool := decide (f.subs.length ≤ 20) && f.subs.all fun s => decide (s.2.size ≤ 300)
def smallR (r : Rec) : Bool := decide (r.fields.length ≤ 70) && r.fields.all smallF
set_option maxRecDepth 100000 in
set_option maxHeartbeats 2000000 in
theorem rSmallF (T I : ByteArray) (subs : List (Nat × ByteArray)) (auth : Int) (sa : Option Addr) (n0 sc : Nat) (w : World) (hf : Rows subE 2 w (.slice sa n0 sc) subs) :
    Calls Tryz.prog 20 #[.agg #[.string T, .string I, .slice sa n0 sc, .int .i64 auth]] w fun e w' => e = .returned (.bool (decide (subs.length ≤ 20) && subs.all fun s => decide (s.2.size ≤ 300))) ∧ Below w.heap.size w w' := by
  obtain ⟨a', c', he, hc, hcells⟩ := hf
  cases he
  obtain ⟨R, hR⟩ : ∃ R, R = (decide (subs.length ≤ 20) && subs.all fun s => decide (s.2.size ≤ 300)) := ⟨_, rfl⟩
  rw [← hR]
  obtain ⟨n, hnn⟩ : ∃ n, n = subs.length := ⟨_, rfl⟩
  rw [← hnn] at hc hR ⊢
  have HB0 : Hid (Below w.heap.size w (fldX w T I sa n sc auth)) := Lib.hid ((Below.refl _ _).alloc (Nat.le_refl _) _)
  have HN := Lib.hid hnn
  have HC := Lib.hid hcells
  clear hnn hcells
  by_cases h20 : 20 < n
  · have h20z : (20 : Int) < (n : Int) := by omega
    rw [decide_eq_false (by omega)] at hR
    have HR : Hid (R = false) := Lib.hid hR
    clear hR h20
    go_enter Tryz.func20, Tryz.ntmps20
    go_wp2
    go_ret
    exact ⟨by rw [HR.out]; rfl, HB0.out⟩
  · have h20z : (n : Int) ≤ 20 := by omega
    rw [decide_eq_true (by omega), Bool.true_and] at hR
    have HR := Lib.hid hR
    clear hR h20
    go_enter Tryz.func20, Tryz.ntmps20
    go_wp2
    go_loopw [3] (fun vk wr => ∃ k : Nat, vk = .int .i64 k ∧ k ≤ n ∧ wr = fldX w T I sa n sc auth ∧ Hid (R = (subs.drop k).all fun s => decide (s.2.size ≤ 300))) (fun vk _ => n - (intOf vk).toNat)
    case atStart => exact ⟨0, rfl, by omega, rfl, Lib.hid (by rw [HR.out, List.drop_zero])⟩
    case round =>
      obtain ⟨k, rfl, hk, rfl, HK⟩ := hrel
      by_cases hlt : k < n
      · have hltz : (k : Int) < (n : Int) := by omega
        obtain ⟨s, hs⟩ : ∃ s, subs[k]? = some s := ⟨_, List.getElem?_eq_getElem (by have := HN.out; omega)⟩
        rcases HC.out with h0 | ⟨b, o, rfl, hbl, hcl⟩
        · rw [h0] at hs; cases hs
        obtain ⟨-, p1⟩ := sub_cells (hcl k s hs)
        replace p1 := (HB0.out.cell (p := ⟨b, o + k * 2 + 1, none⟩) hbl).trans p1
        have hst := HK.out
        rw [drop_step hs, List.all_cons] at hst
        obtain ⟨c, v⟩ := s
        simp only at p1 hst
        clear HK hs hcl HR
        by_cases h3 : 300 < v.size
        · have h3z : (300 : Int) < ((v.size : Nat) : Int) := by omega
          rw [decide_eq_false (by omega)] at hst
          have HT : Hid (R = false) := Lib.hid hst
          clear hst h3
          go_wp2
          go_ret
          exact ⟨by rw [HT.out]; rfl, HB0.out⟩
        · have h3z : ((v.size : Nat) : Int) ≤ 300 := by omega
          rw [decide_eq_true (by omega), Bool.true_and] at hst
          have HT := Lib.hid hst
          clear hst h3
          go_wp2
          go_roundw
          case rel => exact ⟨k + 1, by go_num, by omega, by trivial, HT⟩
          case measure => simp [intOf]; omega
      · have hltz : ¬ (k : Int) < (n : Int) := by omega
        have HT : Hid (R = true) := Lib.hid (by rw [HK.out, List.drop_eq_nil_of_le (by have := HN.out; omega)]; rfl)
        clear HK HR
        go_wp2
        go_ret
        exact ⟨by rw [HT.out]; rfl, HB0.out⟩

set_option maxRecDepth 100000 in
set_option maxHeartbeats 2000000 in
theorem rSmall (r : Rec) (a : Option Addr) (n0 c : Nat) (w : World) (hv : Flds w (.slice a n0 c) r.fields) :
    Calls Tryz.prog 10 #[.agg #[.int .i64 r.id, .int .i64 r.ver, .int .i64 r.kind, .string r.lang, .slice a n0 c]] w fun e w' => e = .returned (.bool (smallR r)) ∧ Below w.heap.size w w' := by
  obtain ⟨id, ver, kind, lang, l⟩ := r
  obtain ⟨⟨a', c', he, hc, hcells⟩, hfl⟩ := hv
  simp only at hcells hfl hc he ⊢
  cases he
  obtain ⟨R, hR⟩ : ∃ R, R = smallR ⟨id, ver, kind, lang, l⟩ := ⟨_, rfl⟩
  rw [← hR]
  unfold smallR at hR
  simp only at hR
  obtain ⟨n, hnn⟩ : ∃ n, n = l.length := ⟨_, rfl⟩
  rw [← hnn] at hc hR ⊢
  have HB0 : Hid (Below w.heap.size w (recX w id ver kind lang a n c)) := Lib.hid ((Below.refl _ _).alloc (Nat.le_refl _) _)
  have HN := Lib.hid hnn
  have HC := Lib.hid hcells
  have HF := Lib.hid hfl
  clear hnn hcells hfl
  by_cases h70 : 70 < n
  · have h70z : (70 : Int) < (n : Int) := by omega
    rw [decide_eq_false (by omega)] at hR
    have HR : Hid (R = false) := Lib.hid hR
    clear hR h70
    go_enter Tryz.func10, Tryz.ntmps10
    go_wp2
    go_ret
    exact ⟨by rw [HR.out]; rfl, HB0.out⟩
  · have h70z : (n : Int) ≤ 70 := by omega
    rw [decide_eq_true (by omega), Bool.true_and] at hR
    have HR := Lib.hid hR
    clear hR h70
    go_enter Tryz.func10, Tryz.ntmps10
    go_wp2
    go_loopw [3] (fun vk wr => ∃ k : Nat, vk = .int .i64 k ∧ k ≤ n ∧ Hid (R = (l.drop k).all smallF) ∧ Hid (Below (recX w id ver kind lang a n c).heap.size (recX w id ver kind lang a n c) wr)) (fun vk _ => n - (intOf vk).toNat)
    case atStart => exact ⟨0, rfl, by omega, Lib.hid (by rw [HR.out, List.drop_zero]), Lib.hid (Below.refl _ _)⟩
    case round =>
      obtain ⟨k, rfl, hk, HK, HB⟩ := hrel
      have HBW := Lib.hid (HB0.out.bt HB.out)
      have q4 := block_cells HB.out 4 (.slice a n c) rfl
      by_cases hlt : k < n
      · have hltz : (k : Int) < (n : Int) := by omega
        obtain ⟨f, hf⟩ : ∃ f, l[k]? = some f := ⟨_, List.getElem?_eq_getElem (by have := HN.out; omega)⟩
        rcases HC.out with h0 | ⟨b, o, rfl, hbl, hcl⟩
        · rw [h0] at hf; cases hf
        obtain ⟨p0, p1, p2, p3⟩ := (four_of (hcl k f hf)).below HBW.out hbl
        have hat := HF.out f (List.mem_of_getElem? hf)
        have hst := HK.out
        rw [drop_step hf, List.all_cons] at hst
        have hcall := rSmallF (lb f.tag) (lb f.ind) f.subs f.auth f.sa f.subs.length f.sc wr (hat.below HBW.out (Nat.le_refl _))
        obtain ⟨B, hB⟩ : ∃ B, B = smallF f := ⟨_, rfl⟩
        rw [← hB] at hst
        have hB2 : (decide (f.subs.length ≤ 20) && f.subs.all fun s => decide (s.2.size ≤ 300)) = B := hB.symm
        rw [hB2] at hcall
        obtain ⟨T, hT⟩ : ∃ T, T = lb f.tag := ⟨_, rfl⟩
        obtain ⟨I, hI⟩ : ∃ I, I = lb f.ind := ⟨_, rfl⟩
        obtain ⟨sn, hsn⟩ : ∃ sn, sn = f.subs.length := ⟨_, rfl⟩
        rw [← hT] at p0 hcall
        rw [← hI] at p1 hcall
        rw [← hsn] at p2 hcall
        have HCALL := Lib.hid hcall
        clear HK hf hcl hcall hB hB2 hT hI hsn hat HR
        cases B with
        | false =>
          have HT : Hid (R = false) := Lib.hid hst
          clear hst
          go_wp2_with fail
          refine HCALL.out.mono ?_
          rintro e w2 ⟨rfl, b2⟩
          have HB2 := Lib.hid (HBW.out.bt b2)
          clear b2
          go_wp2
          go_ret
          exact ⟨by rw [HT.out]; rfl, HB2.out⟩
        | true =>
          rw [Bool.true_and] at hst
          have HT := Lib.hid hst
          clear hst
          go_wp2_with fail
          refine HCALL.out.mono ?_
          rintro e w2 ⟨rfl, b2⟩
          have HB2 := Lib.hid (HB.out.bt b2)
          clear b2
          go_wp2
          go_roundw
          case rel => exact ⟨k + 1, by go_num, by omega, HT, HB2⟩
          case measure => simp [intOf]; omega
      · have hltz : ¬ (k : Int) < (n : Int) := by omega
        have HT : Hid (R = true) := Lib.hid (by rw [HK.out, List.drop_eq_nil_of_le (by have := HN.out; omega)]; rfl)
        clear HK HR
        go_wp2
        go_ret
        exact ⟨by rw [HT.out]; rfl, HBW.out⟩

theorem smallR_small {r : Rec} (h : smallR r = true) : r.fields.length ≤ 70 ∧ ∀ f ∈ r.fields, f.subs.length ≤ 20 ∧ ∀ s ∈ f.subs, s.2.size ≤ 300 := by
  unfold smallR smallF at h
  simp only [Bool.and_eq_true, decide_eq_true_eq, List.all_eq_true] at h
  exact h
end Go.Proofs.YtkfjeolpbopcnaaGreatDoor
namespace Go.Proofs.YtkfjeolpbopcnaaGreatDoor
open Go Go.RowKit

def validR (r : Rec) : Bool := smallR r && decide (recErr r = 0)
def Codes (r : Rec) : Prop := ∀ f ∈ r.fields, ∀ s ∈ f.subs, s.1 < 256
theorem fldErr_ok {f : Fld} (h : fldErr f = 0) : f.tag.length = 3 ∧ ∀ s ∈ f.subs, isText s.2.data.toList = true := by
  rw [fldErr_eq] at h
  by_cases h1 : tagOk f.tag = false
  · rw [if_pos h1] at h; omega
  rw [if_neg h1] at h
  by_cases h2 : indOk f.ind = false
  · rw [if_pos h2] at h; omega
  rw [if_neg h2] at h
  by_cases h3 : f.subs.length = 0
  · rw [if_pos h3] at h; omega
  rw [if_neg h3] at h
  by_cases h4 : 16 < f.subs.length
  · rw [if_pos h4] at h; omega
  rw [if_neg h4] at h
  have h5 : subsErr f.subs = 0 := by
    unfold subsR at h
    by_cases h6 : subsErr f.subs = 0
    · exact h6
    · rw [if_pos h6] at h; exact h
  constructor
  · have h1 : tagOk f.tag = true := by simpa using h1
    unfold tagOk at h1
    simp only [Bool.and_eq_true, beq_iff_eq] at h1
    exact h1.1.1
  · clear h h1 h2 h3 h4
    generalize f.subs = l at h5
    induction l with
    | nil => simp
    | cons s l ih =>
      intro t ht
      unfold subsErr at h5
      by_cases h6 : subErr s = 0
      · rw [if_neg (by simp [h6])] at h5
        rcases List.mem_cons.1 ht with rfl | ht
        · rcases subErr_cases t with h | h | h | h | h
          · omega
          · omega
          · omega
          · omega
          · exact h.2.2.1
        · exact ih h5 t ht
      · rw [if_pos h6] at h5; exact absurd h5 h6
theorem fldsErr_ok : ∀ {l : List Fld}, fldsErr l = 0 → ∀ f ∈ l, fldErr f = 0
  | [], _ => by simp
  | g :: l, h => by
    unfold fldsErr at h
    by_cases h6 : fldErr g = 0
    · rw [if_neg (by simp [h6])] at h
      intro f hf
      rcases List.mem_cons.1 hf with rfl | hf
      · exact h6
      · exact fldsErr_ok h f hf
    · rw [if_pos h6] at h; exact absurd h h6
/-- What a valid record is. -/
structure Good (r : Rec) : Prop where
  err : recErr r = 0
  small : r.small
  len : r.fields.length ≤ 64
  tag : ∀ f ∈ r.fields, f.tag.length = 3
  text : ∀ f ∈ r.fields, ∀ s ∈ f.subs, isText s.2.data.toList = true
  subs : ∀ f ∈ r.fields, f.subs.length ≤ 20
  vals : ∀ f ∈ r.fields, ∀ s ∈ f.subs, s.2.size ≤ 300
  codes : ∀ f ∈ r.fields, ∀ s ∈ f.subs, s.1 < 256
  ferr : ∀ f ∈ r.fields, fldErr f = 0
theorem small_of {r : Rec} (h : smallR r = true) (hc : Codes r) : r.small := by
  obtain ⟨h1, h2⟩ := smallR_small h
  refine ⟨by omega, fun f hf => ?_⟩
  obtain ⟨h3, h4⟩ := h2 f hf
  exact ⟨by omega, fun s hs => by have := h4 s hs; omega, hc f hf⟩
theorem good_of {r : Rec} (h : validR r = true) (hc : Codes r) : Good r := by
  unfold validR at h
  simp only [Bool.and_eq_true, decide_eq_true_eq] at h
  obtain ⟨hs, he⟩ := h
  obtain ⟨h1, h2⟩ := smallR_small hs
  obtain ⟨-, -, -, -, h3, h4⟩ := recErr_ok he
  have h5 := fldsErr_ok h4
  exact ⟨he, small_of hs hc, h3, fun f hf => (fldErr_ok (h5 f hf)).1, fun f hf => (fldErr_ok (h5 f hf)).2, fun f hf => (h2 f hf).1, fun f hf => (h2 f hf).2, hc, h5⟩
theorem joinTail_le (sep : List UInt8) (M : Nat) : ∀ (r : List (List UInt8)), (∀ x ∈ r, x.length ≤ M) → (Lib.joinTail sep r).length ≤ r.length * (M + sep.length)
  | [], _ => by simp [Lib.joinTail]
  | x :: r, h => by
    have ih := joinTail_le sep M r (fun y hy => h y (List.mem_cons_of_mem _ hy))
    have hx := h x (by simp)
    have e : Lib.joinTail sep (x :: r) = (sep ++ x) ++ Lib.joinTail sep r := by simp [Lib.joinTail]
    rw [e, List.length_append, List.length_append, List.length_cons, Nat.add_mul]
    omega
theorem joinB_size (sep : ByteArray) (xs : List ByteArray) (M : Nat) (h : ∀ x ∈ xs, x.size ≤ M) : (joinB sep xs).size ≤ xs.length * (M + sep.size) := by
  rw [← len_data, joinB_data]
  cases xs with
  | nil => rw [List.map_nil, Lib.join_nil]; simp
  | cons x r =>
    have h1 := joinTail_le sep.data.toList M (r.map (·.data.toList)) (fun y hy => by
      obtain ⟨z, hz, rfl⟩ := List.mem_map.1 hy
      rw [len_data]
      exact h z (List.mem_cons_of_mem _ hz))
    have hx := h x (by simp)
    rw [List.map_cons, Lib.join_cons, List.length_append, List.length_cons, Nat.add_mul, len_data]
    rw [List.length_map, len_data] at h1
    omega
theorem all_texts : ∀ (xs : List ByteArray), (∀ x ∈ xs, isText x.data.toList = true) → ∃ ws : List (List Nat), xs = ws.map bs ∧ ∀ w ∈ ws, okt w = true
  | [], _ => ⟨[], rfl, by simp⟩
  | x :: xs, h => by
    obtain ⟨ws, h1, h2⟩ := all_texts xs (fun y hy => h y (List.mem_cons_of_mem _ hy))
    obtain ⟨cs, hc, he⟩ := text_bs x (h x (by simp))
    refine ⟨cs :: ws, by rw [h1, he]; rfl, ?_⟩
    intro w hw
    rcases List.mem_cons.1 hw with rfl | hw
    · exact hc
    · exact h2 w hw
theorem join_glue (ws : List (List Nat)) : joinB ⟨#[32]⟩ (ws.map bs) = bs (glue ws) := by
  apply ba_ext
  rw [joinB_data, bs_data, enc_glue, List.map_map]
  congr 1
theorem allF_mem {cs : List UInt8} {l : List (Nat × ByteArray)} {y : ByteArray} (h : y ∈ allF cs l) : ∃ s ∈ l, s.2 = y := by
  obtain ⟨s, hs, rfl⟩ := List.mem_map.1 h
  exact ⟨s, (List.mem_filter.1 hs).1, rfl⟩
theorem join_small {r : Rec} (h : Good r) (sep : ByteArray) (hs : sep.size ≤ 100) (cs : List UInt8) : ∀ f ∈ r.fields, (joinB sep (allF cs f.subs)).size ≤ 4000000000 := by
  intro f hf
  have h1 := joinB_size sep (allF cs f.subs) 300 (fun y hy => by obtain ⟨s, hs, rfl⟩ := allF_mem hy; exact h.vals f hf s hs)
  have h2 := allF_len cs f.subs f.subs.length
  rw [List.take_length] at h2
  have h3 := h.subs f hf
  have h4 : (allF cs f.subs).length * (300 + sep.size) ≤ 20 * 400 := Nat.mul_le_mul (by omega) (by omega)
  omega
theorem title_of {r : Rec} (h : Good r) : ∃ out, TitleIs r.fields out := by
  cases hf : firstF [50, 52, 53] r.fields with
  | none => exact ⟨⟨#[]⟩, .inl ⟨hf, rfl⟩⟩
  | some f =>
    have hm := (firstF_mem hf).1
    obtain ⟨ws, h1, h2⟩ := all_texts (allF [97, 98] f.subs) (fun y hy => by obtain ⟨s, hs, rfl⟩ := allF_mem hy; exact h.text f hm s hs)
    have hj := join_small h ⟨#[32]⟩ (by decide) [97, 98] f hm
    rw [h1, join_glue] at hj
    exact ⟨_, .inr ⟨f, glue ws, hf, by rw [h1, join_glue], glue_okt ws h2, hj, by have := h.subs f hm; omega, h.codes f hm, rfl⟩⟩

set_option maxRecDepth 100000 in
set_option maxHeartbeats 2000000 in
theorem lValid (x : Rcd) (w : World) (hx : RcdAt w x) (hc : Codes x.r) :
    Calls Tryz.prog 16 #[recV5 x] w fun e w' => e = .returned (.bool (validR x.r)) ∧ Below w.heap.size w w' := by
  obtain ⟨W, hW⟩ : ∃ W, W = w.alloc (recO x.r.id x.r.ver x.r.kind x.r.lang x.sa x.r.fields.length x.sc) := ⟨_, rfl⟩
  have hb : Below w.heap.size w W := by rw [hW]; exact (Below.refl _ _).alloc (Nat.le_refl _) _
  have hsm := rSmall x.r x.sa x.r.fields.length x.sc W (hx.below hb (Nat.le_refl _))
  have hri : smallR x.r = true → ∀ V, Below W.heap.size W V → Calls Tryz.prog 13 #[.agg #[.int .i64 x.r.id, .int .i64 x.r.ver, .int .i64 x.r.kind, .string x.r.lang, .slice x.sa x.r.fields.length x.sc]] V fun e w' => e = .returned (.int .i64 (recErr x.r)) ∧ Below V.heap.size V w' := fun hs V h => rRecRight x.r x.sa x.r.fields.length x.sc V (hx.below (hb.bt h) (Nat.le_refl _)) (small_of hs hc)
  have hn : W.heap[w.heap.size]? = some (recO x.r.id x.r.ver x.r.kind x.r.lang x.sa x.r.fields.length x.sc) := by rw [hW]; exact alloc_at rfl
  unfold validR
  obtain ⟨S, hS⟩ : ∃ S, S = smallR x.r := ⟨_, rfl⟩
  obtain ⟨E, hE⟩ : ∃ E, E = recErr x.r := ⟨_, rfl⟩
  rw [← hS] at hsm hri ⊢
  rw [← hE] at hri ⊢
  unfold recV5
  obtain ⟨⟨id, ver, kind, lang, rf⟩, ra, rc⟩ := x
  simp only at hsm hri hn hW ⊢
  obtain ⟨n, hnn⟩ : ∃ n, n = rf.length := ⟨_, rfl⟩
  rw [← hnn] at hsm hri hn hW ⊢
  have d0 := Lib.cell_of_heap hn 0
  have d1 := Lib.cell_of_heap hn 1
  have d2 := Lib.cell_of_heap hn 2
  have d3 := Lib.cell_of_heap hn 3
  have d4 := Lib.cell_of_heap hn 4
  rw [hW] at d0 d1 d2 d3 d4
  have HSM := Lib.hid hsm
  have HRI := Lib.hid hri
  have HB := Lib.hid hb
  have HN := Lib.hid hn
  have HW := Lib.hid hW
  clear hx hc hsm hri hb hn hS hE hnn hW
  go_enter Tryz.func16, Tryz.ntmps16
  go_wp2_with fail
  rw [← HW.out]
  refine HSM.out.mono ?_
  rintro e w1 ⟨rfl, b1⟩
  have HB1 := Lib.hid (HB.out.bt b1)
  have hn1 := (b1.block _ (Array.getElem?_eq_some_iff.1 HN.out).1).trans HN.out
  clear d0 d1 d2 d3 d4
  have d0 := Lib.cell_of_heap hn1 0
  have d1 := Lib.cell_of_heap hn1 1
  have d2 := Lib.cell_of_heap hn1 2
  have d3 := Lib.cell_of_heap hn1 3
  have d4 := Lib.cell_of_heap hn1 4
  cases S with
  | false =>
    clear b1 hn1
    go_wp2
    go_ret
    exact ⟨rfl, HB1.out⟩
  | true =>
    have HR1 := Lib.hid (HRI.out rfl w1 b1)
    clear b1 hn1
    go_wp2_with fail
    refine HR1.out.mono ?_
    rintro e w2 ⟨rfl, b2⟩
    have HB2 := Lib.hid (HB1.out.bt b2)
    have he : (E == 0) = decide (E = 0) := by rw [Bool.eq_iff_iff]; simp
    have HE := Lib.hid he
    clear b2 he
    go_wp2
    go_ret
    exact ⟨by rw [Bool.true_and, ← HE.out]; rfl, HB2.out⟩
end Go.Proofs.YtkfjeolpbopcnaaGreatDoor
namespace Go.Proofs.YtkfjeolpbopcnaaGreatDoor
open Go Go.RowKit Go.WideShapes Go.ChangeShapes
set_option maxRecDepth 100000 in
theorem fld_open {H : Type} {enc : TypeId × Value → H} {r : Reach} {b0 : Nat} {w : World} {base : Nat} {spare : Nat → Bool} {held : Bool} {v : Value} {d : DataW H} {ps : List MemPlace} (hv : Value.okWide Tryz.prog w r b0 35 v)
    (h : DataW.Trod enc Tryz.prog w base spare held 35 v d ps) : ∃ f : Fld, v = fldV f ∧ FldAt w f ∧ ∀ s ∈ f.subs, s.1 < 256 := by
  obtain ⟨cs, rfl, -⟩ := okWide_struct Tryz.underlying35 hv
  obtain ⟨fuel, hf⟩ := h
  obtain ⟨f, hp, hfa, hq⟩ := trod_fld hf
  refine ⟨f, ?_, hfa, hq⟩
  obtain ⟨ll⟩ := cs
  have : ll = _ := hp
  subst this
  rfl
end Go.Proofs.YtkfjeolpbopcnaaGreatDoor
