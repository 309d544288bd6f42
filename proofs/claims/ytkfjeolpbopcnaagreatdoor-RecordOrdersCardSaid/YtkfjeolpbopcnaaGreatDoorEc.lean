/- The walks of record.Insert and record.Remove (layer 08). The walk of record.Insert (layer 08). Appending to a row of one's own, whatever is appended; the walks of the reference's With and Remove (layer 08). -/
import Derived.Test.YtkfjeolpbopcnaaGreatDoorDpi
import Derived.Test.YtkfjeolpbopcnaaGreatDoorMfr
import Derived.Laws.AppendOwnNone
namespace Go.Proofs.YtkfjeolpbopcnaaGreatDoor
open Go Go.RowKit

/-- A record's value as an argument. -/
def recV5 (x : Rcd) : Value := .agg #[.int .i64 x.r.id, .int .i64 x.r.ver, .int .i64 x.r.kind, .string x.r.lang, .slice x.sa x.r.fields.length x.sc]
/-- A record in a block. -/
abbrev recO (id ver kind : Int) (lang : ByteArray) (a : Option Addr) (n c : Nat) : Obj := .cells #[.int .i64 id, .int .i64 ver, .int .i64 kind, .string lang, .slice a n c] 24 (0, 0)
abbrev fldO (T I : ByteArray) (sa : Option Addr) (sn sc : Nat) (au : Int) : Obj := .cells #[.string T, .string I, .slice sa sn sc, .int .i64 au] 35 (0, 0)
def putR (w : World) (g : Nat) (a b c : Int) (d : ByteArray) (e : Value) : World := ((((w.setCell ⟨g, 0, none⟩ (.int .i64 a)).setCell ⟨g, 1, none⟩ (.int .i64 b)).setCell ⟨g, 2, none⟩ (.int .i64 c)).setCell ⟨g, 3, none⟩ (.string d)).setCell ⟨g, 4, none⟩ e
theorem putR_eq (w : World) (g : Nat) (a b c : Int) (d : ByteArray) (e : Value) : putR w g a b c d e = putL w g 0 [.int .i64 a, .int .i64 b, .int .i64 c, .string d, e] := rfl
theorem results_rt {fn : Func} {t u : Tmp} (h : fn.results = #[.cell t 24, .tmp u]) (tmps : Array Value) (w : World) (g : Nat) (a b c : Int) (d : ByteArray) (e : Value) {T : TypeId} (ht : tmps.getD t undef = .pointer (some ⟨g, 0, none⟩))
    (hg : w.heap[g]? = some (.cells #[.int .i64 a, .int .i64 b, .int .i64 c, .string d, e] T (0, 0))) :
    (results fn tmps).run Tryz.prog w = .ok (.tuple #[.agg #[.int .i64 a, .int .i64 b, .int .i64 c, .string d, e], tmps.getD u undef]) w := by
  have q0 := Lib.cell_of_heap hg 0
  have q1 := Lib.cell_of_heap hg 1
  have q2 := Lib.cell_of_heap hg 2
  have q3 := Lib.cell_of_heap hg 3
  have q4 := Lib.cell_of_heap hg 4
  clear hg
  unfold results
  rw [h]
  simp only [List.mapM_toArray, List.mapM_cons, List.mapM_nil]
  rw [ht]
  go_simp
theorem results_r1 {fn : Func} {t : Tmp} (h : fn.results = #[.cell t 24]) (tmps : Array Value) (w : World) (g : Nat) (a b c : Int) (d : ByteArray) (e : Value) {T : TypeId} (ht : tmps.getD t undef = .pointer (some ⟨g, 0, none⟩))
    (hg : w.heap[g]? = some (.cells #[.int .i64 a, .int .i64 b, .int .i64 c, .string d, e] T (0, 0))) :
    (results fn tmps).run Tryz.prog w = .ok (.agg #[.int .i64 a, .int .i64 b, .int .i64 c, .string d, e]) w := by
  have q0 := Lib.cell_of_heap hg 0
  have q1 := Lib.cell_of_heap hg 1
  have q2 := Lib.cell_of_heap hg 2
  have q3 := Lib.cell_of_heap hg 3
  have q4 := Lib.cell_of_heap hg 4
  clear hg
  unfold results
  rw [h]
  simp only [List.mapM_toArray, List.mapM_cons, List.mapM_nil]
  rw [ht]
  go_simp
/-- A call returns a record and an error's number. -/
def RetR (w : World) (p : Rec × Int) (e : Ending) (w' : World) : Prop := ∃ (a : Option Addr) (c : Nat), e = .returned (.tuple #[recV5 ⟨p.1, a, c⟩, .int .i64 p.2]) ∧ RcdAt w' ⟨p.1, a, c⟩ ∧ Below w.heap.size w w'
/-- The end of a call that returns a record. -/
theorem ret_at {fn : Func} {t u : Tmp} (h : fn.results = #[.cell t 24, .tmp u]) {w W : World} {tmps : Array Value} {err : Int} {g : Nat} {T : TypeId} {r : Rec} {sa : Option Addr} {n sc : Nat} (hn : n = r.fields.length) (ht : tmps.getD t undef = .pointer (some ⟨g, 0, none⟩)) (hu : tmps.getD u undef = .int .i64 err)
    (hg : W.heap[g]? = some (.cells #[.int .i64 r.id, .int .i64 r.ver, .int .i64 r.kind, .string r.lang, .slice sa n sc] T (0, 0))) (hb : Below w.heap.size w W) (hr : RcdAt W ⟨r, sa, sc⟩) {p : Rec × Int} (hp : p = (r, err)) : bodyPost Tryz.prog fn (RetR w p) .ret ⟨tmps, []⟩ W := by
  subst hn
  subst hp
  refine bodyPost_ret (results_rt h tmps _ g r.id r.ver r.kind r.lang (.slice sa r.fields.length sc) ht hg) rfl ?_
  rw [hu]
  exact ⟨sa, sc, rfl, hr, hb⟩
theorem rcd_zero (w : World) : RcdAt w ⟨rec0, none, 0⟩ := Flds.nil w
/-- A record with other fields. -/
def withL (r : Rec) (l : List Fld) : Rec := ⟨r.id, r.ver, r.kind, r.lang, l⟩
/-- Insert and Remove, plain. -/
def insR (r : Rec) (i : Int) (f : Fld) : Rec × Int :=
  if i < 0 ∨ (r.fields.length : Int) < i then (rec0, 2) else if fldErr f ≠ 0 then (rec0, fldErr f) else if 64 ≤ r.fields.length then (rec0, 13) else (withL r (r.fields.take i.toNat ++ f :: r.fields.drop i.toNat), 0)
def remR (r : Rec) (i : Int) : Rec × Int := if i < 0 ∨ (r.fields.length : Int) ≤ i then (rec0, 2) else (withL r (r.fields.eraseIdx i.toNat), 0)

theorem putR_heap {w : World} {g : Nat} {cs : Array Value} {T : TypeId} (h : w.heap[g]? = some (.cells cs T (0, 0))) (hs : 5 = cs.size) (a b c : Int) (d : ByteArray) (e : Value) : (putR w g a b c d e).heap[g]? = some (.cells #[.int .i64 a, .int .i64 b, .int .i64 c, .string d, e] T (0, 0)) := by
  rw [putR_eq]
  exact putL_all _ w g cs T h hs
theorem putR_other (w : World) {g b : Nat} (a c d : Int) (l : ByteArray) (e : Value) (h : b ≠ g) : (putR w g a c d l e).heap[b]? = w.heap[b]? := by rw [putR_eq]; exact putL_other _ _ _ _ h
theorem putR_below {B : Nat} {a w : World} (h : Below B a w) {g : Nat} (hg : B ≤ g) (b c d : Int) (l : ByteArray) (e : Value) : Below B a (putR w g b c d l e) := by rw [putR_eq]; exact putL_below _ _ _ _ h hg
theorem putR_size (w : World) (g : Nat) (b c d : Int) (l : ByteArray) (e : Value) : (putR w g b c d l e).heap.size = w.heap.size := by rw [putR_eq]; exact putL_size _ _ _ _
/-- An own row stays when blocks ahead of it are written. -/
theorem own_keep {w W : World} {B k n : Nat} {T : TypeId} {v : Value} {l : List Value} (h : w.ownsRow B T k v n l) (he : ∀ g, B ≤ g → W.heap[g]? = w.heap[g]?) : W.ownsRow B T k v n l := by
  refine ⟨h.1, ?_⟩
  rcases h.2 with h0 | ⟨g, cap, cur, e, hb, hh, r⟩
  · exact .inl h0
  · exact .inr ⟨g, cap, cur, e, hb, (he g hb).trans hh, r⟩
theorem cell_heap {w W : World} {b j : Nat} (h : W.heap[b]? = w.heap[b]?) : W.cell? ⟨b, j, none⟩ = w.cell? ⟨b, j, none⟩ := by
  simp only [World.cell?, h]
/-- Fields do not lie in a record's block; so they stay when it is written. -/
theorem rows_away {w : World} {v : Value} {l : List Fld} (h : Rows fldE 4 w v l) {n : Nat} {id ver kind : Int} {lang : ByteArray} {a : Option Addr} {m c : Nat} (hg : w.heap[n]? = some (.cells #[.int .i64 id, .int .i64 ver, .int .i64 kind, .string lang, .slice a m c] 24 (0, 0)))
    {W : World} (hk : ∀ b, b ≠ n → W.heap[b]? = w.heap[b]?) : Rows fldE 4 W v l := by
  obtain ⟨ad, cp, rfl, hc, h0⟩ := h
  refine ⟨ad, cp, rfl, hc, ?_⟩
  rcases h0 with h0 | ⟨b, o, rfl, hb, hx⟩
  · exact .inl h0
  · cases l with
    | nil => exact .inl rfl
    | cons p r =>
      have c0 := hx 0 p rfl 0 _ rfl
      have c1 := hx 0 p rfl 1 _ rfl
      have hbn : b ≠ n := by
        rintro rfl
        rw [Lib.cell_of_heap hg] at c0 c1
        rw [show o + 0 * 4 + 0 = o by omega] at c0
        rw [show o + 0 * 4 + 1 = o + 1 by omega] at c1
        have ho : o < 5 := (Array.getElem?_eq_some_iff.1 c0).1
        have : o = 0 ∨ o = 1 ∨ o = 2 ∨ o = 3 ∨ o = 4 := by omega
        rcases this with rfl | rfl | rfl | rfl | rfl <;> simp at c0 c1
      refine .inr ⟨b, o, rfl, ?_, fun j q hj i u hi => (cell_heap (hk b hbn)).trans (hx j q hj i u hi)⟩
      have := hk b hbn
      have hs : w.heap[b]? = some w.heap[b] := Array.getElem?_eq_getElem hb
      rw [hs] at this
      exact (Array.getElem?_eq_some_iff.1 this).1

set_option maxRecDepth 100000 in
set_option maxHeartbeats 4000000 in
theorem pRemove (x : Rcd) (i : Int) (w : World) (hx : RcdAt w x) (hl : x.r.fields.length ≤ 900) (hi : (Lit.int .i64 i).wf = true) :
    Calls Tryz.prog 23 #[recV5 x, .int .i64 i] w (RetR w (remR x.r i)) := by
  have HCL : Hid (∀ W, Below w.heap.size w W → Calls Tryz.prog 46 #[.slice x.sa x.r.fields.length x.sc] W fun e w' => ∃ v, e = .returned v ∧ OwnF w' W.heap.size v x.r.fields ∧ Below W.heap.size W w') := Lib.hid (fun W h => pClone _ x.r.fields W (Flds.below hx h (Nat.le_refl _)) (by omega))
  have HFX : Hid (∀ W, Below w.heap.size w W → ∀ f ∈ x.r.fields, FldAt W f) := Lib.hid (fun W h f hf => (hx.2 f hf).below h (Nat.le_refl _))
  obtain ⟨P, hP⟩ : ∃ P, P = remR x.r i := ⟨_, rfl⟩
  rw [← hP]
  unfold remR withL at hP
  unfold recV5
  obtain ⟨⟨id, ver, kind, lang, rf⟩, ra, rc⟩ := x
  simp only at HCL HFX hP hl ⊢
  obtain ⟨rn, hrn⟩ : ∃ n, n = rf.length := ⟨_, rfl⟩
  rw [← hrn] at HCL hP hl ⊢
  have HRN := Lib.hid hrn
  clear hx hrn
  have HB0 : Hid (Below w.heap.size w ((w.alloc (recO id ver kind lang ra rn rc)).alloc (recO 0 0 0 ⟨#[]⟩ none 0 0))) := Lib.hid ((Below.refl _ _).alloc2 (Nat.le_refl _) _ _)
  have H0 : Hid (((w.alloc (recO id ver kind lang ra rn rc)).alloc (recO 0 0 0 ⟨#[]⟩ none 0 0)).heap[w.heap.size]? = some (recO id ver kind lang ra rn rc)) := Lib.hid ((alloc_old (by simp)).trans (alloc_at rfl))
  have H1 : Hid (((w.alloc (recO id ver kind lang ra rn rc)).alloc (recO 0 0 0 ⟨#[]⟩ none 0 0)).heap[w.heap.size + 1]? = some (recO 0 0 0 ⟨#[]⟩ none 0 0)) := Lib.hid (alloc_at (by simp))
  by_cases hneg : i < 0 ∨ (rn : Int) ≤ i
  · rw [if_pos hneg] at hP
    have HP := Lib.hid hP
    have d0 := Lib.cell_of_heap H0.out 4
    have q0 := Lib.cell_of_heap H1.out 0
    have g0 := Lib.frozen_of_heap H1.out 0
    have q1 := Lib.cell_of_heap H1.out 1
    have g1 := Lib.frozen_of_heap H1.out 1
    have q2 := Lib.cell_of_heap H1.out 2
    have g2 := Lib.frozen_of_heap H1.out 2
    have q3 := Lib.cell_of_heap H1.out 3
    have g3 := Lib.frozen_of_heap H1.out 3
    have q4 := Lib.cell_of_heap H1.out 4
    have g4 := Lib.frozen_of_heap H1.out 4
    clear hP hi
    have hcase : (i < 0) ∨ (¬ i < 0 ∧ (rn : Int) ≤ i) := by omega
    rcases hcase with h1 | ⟨h1, h2⟩
    all_goals
      clear hneg
      go_enter Tryz.func23, Tryz.ntmps23
      go_wp2
      (try simp only [Exit.inBlock, Exit.then])
      exact ret_at (r := rec0) (sa := none) (n := 0) (sc := 0) rfl rfl rfl rfl H1.out HB0.out (rcd_zero _) HP.out
  · rw [if_neg hneg] at hP
    obtain ⟨k, rfl⟩ : ∃ k : Nat, i = (k : Int) := ⟨i.toNat, by omega⟩
    have hk : k < rn := by omega
    have hkz : (k : Int) < (rn : Int) := by omega
    have hk1 : ¬ (rn : Int) ≤ (k : Int) := by omega
    rw [Int.toNat_natCast] at hP
    have HP := Lib.hid hP
    have d4 := Lib.cell_of_heap H0.out 4
    clear hP hneg hi
    go_enter Tryz.func23, Tryz.ntmps23
    go_wp2_with fail
    refine (HCL.out _ HB0.out).mono ?_
    rintro e w1 ⟨v, rfl, ho, b1⟩
    obtain ⟨g, cap, rfl⟩ : ∃ g cap, v = .slice (some ⟨g, 0, none⟩) rn cap := by
      rcases ho with ⟨-, h0⟩ | ⟨g, cap, sp, rfl, -⟩
      · have := HRN.out; rw [h0] at this; simp at this; omega
      · exact ⟨g, cap, by rw [HRN.out]⟩
    have hrow : w1.ownsRow (w.heap.size + 2) 35 4 (.slice (some ⟨g, 0, none⟩) rn cap) rn (flatE fldE rf) := by
      have := ho.own fldE_len
      rw [← HRN.out] at this
      simpa using this
    have HD := Lib.hid (pDelete hrow (by omega) k (k + 1) hk rfl)
    have hgB : w.heap.size + 2 ≤ g := (hrow.lt g (by simp [Value.ownBlock])).1
    have HM : Hid (Below (w.heap.size + 2) ((w.alloc (recO id ver kind lang ra rn rc)).alloc (recO 0 0 0 ⟨#[]⟩ none 0 0)) w1) := Lib.hid (by have := b1; simpa using this)
    clear ho hrow b1 d4
    go_wp2_with fail
    refine HD.out.mono ?_
    rintro e w2 ⟨rfl, ho2, hb2⟩
    have HM2 := Lib.hid (hb2 (w.heap.size + 2) _ HM.out hgB)
    have h0 : w2.heap[w.heap.size]? = some (recO id ver kind lang ra rn rc) := (HM2.out.block _ (by omega)).trans H0.out
    have h1 : w2.heap[w.heap.size + 1]? = some (recO 0 0 0 ⟨#[]⟩ none 0 0) := (HM2.out.block _ (by omega)).trans H1.out
    have HO2 := Lib.hid ho2
    have d0 := Lib.cell_of_heap h0 0
    have d1 := Lib.cell_of_heap h0 1
    have d2 := Lib.cell_of_heap h0 2
    have d3 := Lib.cell_of_heap h0 3
    have d4 := Lib.cell_of_heap h0 4
    have z4 := Lib.frozen_of_heap h0 4
    have q0 := Lib.cell_of_heap h1 0
    have g0 := Lib.frozen_of_heap h1 0
    have q1 := Lib.cell_of_heap h1 1
    have g1 := Lib.frozen_of_heap h1 1
    have q2 := Lib.cell_of_heap h1 2
    have g2 := Lib.frozen_of_heap h1 2
    have q3 := Lib.cell_of_heap h1 3
    have g3 := Lib.frozen_of_heap h1 3
    have q4 := Lib.cell_of_heap h1 4
    have g4 := Lib.frozen_of_heap h1 4
    have HH1 := Lib.hid h1
    clear ho2 hb2 h0 h1
    go_wp2
    (try simp only [Exit.inBlock, Exit.then])
    have hb2 : Below w.heap.size w w2 := HB0.out.trans (HM2.out.mono (by omega))
    have hbf : Below w.heap.size w (putR (w2.setCell ⟨w.heap.size, 4, none⟩ (.slice (some ⟨g, 0, none⟩) (rn - 1) cap)) (w.heap.size + 1) id ver kind lang (.slice (some ⟨g, 0, none⟩) (rn - 1) cap)) := putR_below (hb2.setCell (p := ⟨w.heap.size, 4, none⟩) (Nat.le_refl _) _) (by omega) _ _ _ _ _
    have hlen : rn - 1 = (rf.eraseIdx k).length := by rw [List.length_eraseIdx_of_lt (by rw [← HRN.out]; exact hk), HRN.out]
    have h1' : (w2.setCell ⟨w.heap.size, 4, none⟩ (.slice (some ⟨g, 0, none⟩) (rn - 1) cap)).heap[w.heap.size + 1]? = some (recO 0 0 0 ⟨#[]⟩ none 0 0) := by rw [set_block _ _ _ _ (by show w.heap.size ≠ _; omega)]; exact HH1.out
    have hgg := putR_heap h1' rfl id ver kind lang (.slice (some ⟨g, 0, none⟩) (rn - 1) cap)
    refine ret_at (W := putR (w2.setCell ⟨w.heap.size, 4, none⟩ (.slice (some ⟨g, 0, none⟩) (rn - 1) cap)) (w.heap.size + 1) id ver kind lang (.slice (some ⟨g, 0, none⟩) (rn - 1) cap)) (r := ⟨id, ver, kind, lang, rf.eraseIdx k⟩) (sa := some ⟨g, 0, none⟩) (n := rn - 1) (sc := cap) rfl hlen rfl rfl hgg hbf ?_ HP.out
    refine ⟨?_, fun f hf => HFX.out _ hbf f (List.mem_of_mem_eraseIdx hf)⟩
    have ho := own_keep HO2.out (W := putR (w2.setCell ⟨w.heap.size, 4, none⟩ (.slice (some ⟨g, 0, none⟩) (rn - 1) cap)) (w.heap.size + 1) id ver kind lang (.slice (some ⟨g, 0, none⟩) (rn - 1) cap)) (fun b hb => by rw [putR_other _ _ _ _ _ _ (by omega), set_block _ _ _ _ (by show w.heap.size ≠ _; omega)])
    show Rows fldE 4 _ (.slice (some ⟨g, 0, none⟩) (rf.eraseIdx k).length cap) (rf.eraseIdx k)
    rw [← hlen]
    exact Rows.of_own fldE_len ho hlen
end Go.Proofs.YtkfjeolpbopcnaaGreatDoor
namespace Go.Proofs.YtkfjeolpbopcnaaGreatDoor
open Go Go.RowKit

/-- The three blocks of a call of Insert. -/
abbrev insW (w : World) (id ver kind : Int) (lang : ByteArray) (a : Option Addr) (n c : Nat) (T I : ByteArray) (sa : Option Addr) (sn sc : Nat) (au : Int) : World :=
  ((w.alloc (recO id ver kind lang a n c)).alloc (fldO T I sa sn sc au)).alloc (recO 0 0 0 ⟨#[]⟩ none 0 0)
theorem insW_blocks (w : World) (id ver kind : Int) (lang : ByteArray) (a : Option Addr) (n c : Nat) (T I : ByteArray) (sa : Option Addr) (sn sc : Nat) (au : Int) :
    (insW w id ver kind lang a n c T I sa sn sc au).heap[w.heap.size]? = some (recO id ver kind lang a n c) ∧ (insW w id ver kind lang a n c T I sa sn sc au).heap[w.heap.size + 1]? = some (fldO T I sa sn sc au) ∧
    (insW w id ver kind lang a n c T I sa sn sc au).heap[w.heap.size + 2]? = some (recO 0 0 0 ⟨#[]⟩ none 0 0) ∧ Below w.heap.size w (insW w id ver kind lang a n c T I sa sn sc au) ∧ (insW w id ver kind lang a n c T I sa sn sc au).heap.size = w.heap.size + 3 := by
  refine ⟨?_, ?_, ?_, ((Below.refl _ _).alloc2 (Nat.le_refl _) _ _).alloc (by simp only [World.size_alloc]; omega) _, by simp⟩
  · exact (alloc_old (by simp only [World.size_alloc]; omega)).trans ((alloc_old (by simp)).trans (alloc_at rfl))
  · exact (alloc_old (by simp)).trans (alloc_at (by simp))
  · exact alloc_at (by simp)
set_option maxRecDepth 100000 in
set_option maxHeartbeats 4000000 in
theorem pInsert (x : Rcd) (i : Int) (f : Fld) (w : World) (hE : Env w) (hx : RcdAt w x) (hf : FldAt w f) (hs : f.small) (hl : x.r.fields.length ≤ 900) :
    Calls Tryz.prog 21 #[recV5 x, .int .i64 i, fldV f] w (RetR w (insR x.r i f)) := by
  have HFR : Hid (∀ W, Below w.heap.size w W → Calls Tryz.prog 39 #[fldV f] W fun e w' => e = .returned (.int .i64 (fldErr f)) ∧ Below W.heap.size W w') := Lib.hid (fun W h => pFldRight f W (hE.below h) (hf.below h (Nat.le_refl _)) hs)
  have HFL : Hid (∀ W, Below w.heap.size w W → Flds W (.slice x.sa x.r.fields.length x.sc) x.r.fields) := Lib.hid (fun W h => Flds.below hx h (Nat.le_refl _))
  have HFF : Hid (∀ W, Below w.heap.size w W → FldAt W f) := Lib.hid (fun W h => hf.below h (Nat.le_refl _))
  obtain ⟨P, hP⟩ : ∃ P, P = insR x.r i f := ⟨_, rfl⟩
  rw [← hP]
  unfold insR withL at hP
  unfold recV5
  obtain ⟨⟨id, ver, kind, lang, rf⟩, ra, rc⟩ := x
  simp only at HFL hP hl ⊢
  obtain ⟨rn, hrn⟩ : ∃ n, n = rf.length := ⟨_, rfl⟩
  rw [← hrn] at HFL hP hl ⊢
  have HRN := Lib.hid hrn
  obtain ⟨E, hE2⟩ : ∃ E, E = fldErr f := ⟨_, rfl⟩
  rw [← hE2] at hP HFR
  unfold fldV at HFR ⊢
  obtain ⟨T, hT⟩ : ∃ T, T = lb f.tag := ⟨_, rfl⟩
  obtain ⟨I, hI⟩ : ∃ I, I = lb f.ind := ⟨_, rfl⟩
  obtain ⟨sn, hsn⟩ : ∃ n, n = f.subs.length := ⟨_, rfl⟩
  rw [← hT, ← hI, ← hsn] at HFR ⊢
  have HTT := Lib.hid hT
  have HII := Lib.hid hI
  have HSN := Lib.hid hsn
  obtain ⟨k0, k1, k2, kb, ks⟩ := insW_blocks w id ver kind lang ra rn rc T I f.sa sn f.sc f.auth
  have H0 := Lib.hid k0
  have H1 := Lib.hid k1
  have H2 := Lib.hid k2
  have HB0 := Lib.hid kb
  have HS := Lib.hid ks
  clear hx hrn hE hf hs hE2 hT hI hsn k0 k1 k2 kb ks
  by_cases hneg : i < 0 ∨ (rn : Int) < i
  · rw [if_pos hneg] at hP
    have HP := Lib.hid hP
    have d0 := Lib.cell_of_heap H0.out 4
    have q0 := Lib.cell_of_heap H2.out 0
    have g0 := Lib.frozen_of_heap H2.out 0
    have q1 := Lib.cell_of_heap H2.out 1
    have g1 := Lib.frozen_of_heap H2.out 1
    have q2 := Lib.cell_of_heap H2.out 2
    have g2 := Lib.frozen_of_heap H2.out 2
    have q3 := Lib.cell_of_heap H2.out 3
    have g3 := Lib.frozen_of_heap H2.out 3
    have q4 := Lib.cell_of_heap H2.out 4
    have g4 := Lib.frozen_of_heap H2.out 4
    clear hP
    have hcase : (i < 0) ∨ (¬ i < 0 ∧ (rn : Int) < i) := by omega
    rcases hcase with h1 | ⟨h1, h2⟩
    all_goals
      clear hneg
      go_enter Tryz.func21, Tryz.ntmps21
      go_wp2
      (try simp only [Exit.inBlock, Exit.then])
      exact ret_at (r := rec0) (sa := none) (n := 0) (sc := 0) rfl rfl rfl rfl H2.out HB0.out (rcd_zero _) HP.out
  · rw [if_neg hneg] at hP
    obtain ⟨k, rfl⟩ : ∃ k : Nat, i = (k : Int) := ⟨i.toNat, by omega⟩
    have hk : k ≤ rn := by omega
    have hkz : ¬ (rn : Int) < (k : Int) := by omega
    rw [Int.toNat_natCast] at hP
    have HP0 := Lib.hid hP
    have d4 := Lib.cell_of_heap H0.out 4
    have r0 := Lib.cell_of_heap H1.out 0
    have r1 := Lib.cell_of_heap H1.out 1
    have r2 := Lib.cell_of_heap H1.out 2
    have r3 := Lib.cell_of_heap H1.out 3
    clear hP hneg
    go_enter Tryz.func21, Tryz.ntmps21
    go_wp2_with fail
    refine (HFR.out _ HB0.out).mono ?_
    rintro e w1 ⟨rfl, b1⟩
    have HB1 : Hid (Below w.heap.size w w1) := Lib.hid (HB0.out.bt b1)
    have h0 : w1.heap[w.heap.size]? = some (recO id ver kind lang ra rn rc) := (b1.block _ (by rw [HS.out]; omega)).trans H0.out
    have h1 : w1.heap[w.heap.size + 1]? = some (fldO T I f.sa sn f.sc f.auth) := (b1.block _ (by rw [HS.out]; omega)).trans H1.out
    have h2 : w1.heap[w.heap.size + 2]? = some (recO 0 0 0 ⟨#[]⟩ none 0 0) := (b1.block _ (by rw [HS.out]; omega)).trans H2.out
    have hz : w.heap.size + 3 ≤ w1.heap.size := by have := b1.size; have := HS.out; omega
    have K0 := Lib.hid h0
    have K1 := Lib.hid h1
    have K2 := Lib.hid h2
    have HZ := Lib.hid hz
    clear b1 d4 r0 r1 r2 r3 H0 H1 H2
    have d4 := Lib.cell_of_heap h0 4
    have q0 := Lib.cell_of_heap h2 0
    have g0 := Lib.frozen_of_heap h2 0
    have q1 := Lib.cell_of_heap h2 1
    have g1 := Lib.frozen_of_heap h2 1
    have q2 := Lib.cell_of_heap h2 2
    have g2 := Lib.frozen_of_heap h2 2
    have q3 := Lib.cell_of_heap h2 3
    have g3 := Lib.frozen_of_heap h2 3
    have q4 := Lib.cell_of_heap h2 4
    have g4 := Lib.frozen_of_heap h2 4
    clear h0 h1 h2 hz
    by_cases hE0 : E = 0
    · subst hE0
      by_cases h64 : 64 ≤ rn
      · have hz64 : (64 : Int) ≤ (rn : Int) := by omega
        have HP : Hid (P = (rec0, 13)) := Lib.hid (by rw [HP0.out, if_neg (by simp), if_pos h64])
        clear h64
        go_wp2
        (try simp only [Exit.inBlock, Exit.then])
        have hgg := putR_heap K2.out rfl 0 0 0 ⟨#[]⟩ (.slice none 0 0)
        exact ret_at (W := putR w1 (w.heap.size + 2) 0 0 0 ⟨#[]⟩ (.slice none 0 0)) (r := rec0) (sa := none) (n := 0) (sc := 0) rfl rfl rfl rfl hgg (putR_below HB1.out (by omega) _ _ _ _ _) (rcd_zero _) HP.out
      · have hz64 : ¬ (64 : Int) ≤ (rn : Int) := by omega
        have HP : Hid (P = (⟨id, ver, kind, lang, rf.take k ++ f :: rf.drop k⟩, 0)) := Lib.hid (by rw [HP0.out, if_neg (by simp), if_neg h64])
        clear h64 q0 g0 q1 g1 q2 g2 q3 g3 q4 g4
        go_upto_region 8 with fail
        have z4 : w1.frozen? ⟨w.heap.size, 4, none⟩ = false := Lib.frozen_of_heap K0.out 4
        refine ins_region w.heap.size (w.heap.size + 1) rn rc k ra rf f T I sn HTT.out HII.out HSN.out HRN.out hl hk (HFL.out w1 HB1.out) d4 z4 K1.out (by kernel_rfl) (by kernel_rfl) (by kernel_rfl) (by kernel_rfl) (by kernel_rfl) (by kernel_rfl) (by kernel_rfl) (by kernel_rfl) (by kernel_rfl) (by kernel_rfl) (by kernel_rfl) (by kernel_rfl) (by kernel_rfl) (by kernel_rfl) (by kernel_rfl) (by kernel_rfl) ?_
        rintro xs W Z hb ⟨ga, gc, he, hr, rfl⟩
        have HBW : Hid (Below w.heap.size w W) := Lib.hid (HB1.out.bt hb)
        have h0 : W.heap[w.heap.size]? = some (recO id ver kind lang ra rn rc) := (hb.block _ (by have := HZ.out; omega)).trans K0.out
        have h2 : W.heap[w.heap.size + 2]? = some (recO 0 0 0 ⟨#[]⟩ none 0 0) := (hb.block _ (by have := HZ.out; omega)).trans K2.out
        have d0 := Lib.cell_of_heap h0 0
        have d1 := Lib.cell_of_heap h0 1
        have d2 := Lib.cell_of_heap h0 2
        have d3 := Lib.cell_of_heap h0 3
        have d5 := Lib.cell_of_heap h0 4
        have q0 := Lib.cell_of_heap h2 0
        have g0 := Lib.frozen_of_heap h2 0
        have q1 := Lib.cell_of_heap h2 1
        have g1 := Lib.frozen_of_heap h2 1
        have q2 := Lib.cell_of_heap h2 2
        have g2 := Lib.frozen_of_heap h2 2
        have q3 := Lib.cell_of_heap h2 3
        have g3 := Lib.frozen_of_heap h2 3
        have q4 := Lib.cell_of_heap h2 4
        have g4 := Lib.frozen_of_heap h2 4
        have L0 := Lib.hid h0
        have L2 := Lib.hid h2
        have HR := Lib.hid hr
        clear hb he hr h0 h2 d4 z4
        go_wp2
        (try simp only [Exit.inBlock, Exit.then])
        have L3 : (W.setCell ⟨w.heap.size, 4, none⟩ (.slice ga (rn + 1) gc)).heap[w.heap.size]? = some (recO id ver kind lang ga (rn + 1) gc) := heap_setCell_same W w.heap.size 4 _ _ (.slice ga (rn + 1) gc) L0.out
        have L4 : (W.setCell ⟨w.heap.size, 4, none⟩ (.slice ga (rn + 1) gc)).heap[w.heap.size + 2]? = some (recO 0 0 0 ⟨#[]⟩ none 0 0) := by rw [set_block _ _ _ _ (by show w.heap.size ≠ _; omega)]; exact L2.out
        have hgg := putR_heap L4 rfl id ver kind lang (.slice ga (rn + 1) gc)
        have hbf : Below w.heap.size w (putR (W.setCell ⟨w.heap.size, 4, none⟩ (.slice ga (rn + 1) gc)) (w.heap.size + 2) id ver kind lang (.slice ga (rn + 1) gc)) := putR_below (HBW.out.setCell (p := ⟨w.heap.size, 4, none⟩) (Nat.le_refl _) _) (by omega) _ _ _ _ _
        have hlen : rn + 1 = (rf.take k ++ f :: rf.drop k).length := by rw [List.length_append, List.length_cons, List.length_take, List.length_drop]; have := HRN.out; omega
        refine ret_at (W := putR (W.setCell ⟨w.heap.size, 4, none⟩ (.slice ga (rn + 1) gc)) (w.heap.size + 2) id ver kind lang (.slice ga (rn + 1) gc)) (r := ⟨id, ver, kind, lang, rf.take k ++ f :: rf.drop k⟩) (sa := ga) (n := rn + 1) (sc := gc) rfl hlen rfl rfl hgg hbf ?_ HP.out
        refine ⟨?_, fun f' hf' => ?_⟩
        · show Rows fldE 4 _ (.slice ga (rf.take k ++ f :: rf.drop k).length gc) (rf.take k ++ f :: rf.drop k)
          rw [← hlen]
          refine rows_away (rows_away HR.out L0.out (W := W.setCell ⟨w.heap.size, 4, none⟩ (.slice ga (rn + 1) gc)) (fun b hb => set_block _ _ _ _ (fun e => hb e.symm))) L4 (fun b hb => putR_other _ _ _ _ _ _ hb)
        · have hm : f' = f ∨ f' ∈ rf := by
            rcases List.mem_append.1 hf' with h | h
            · exact .inr (List.mem_of_mem_take h)
            · rcases List.mem_cons.1 h with h | h
              · exact .inl h
              · exact .inr (List.mem_of_mem_drop h)
          rcases hm with rfl | hm
          · exact HFF.out _ hbf
          · exact (HFL.out _ hbf).2 f' hm
    · have hz0 : (E != 0) = true := by simpa using hE0
      have hz1 : (E == 0) = false := by simpa using hE0
      have HP : Hid (P = (rec0, E)) := Lib.hid (by rw [HP0.out, if_pos hE0])
      clear hE0
      go_wp2
      (try simp only [Exit.inBlock, Exit.then])
      have hgg := putR_heap K2.out rfl 0 0 0 ⟨#[]⟩ (.slice none 0 0)
      exact ret_at (W := putR w1 (w.heap.size + 2) 0 0 0 ⟨#[]⟩ (.slice none 0 0)) (r := rec0) (sa := none) (n := 0) (sc := 0) rfl rfl rfl rfl hgg (putR_below HB1.out (by omega) _ _ _ _ _) (rcd_zero _) HP.out
end Go.Proofs.YtkfjeolpbopcnaaGreatDoor
namespace Go.Proofs.YtkfjeolpbopcnaaGreatDoor
open Go Go.RowKit

theorem run_append_none (P : Program) (w : World) (base : Nat) (t ty e : TypeId) (i : TypeInfo) (size : Nat) (ht : P.underlying t = some (.slice e)) (hi : P.info? e = some i)
    (v : Value) (n : Nat) (xs : List Value) (hown : w.ownsRow base e size v n xs) (c : Nat) : (Builtin.append_ #[t, t] ty #[v, .slice none 0 c]).run P w = .ok v w := by
  rcases hown.2 with ⟨rfl, rfl⟩ | ⟨g, cap, cur, rfl, _, _, hnc, _⟩
  · simp [Builtin.append_, run_underlying ht, sizeOf, typeInfo, hi, Builtin.lenOf, Builtin.firstCells]
  · simp [Builtin.append_, run_underlying ht, sizeOf, typeInfo, hi, Builtin.lenOf, Builtin.firstCells, hnc, storeCells]
abbrev OwnR (w : World) (B : Nat) (v : Value) (l : List Fld) : Prop := w.ownsRow B 35 4 v l.length (flatE fldE l)
theorem OwnR.made (w : World) (n B : Nat) (hn : n = w.heap.size) (hB : B ≤ n) : OwnR (w.alloc (.cells #[] 35)) B (.slice (some ⟨n, 0, none⟩) 0 0) [] := (OwnE.made fldE 35 w n B hn hB).own fldE_len
theorem append_rows {ops : Array Oper} {rest : List Oper} {o : Oper} {a : Act} {w : World} {Q : Exit → Act → World → Prop} (hgd : o.guard = none) (s x : Operand)
    (ho : o.op = .call { callee := .builtin .append, args := #[s, x], argTypes := #[22, 22] })
    (B : Nat) (v : Value) (out : List Fld) (hs : a.eval s = v) (hown : OwnR w B v out)
    (xa : Option Addr) (m c : Nat) (news : List Fld) (hx : a.eval x = .slice xa m c) (hm : m = news.length) (hnone : xa = none → news = []) (hnews : ∀ ad, xa = some ad → ∀ j u, (flatE fldE news)[j]? = some u → w.cell? (ad.add j) = some u)
    (hlen : out.length + m ≤ 1000000) (hB : B ≤ w.heap.size)
    (h : ∀ v' w', OwnR w' B v' (out ++ news) → Below B w w' → wpList Tryz.prog ops Q rest (a.put o.dst v') w') : wpList Tryz.prog ops Q (o :: rest) a w := by
  obtain ⟨i0, hi, hz0, hz1, hz2⟩ := info_parts infoFld
  cases xa with
  | none =>
    have hn := hnone rfl
    subst hn
    subst hm
    refine wpList_plain hgd fun K hK => ?_
    have hrun := run_append_none Tryz.prog w B 22 o.type 35 i0 4 Tryz.underlying22 hi v out.length _ hown c
    unfold Oper.wp
    simp only [List.length_nil] at hx
    simp [execOp, ho, resolve, invoke, builtin, hs, hx, hrun, Result.andThen]
    exact hK _ _ (h v w (by simpa using hown) (Below.refl _ _))
  | some ad =>
    refine wpList_append_own _ hgd s x 22 ho B 35 i0 (.agg #[.string ⟨#[]⟩, .string ⟨#[]⟩, .slice none 0 0, .int .i64 0]) 4 64 Tryz.underlying22 hi hz0 hz1 hz2 rfl (by decide) v out.length (flatE fldE out) hs hown ad m c (flatE fldE news) hx (by rw [flatE_len fldE_len, hm]) (hnews ad rfl) (flatE_one fldE_one news) (by unfold maxLen; omega) (by omega) hB ?_
    intro v' w' h1 h2 _
    refine h v' w' ?_ ((Below.refl B w).grown h2 hB (fun k hk => (hown.lt k hk).1))
    show w'.ownsRow B 35 4 v' (out ++ news).length (flatE fldE (out ++ news))
    rw [flatE_append, List.length_append, ← hm]
    exact h1
/-- An own row stays when new blocks come. -/
theorem own_below {w W : World} {B k n : Nat} {T : TypeId} {v : Value} {l : List Value} (h : w.ownsRow B T k v n l) (b : Below w.heap.size w W) : W.ownsRow B T k v n l := by
  refine ⟨h.1, ?_⟩
  rcases h.2 with h0 | ⟨g, cap, cur, e, hb, hh, r⟩
  · exact .inl h0
  · exact .inr ⟨g, cap, cur, e, hb, (b.block g (Array.getElem?_eq_some_iff.1 hh).1).trans hh, r⟩
/-- The cells of a part of a slice. -/
theorem cells_take {w : World} {ad : Addr} {n c : Nat} {l : List Fld} (h : Rows fldE 4 w (.slice (some ad) n c) l) (k : Nat) : ∀ j u, (flatE fldE (l.take k))[j]? = some u → w.cell? (ad.add j) = some u := fun j u hj =>
  h.cells fldE_len (by decide) j u (by
    have e : flatE fldE l = flatE fldE (l.take k) ++ flatE fldE (l.drop k) := by rw [← flatE_append, List.take_append_drop]
    rw [e, List.getElem?_append_left (List.getElem?_eq_some_iff.1 hj).1, hj])
theorem cells_drop {w : World} {ad : Addr} {n c : Nat} {l : List Fld} (h : Rows fldE 4 w (.slice (some ad) n c) l) (k : Nat) (hk : k ≤ l.length) : ∀ j u, (flatE fldE (l.drop k))[j]? = some u → w.cell? (ad.add (k * 4 + j)) = some u := fun j u hj =>
  h.cells fldE_len (by decide) (k * 4 + j) u (by
    have e : flatE fldE l = flatE fldE (l.take k) ++ flatE fldE (l.drop k) := by rw [← flatE_append, List.take_append_drop]
    have h2 : (flatE fldE (l.take k)).length = k * 4 := by rw [flatE_len fldE_len, List.length_take, Nat.min_eq_left hk]
    rw [e, List.getElem?_append_right (by omega), h2, Nat.add_sub_cancel_left, hj])

set_option maxRecDepth 100000 in
set_option maxHeartbeats 2000000 in
theorem rWith (id ver kind : Int) (lang : ByteArray) (ra : Option Addr) (rn rc : Nat) (a : Option Addr) (n c : Nat) (w : World) :
    Calls Tryz.prog 47 #[.agg #[.int .i64 id, .int .i64 ver, .int .i64 kind, .string lang, .slice ra rn rc], .slice a n c] w fun e w' => e = .returned (.agg #[.int .i64 id, .int .i64 ver, .int .i64 kind, .string lang, .slice a n c]) ∧ Below w.heap.size w w' := by
  have hb : Below w.heap.size w ((w.alloc (recO id ver kind lang ra rn rc)).alloc (recO 0 0 0 ⟨#[]⟩ none 0 0)) := (Below.refl _ _).alloc2 (Nat.le_refl _) _ _
  have h0 : ((w.alloc (recO id ver kind lang ra rn rc)).alloc (recO 0 0 0 ⟨#[]⟩ none 0 0)).heap[w.heap.size]? = some (recO id ver kind lang ra rn rc) := (alloc_old (by simp)).trans (alloc_at rfl)
  have h1 : ((w.alloc (recO id ver kind lang ra rn rc)).alloc (recO 0 0 0 ⟨#[]⟩ none 0 0)).heap[w.heap.size + 1]? = some (recO 0 0 0 ⟨#[]⟩ none 0 0) := alloc_at (by simp)
  have d0 := Lib.cell_of_heap h0 0
  have d1 := Lib.cell_of_heap h0 1
  have d2 := Lib.cell_of_heap h0 2
  have d3 := Lib.cell_of_heap h0 3
  have H1 := Lib.hid h1
  have HB := Lib.hid hb
  have q0 := Lib.cell_of_heap h1 0
  have g0 := Lib.frozen_of_heap h1 0
  have q1 := Lib.cell_of_heap h1 1
  have g1 := Lib.frozen_of_heap h1 1
  have q2 := Lib.cell_of_heap h1 2
  have g2 := Lib.frozen_of_heap h1 2
  have q3 := Lib.cell_of_heap h1 3
  have g3 := Lib.frozen_of_heap h1 3
  have q4 := Lib.cell_of_heap h1 4
  have g4 := Lib.frozen_of_heap h1 4
  clear h0 h1 hb
  go_enter Tryz.func47, Tryz.ntmps47
  go_wp2
  (try simp only [Exit.inBlock, Exit.then])
  refine bodyPost_ret (results_r1 rfl _ _ (w.heap.size + 1) id ver kind lang (.slice a n c) rfl (alloc_at (by simp))) rfl ?_
  exact ⟨rfl, (Below.refl _ _).alloc2 (Nat.le_refl _) _ _⟩

set_option maxRecDepth 100000 in
set_option maxHeartbeats 4000000 in
theorem rRemove (x : Rcd) (i : Int) (w : World) (hx : RcdAt w x) (hl : x.r.fields.length ≤ 900) :
    Calls Tryz.prog 24 #[recV5 x, .int .i64 i] w (RetR w (remR x.r i)) := by
  have HFL : Hid (∀ W, Below w.heap.size w W → Flds W (.slice x.sa x.r.fields.length x.sc) x.r.fields) := Lib.hid (fun W h => Flds.below hx h (Nat.le_refl _))
  obtain ⟨P, hP⟩ : ∃ P, P = remR x.r i := ⟨_, rfl⟩
  rw [← hP]
  unfold remR withL at hP
  unfold recV5
  obtain ⟨⟨id, ver, kind, lang, rf⟩, ra, rc⟩ := x
  simp only at HFL hP hl ⊢
  obtain ⟨rn, hrn⟩ : ∃ n, n = rf.length := ⟨_, rfl⟩
  rw [← hrn] at HFL hP hl ⊢
  have HRN := Lib.hid hrn
  clear hx hrn
  have HB0 : Hid (Below w.heap.size w ((w.alloc (recO id ver kind lang ra rn rc)).alloc (recO 0 0 0 ⟨#[]⟩ none 0 0))) := Lib.hid ((Below.refl _ _).alloc2 (Nat.le_refl _) _ _)
  have H0 : Hid (((w.alloc (recO id ver kind lang ra rn rc)).alloc (recO 0 0 0 ⟨#[]⟩ none 0 0)).heap[w.heap.size]? = some (recO id ver kind lang ra rn rc)) := Lib.hid ((alloc_old (by simp)).trans (alloc_at rfl))
  have H1 : Hid (((w.alloc (recO id ver kind lang ra rn rc)).alloc (recO 0 0 0 ⟨#[]⟩ none 0 0)).heap[w.heap.size + 1]? = some (recO 0 0 0 ⟨#[]⟩ none 0 0)) := Lib.hid (alloc_at (by simp))
  by_cases hneg : i < 0 ∨ (rn : Int) ≤ i
  · rw [if_pos hneg] at hP
    have HP := Lib.hid hP
    have d0 := Lib.cell_of_heap H0.out 4
    have q0 := Lib.cell_of_heap H1.out 0
    have g0 := Lib.frozen_of_heap H1.out 0
    have q1 := Lib.cell_of_heap H1.out 1
    have g1 := Lib.frozen_of_heap H1.out 1
    have q2 := Lib.cell_of_heap H1.out 2
    have g2 := Lib.frozen_of_heap H1.out 2
    have q3 := Lib.cell_of_heap H1.out 3
    have g3 := Lib.frozen_of_heap H1.out 3
    have q4 := Lib.cell_of_heap H1.out 4
    have g4 := Lib.frozen_of_heap H1.out 4
    clear hP
    have hcase : (i < 0) ∨ (¬ i < 0 ∧ (rn : Int) ≤ i) := by omega
    rcases hcase with h1 | ⟨h1, h2⟩
    all_goals
      clear hneg
      go_enter Tryz.func24, Tryz.ntmps24
      go_wp2
      (try simp only [Exit.inBlock, Exit.then])
      exact ret_at (r := rec0) (sa := none) (n := 0) (sc := 0) rfl rfl rfl rfl H1.out HB0.out (rcd_zero _) HP.out
  · rw [if_neg hneg] at hP
    obtain ⟨k, rfl⟩ : ∃ k : Nat, i = (k : Int) := ⟨i.toNat, by omega⟩
    have hk : k < rn := by omega
    have hkz : (k : Int) < (rn : Int) := by omega
    have hk1 : ¬ (rn : Int) ≤ (k : Int) := by omega
    rw [Int.toNat_natCast] at hP
    have HP := Lib.hid hP
    clear hP hneg
    obtain ⟨b, o, hra, hrc⟩ : ∃ b o, ra = some ⟨b, o, none⟩ ∧ rn ≤ rc := by
      obtain ⟨⟨a', c', he, hc, h0 | ⟨b, o, ha, -⟩⟩, -⟩ := HFL.out w (Below.refl _ _)
      · have := HRN.out; rw [h0] at this; simp at this; omega
      · cases he
        exact ⟨b, o, ha, by rw [HRN.out]; exact hc⟩
    subst hra
    have d4 := Lib.cell_of_heap H0.out 4
    have hk2 : k ≤ rc := by omega
    have hk3 : (k : Int) + 1 ≤ (rn : Int) := by omega
    have hk4 : (0 : Int) ≤ (k : Int) + 1 := by omega
    have hke : ((k : Int) + 1).toNat = k + 1 := by omega
    have HT : Hid (∀ W, Below w.heap.size w W → ∀ ad, some (⟨b, o, none⟩ : Addr) = some ad → ∀ j u, (flatE fldE (rf.take k))[j]? = some u → W.cell? (ad.add j) = some u) := Lib.hid (fun W h ad e => by cases e; exact cells_take (HFL.out W h).1 k)
    have HD : Hid (∀ W, Below w.heap.size w W → ∀ ad, some (⟨b, o + (k + 1) * 4, none⟩ : Addr) = some ad → ∀ j u, (flatE fldE (rf.drop (k + 1)))[j]? = some u → W.cell? (ad.add j) = some u) := Lib.hid (fun W h ad e j u hj => by
      cases e
      have := cells_drop (HFL.out W h).1 (k + 1) (by have := HRN.out; omega) j u hj
      rw [Addr.add_lit] at this ⊢
      rw [Nat.add_assoc]
      exact this)
    have hBa : Below w.heap.size w (((w.alloc (recO id ver kind lang (some ⟨b, o, none⟩) rn rc)).alloc (recO 0 0 0 ⟨#[]⟩ none 0 0)).alloc (.cells #[] 35)) := HB0.out.alloc (by simp only [World.size_alloc]; omega) _
    have HBA := Lib.hid hBa
    clear hBa
    have hcap : rc = k + 1 ∨ ¬ rc = k + 1 := Decidable.em _
    rcases hcap with hcap | hcap
    · have HRC : Hid (rn = k + 1) := Lib.hid (by omega)
      clear hrc hk2
      subst hcap
      go_enter Tryz.func24, Tryz.ntmps24
      go_wp2_with (at_builtin; refine append_rows rfl _ _ rfl (w.heap.size + 2) (.slice (some ⟨w.heap.size + 2, 0, none⟩) 0 0) [] rfl (OwnR.made _ _ _ (by simp) (Nat.le_refl _)) (some ⟨b, o, none⟩) k _ (rf.take k) rfl (by rw [List.length_take]; have := HRN.out; omega) (by intro e; cases e) (HT.out _ HBA.out) (by simp only [List.length_nil]; omega) (by simp) ?_)
      intro v1 w1 ho1 b1
      have HO1 : Hid (OwnR w1 (w.heap.size + 2) v1 (rf.take k)) := Lib.hid ho1
      have HB1 : Hid (Below w.heap.size w w1) := Lib.hid (HBA.out.trans (b1.mono (by omega)))
      have h0 : w1.heap[w.heap.size]? = some (recO id ver kind lang (some ⟨b, o, none⟩) rn (k + 1)) := (b1.block _ (by omega)).trans ((alloc_old (by simp only [World.size_alloc]; omega)).trans H0.out)
      have h1 : w1.heap[w.heap.size + 1]? = some (recO 0 0 0 ⟨#[]⟩ none 0 0) := (b1.block _ (by omega)).trans ((alloc_old (by simp only [World.size_alloc]; omega)).trans H1.out)
      have hz : w.heap.size + 2 ≤ w1.heap.size := by have := b1.size; simp only [World.size_alloc] at this; omega
      have K0 := Lib.hid h0
      have K1 := Lib.hid h1
      have HZ := Lib.hid hz
      clear ho1 b1 h0 h1 hz d4
      have d4 := Lib.cell_of_heap K0.out 4
      go_wp2_with (at_builtin; refine append_rows rfl _ _ rfl (w.heap.size + 2) v1 (rf.take k) rfl HO1.out (some ⟨b, o, none⟩) _ _ (rf.drop (k + 1)) rfl (by rw [List.length_drop]; have := HRN.out; have := HRC.out; omega) (by intro e; cases e) (fun ad _ j u hj => by (have h9 : rf.drop (k + 1) = [] := List.drop_eq_nil_of_le (by have := HRN.out; have := HRC.out; omega)); rw [h9] at hj; cases hj) (by rw [List.length_take]; omega) HZ.out ?_)
      intro v2 w2 ho2 b2
      rw [← List.eraseIdx_eq_take_drop_succ] at ho2
      have hrows := Rows.of_own fldE_len ho2 rfl
      have hlen : (rf.eraseIdx k).length = rn - 1 := by rw [List.length_eraseIdx_of_lt (by rw [← HRN.out]; exact hk), HRN.out]
      obtain ⟨va, vc, rfl, -⟩ := hrows.shape
      rw [hlen]
      have HO2 : Hid (OwnR w2 (w.heap.size + 2) (.slice va (rf.eraseIdx k).length vc) (rf.eraseIdx k)) := Lib.hid ho2
      have HB2 : Hid (Below w.heap.size w w2) := Lib.hid (HB1.out.trans (b2.mono (by omega)))
      have h0 : w2.heap[w.heap.size]? = some (recO id ver kind lang (some ⟨b, o, none⟩) rn (k + 1)) := (b2.block _ (by omega)).trans K0.out
      have h1 : w2.heap[w.heap.size + 1]? = some (recO 0 0 0 ⟨#[]⟩ none 0 0) := (b2.block _ (by omega)).trans K1.out
      have hz : w.heap.size + 2 ≤ w2.heap.size := by have := b2.size; have := HZ.out; omega
      have K3 := Lib.hid h1
      have HZ2 := Lib.hid hz
      have HLEN := Lib.hid hlen
      have d0 := Lib.cell_of_heap h0 0
      have d1 := Lib.cell_of_heap h0 1
      have d2 := Lib.cell_of_heap h0 2
      have d3 := Lib.cell_of_heap h0 3
      have d5 := Lib.cell_of_heap h0 4
      have hwith := rWith id ver kind lang (some ⟨b, o, none⟩) rn (k + 1) va (rn - 1) vc w2
      have HW := Lib.hid hwith
      clear ho2 b2 hrows hlen h0 h1 hz d4 hwith
      go_wp2_with fail
      refine HW.out.mono ?_
      rintro e w3 ⟨rfl, b3⟩
      have h1 : w3.heap[w.heap.size + 1]? = some (recO 0 0 0 ⟨#[]⟩ none 0 0) := (b3.block _ (by have := HZ2.out; omega)).trans K3.out
      have HB3 : Hid (Below w.heap.size w w3) := Lib.hid (HB2.out.bt b3)
      have HO3 : Hid (OwnR w3 (w.heap.size + 2) (.slice va (rf.eraseIdx k).length vc) (rf.eraseIdx k)) := Lib.hid (own_below HO2.out b3)
      have q0 := Lib.cell_of_heap h1 0
      have g0 := Lib.frozen_of_heap h1 0
      have q1 := Lib.cell_of_heap h1 1
      have g1 := Lib.frozen_of_heap h1 1
      have q2 := Lib.cell_of_heap h1 2
      have g2 := Lib.frozen_of_heap h1 2
      have q3 := Lib.cell_of_heap h1 3
      have g3 := Lib.frozen_of_heap h1 3
      have q4 := Lib.cell_of_heap h1 4
      have g4 := Lib.frozen_of_heap h1 4
      have K4 := Lib.hid h1
      clear h1 b3 d0 d1 d2 d3 d5
      go_wp2
      (try simp only [Exit.inBlock, Exit.then])
      have hgg := putR_heap K4.out rfl id ver kind lang (.slice va (rn - 1) vc)
      have hbf : Below w.heap.size w (putR w3 (w.heap.size + 1) id ver kind lang (.slice va (rn - 1) vc)) := putR_below HB3.out (by omega) _ _ _ _ _
      refine ret_at (W := putR w3 (w.heap.size + 1) id ver kind lang (.slice va (rn - 1) vc)) (r := ⟨id, ver, kind, lang, rf.eraseIdx k⟩) (sa := va) (n := rn - 1) (sc := vc) rfl HLEN.out.symm rfl rfl hgg hbf ?_ HP.out
      refine ⟨?_, fun f hf => (HFL.out _ hbf).2 f (List.mem_of_mem_eraseIdx hf)⟩
      exact Rows.of_own fldE_len (own_keep HO3.out (fun b hb => putR_other _ _ _ _ _ _ (by omega))) rfl
    · go_enter Tryz.func24, Tryz.ntmps24
      go_wp2_with (at_builtin; refine append_rows rfl _ _ rfl (w.heap.size + 2) (.slice (some ⟨w.heap.size + 2, 0, none⟩) 0 0) [] rfl (OwnR.made _ _ _ (by simp) (Nat.le_refl _)) (some ⟨b, o, none⟩) k _ (rf.take k) rfl (by rw [List.length_take]; have := HRN.out; omega) (by intro e; cases e) (HT.out _ HBA.out) (by simp only [List.length_nil]; omega) (by simp) ?_)
      intro v1 w1 ho1 b1
      have HO1 : Hid (OwnR w1 (w.heap.size + 2) v1 (rf.take k)) := Lib.hid ho1
      have HB1 : Hid (Below w.heap.size w w1) := Lib.hid (HBA.out.trans (b1.mono (by omega)))
      have h0 : w1.heap[w.heap.size]? = some (recO id ver kind lang (some ⟨b, o, none⟩) rn rc) := (b1.block _ (by omega)).trans ((alloc_old (by simp only [World.size_alloc]; omega)).trans H0.out)
      have h1 : w1.heap[w.heap.size + 1]? = some (recO 0 0 0 ⟨#[]⟩ none 0 0) := (b1.block _ (by omega)).trans ((alloc_old (by simp only [World.size_alloc]; omega)).trans H1.out)
      have hz : w.heap.size + 2 ≤ w1.heap.size := by have := b1.size; simp only [World.size_alloc] at this; omega
      have K0 := Lib.hid h0
      have K1 := Lib.hid h1
      have HZ := Lib.hid hz
      clear ho1 b1 h0 h1 hz d4
      have d4 := Lib.cell_of_heap K0.out 4
      go_wp2_with (at_builtin; refine append_rows rfl _ _ rfl (w.heap.size + 2) v1 (rf.take k) rfl HO1.out (some ⟨b, o + (k + 1) * 4, none⟩) _ _ (rf.drop (k + 1)) rfl (by rw [List.length_drop]; have := HRN.out; omega) (by intro e; cases e) (HD.out _ HB1.out) (by rw [List.length_take]; omega) HZ.out ?_)
      intro v2 w2 ho2 b2
      rw [← List.eraseIdx_eq_take_drop_succ] at ho2
      have hrows := Rows.of_own fldE_len ho2 rfl
      have hlen : (rf.eraseIdx k).length = rn - 1 := by rw [List.length_eraseIdx_of_lt (by rw [← HRN.out]; exact hk), HRN.out]
      obtain ⟨va, vc, rfl, -⟩ := hrows.shape
      rw [hlen]
      have HO2 : Hid (OwnR w2 (w.heap.size + 2) (.slice va (rf.eraseIdx k).length vc) (rf.eraseIdx k)) := Lib.hid ho2
      have HB2 : Hid (Below w.heap.size w w2) := Lib.hid (HB1.out.trans (b2.mono (by omega)))
      have h0 : w2.heap[w.heap.size]? = some (recO id ver kind lang (some ⟨b, o, none⟩) rn rc) := (b2.block _ (by omega)).trans K0.out
      have h1 : w2.heap[w.heap.size + 1]? = some (recO 0 0 0 ⟨#[]⟩ none 0 0) := (b2.block _ (by omega)).trans K1.out
      have hz : w.heap.size + 2 ≤ w2.heap.size := by have := b2.size; have := HZ.out; omega
      have K3 := Lib.hid h1
      have HZ2 := Lib.hid hz
      have HLEN := Lib.hid hlen
      have d0 := Lib.cell_of_heap h0 0
      have d1 := Lib.cell_of_heap h0 1
      have d2 := Lib.cell_of_heap h0 2
      have d3 := Lib.cell_of_heap h0 3
      have d5 := Lib.cell_of_heap h0 4
      have hwith := rWith id ver kind lang (some ⟨b, o, none⟩) rn rc va (rn - 1) vc w2
      have HW := Lib.hid hwith
      clear ho2 b2 hrows hlen h0 h1 hz d4 hwith
      go_wp2_with fail
      refine HW.out.mono ?_
      rintro e w3 ⟨rfl, b3⟩
      have h1 : w3.heap[w.heap.size + 1]? = some (recO 0 0 0 ⟨#[]⟩ none 0 0) := (b3.block _ (by have := HZ2.out; omega)).trans K3.out
      have HB3 : Hid (Below w.heap.size w w3) := Lib.hid (HB2.out.bt b3)
      have HO3 : Hid (OwnR w3 (w.heap.size + 2) (.slice va (rf.eraseIdx k).length vc) (rf.eraseIdx k)) := Lib.hid (own_below HO2.out b3)
      have q0 := Lib.cell_of_heap h1 0
      have g0 := Lib.frozen_of_heap h1 0
      have q1 := Lib.cell_of_heap h1 1
      have g1 := Lib.frozen_of_heap h1 1
      have q2 := Lib.cell_of_heap h1 2
      have g2 := Lib.frozen_of_heap h1 2
      have q3 := Lib.cell_of_heap h1 3
      have g3 := Lib.frozen_of_heap h1 3
      have q4 := Lib.cell_of_heap h1 4
      have g4 := Lib.frozen_of_heap h1 4
      have K4 := Lib.hid h1
      clear h1 b3 d0 d1 d2 d3 d5
      go_wp2
      (try simp only [Exit.inBlock, Exit.then])
      have hgg := putR_heap K4.out rfl id ver kind lang (.slice va (rn - 1) vc)
      have hbf : Below w.heap.size w (putR w3 (w.heap.size + 1) id ver kind lang (.slice va (rn - 1) vc)) := putR_below HB3.out (by omega) _ _ _ _ _
      refine ret_at (W := putR w3 (w.heap.size + 1) id ver kind lang (.slice va (rn - 1) vc)) (r := ⟨id, ver, kind, lang, rf.eraseIdx k⟩) (sa := va) (n := rn - 1) (sc := vc) rfl HLEN.out.symm rfl rfl hgg hbf ?_ HP.out
      refine ⟨?_, fun f hf => (HFL.out _ hbf).2 f (List.mem_of_mem_eraseIdx hf)⟩
      exact Rows.of_own fldE_len (own_keep HO3.out (fun b hb => putR_other _ _ _ _ _ _ (by omega))) rfl
end Go.Proofs.YtkfjeolpbopcnaaGreatDoor
