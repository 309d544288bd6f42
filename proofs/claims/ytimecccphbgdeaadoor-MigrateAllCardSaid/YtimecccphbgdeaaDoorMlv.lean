/- The walk of the examples (layer 18). -/
import Derived.Test.YtimecccphbgdeaaDoorMla
import Derived.Test.YtimecccphbgdeaaDoorMrv
namespace Go.Proofs.YtimecccphbgdeaaDoor
open Go Go.RowKit

theorem own_laid (w : World) (f : Fld) : OwnF (w.alloc (.cells (flatE fldE [f]).toArray 41)) w.heap.size (.slice (some ⟨w.heap.size, 0, none⟩) 1 1) [f] :=
  ⟨rfl, .inr ⟨w.heap.size, 1, _, rfl, Nat.le_refl _, heap_alloc_new w _, Nat.le_refl _, by decide, rfl, rfl⟩⟩

/-- A subfield's block. -/
def SubAt (w : World) (b : Nat) : Prop := w.heap[b]? = some (.cells #[.int .u8 97, .string ⟨#[120]⟩] 57 (0, 0))
theorem rows_of {w : World} {b : Nat} (h : SubAt w b) : Rows subE 2 w (.slice (some ⟨b, 0, none⟩) 1 1) subX := by
  refine ⟨_, 1, rfl, Nat.le_refl _, .inr ⟨b, 0, rfl, (Array.getElem?_eq_some_iff.1 h).1, fun j p hj i u hi => ?_⟩⟩
  have hj1 : j < 1 := (List.getElem?_eq_some_iff.1 hj).1
  obtain rfl : j = 0 := by omega
  cases hj
  rw [Lib.cell_of_heap h]
  have hi2 : i < 2 := (List.getElem?_eq_some_iff.1 hi).1
  rcases (by omega : i = 0 ∨ i = 1) with rfl | rfl
  · cases hi; rfl
  · cases hi; rfl
def AllSub (w : World) (l : List Fld) : Prop := ∀ f ∈ l, ∃ t i au b, f = fl t i au (some ⟨b, 0, none⟩) ∧ SubAt w b
theorem AllSub.below {w w' : World} {l : List Fld} (h : AllSub w l) (hb : Below w.heap.size w w') : AllSub w' l := fun f hf => by
  obtain ⟨t, i, au, b, e, hs⟩ := h f hf
  exact ⟨t, i, au, b, e, (hb.block b (Array.getElem?_eq_some_iff.1 hs).1).trans hs⟩
theorem AllSub.more {w : World} {l : List Fld} (h : AllSub w l) (t i : List UInt8) (au : Int) {b : Nat} (hs : SubAt w b) : AllSub w (l ++ [fl t i au (some ⟨b, 0, none⟩)]) := fun f hf => by
  rcases List.mem_append.1 hf with hf | hf
  · exact h f hf
  · cases List.mem_singleton.1 hf; exact ⟨t, i, au, b, rfl, hs⟩
theorem AllSub.flds {w : World} {l : List Fld} (h : AllSub w l) : ∀ f ∈ l, FldAt w f := fun f hf => by
  obtain ⟨t, i, au, b, rfl, hs⟩ := h f hf
  exact rows_of hs
theorem own_ne {w : World} {B p : Nat} {v : Value} {l : List Fld} {cs : Array Value} {fz : Nat × Nat} (h : OwnF w B v l) (hp : w.heap[p]? = some (.cells cs 24 fz)) : v.ownBlock ≠ some p := by
  intro e
  rcases h.2 with ⟨rfl, -⟩ | ⟨g, cap, cur, rfl, -, hh, -⟩
  · cases e
  · have : g = p := by simpa [Value.ownBlock] using e
    subst this
    rw [hh] at hp
    cases hp
theorem own_sub {w : World} {B b : Nat} {v : Value} {l : List Fld} (h : OwnF w B v l) (hp : SubAt w b) : v.ownBlock ≠ some b := by
  intro e
  rcases h.2 with ⟨rfl, -⟩ | ⟨g, cap, cur, rfl, -, hh, -⟩
  · cases e
  · have : g = b := by simpa [Value.ownBlock] using e
    subst this
    unfold SubAt at hp
    rw [hh] at hp
    cases hp
theorem AllSub.grown {w w' w'' : World} {B : Nat} {l l' : List Fld} {v : Value} (h : AllSub w l) (hb : Below w.heap.size w w') (hg : w'.grownBy w'' v.ownBlock) (ho : OwnF w' B v l') : AllSub w'' l := fun f hf => by
  obtain ⟨t, i, au, b, e, hs⟩ := h.below hb f hf
  exact ⟨t, i, au, b, e, (hg.block b (Array.getElem?_eq_some_iff.1 hs).1 (fun e => own_sub ho hs e.symm)).trans hs⟩
theorem AllSub.set {w : World} {l : List Fld} {p : Nat} {cs : Array Value} {fz : Nat × Nat} (h : AllSub w l) (hp : w.heap[p]? = some (.cells cs 24 fz)) (j : Nat) (u : Value) : AllSub (w.setCell ⟨p, j, none⟩ u) l := fun f hf => by
  obtain ⟨t, i, au, b, e, hs⟩ := h f hf
  refine ⟨t, i, au, b, e, ?_⟩
  unfold SubAt at hs ⊢
  rw [set_block _ _ _ _ (by
    show p ≠ b
    rintro rfl
    rw [hp] at hs
    cases hs)]
  exact hs
theorem full_more {l : List Fld} (h : isFull l) (s : Option Addr) : isFull (l ++ [fl [53, 48, 48] [32, 32] 0 s]) := by
  obtain ⟨s0, r, rfl, hr⟩ := h
  refine ⟨s0, r ++ [fl [53, 48, 48] [32, 32] 0 s], rfl, fun f hf => ?_⟩
  rcases List.mem_append.1 hf with hf | hf
  · exact hr f hf
  · exact ⟨s, List.mem_singleton.1 hf⟩
def lenAt (w : World) (p : Addr) : Nat := match w.cell? p with | some (.slice _ n _) => n | _ => 0
theorem lenAt_of {w : World} {p : Addr} {a : Option Addr} {n c : Nat} (h : w.cell? p = some (.slice a n c)) : lenAt w p = n := by unfold lenAt; rw [h]
set_option maxRecDepth 100000 in
set_option maxHeartbeats 2000000 in
theorem aFieldB (T I : ByteArray) (au : Int) (w : World) :
    Calls Tryd.prog 26 #[.string T, .string I, .int .i64 au] w fun e w' => ∃ b, e = .returned (.agg #[.string T, .string I, .slice (some ⟨b, 0, none⟩) 1 1, .int .i64 au]) ∧ SubAt w' b ∧ Below w.heap.size w w' := by
  go_enter Tryd.func26, Tryd.ntmps26
  go_wp2
  (try simp only [Exit.inBlock, Exit.then])
  have hb : ∀ i u, (#[.string T, .string I, .slice (some ⟨w.heap.size + 1, 0, none⟩) 1 1, .int .i64 au] : Array Value)[i]? = some u → ((w.alloc (.cells #[.string T, .string I, .slice (some ⟨w.heap.size + 1, 0, none⟩) 1 1, .int .i64 au] 41)).alloc (.cells #[.int .u8 97, .string ⟨#[120]⟩] 57)).cell? ⟨w.heap.size, i, none⟩ = some u := fun i u hu => block_cells (Below.alloc (Below.refl _ _) (Nat.le_refl _) _) i u hu
  have hr := heap_alloc_new (w.alloc (.cells #[.string T, .string I, .slice (some ⟨w.heap.size + 1, 0, none⟩) 1 1, .int .i64 au] 41)) (.cells #[.int .u8 97, .string ⟨#[120]⟩] 57)
  rw [World.size_alloc] at hr
  exact bodyPost_ret (results_fld rfl _ _ w.heap.size T I (.slice (some ⟨w.heap.size + 1, 0, none⟩) 1 1) au rfl (hb 0 _ rfl) (hb 1 _ rfl) (hb 2 _ rfl) (hb 3 _ rfl)) rfl ⟨w.heap.size + 1, rfl, hr, ((Below.refl _ _).alloc (Nat.le_refl _) _).alloc (by simp) _⟩

set_option maxRecDepth 100000 in
set_option maxHeartbeats 8000000 in
theorem alive_any (w : World) (hE : Env w) :
    Calls Tryd.prog 9 #[] w fun e w' => e = .returned (.bool true) ∧ Below w.heap.size w w' := by
  have HBW : Hid (Below w.heap.size w w) := Lib.hid (Below.refl _ _)
  go_enter Tryd.func9, Tryd.ntmps9
  go_wp2_with fail
  refine (aField _ _ _ _).mono ?_
  rintro e w1 ⟨s1, rfl, hr, b⟩
  have bb : Below w.heap.size w w1 := b
  have Rs1 := Lib.hid hr
  replace HBW := Lib.hid (HBW.out.bt bb)
  clear hr b bb
  go_wp2_with fail
  refine (aField _ _ _ _).mono ?_
  rintro e w2 ⟨s2, rfl, hr, b⟩
  have bb : Below w1.heap.size w1 w2 := b
  have Rs2 := Lib.hid hr
  replace Rs1 := Lib.hid (Rs1.out.below bb (Nat.le_refl _))
  replace HBW := Lib.hid (HBW.out.bt bb)
  clear hr b bb
  have hfl := flds_laid w2 [fl t260 [51, 32] 0 s1, fl t440 [32, 52] 5 s2] 41 (by
    intro f hf
    simp only [List.mem_cons, List.not_mem_nil, or_false] at hf
    rcases hf with rfl | rfl
    · exact Rs1.out
    · exact Rs2.out
    )
  have HFL := Lib.hid hfl
  have hsz : w2.heap.size < w2.heap.size + 1 := Nat.lt_succ_self _
  clear hfl
  go_wp2_with fail
  refine (aBook _ _ _ _ _).mono ?_
  rintro e w3 ⟨rfl, b⟩
  have FA : Hid (Flds w3 (.slice (some ⟨w2.heap.size, 0, none⟩) 2 2) [fl t260 [51, 32] 0 s1, fl t440 [32, 52] 5 s2]) := Lib.hid (HFL.out.below b (Nat.le_refl _))
  have bb : Below w2.heap.size w2 w3 := ((Below.alloc (Below.refl _ _) (Nat.le_refl _) _).bt b)
  replace Rs1 := Lib.hid (Rs1.out.below bb (Nat.le_refl _))
  replace Rs2 := Lib.hid (Rs2.out.below bb (Nat.le_refl _))
  replace HBW := Lib.hid (HBW.out.bt bb)
  clear hsz HFL b bb
  have HA0 : Hid ((w3.alloc (.cells #[.int .i64 1, .int .i64 1, .int .i64 1, .string ⟨#[101, 110, 103]⟩, .slice (some ⟨w2.heap.size, 0, none⟩) 2 2] 24)).heap[w3.heap.size]? = some (.cells #[.int .i64 1, .int .i64 1, .int .i64 1, .string ⟨#[101, 110, 103]⟩, .slice (some ⟨w2.heap.size, 0, none⟩) 2 2] 24 (0, 0))) := Lib.hid (heap_alloc_new w3 _)
  go_wp2_with fail
  refine (aField _ _ _ _).mono ?_
  rintro e w4 ⟨s3, rfl, hr, b⟩
  have HA := Lib.hid ((b.block _ (Array.getElem?_eq_some_iff.1 HA0.out).1).trans HA0.out)
  have bb : Below w3.heap.size w3 w4 := ((Below.alloc (Below.refl _ _) (Nat.le_refl _) _).bt b)
  have Rs3 := Lib.hid hr
  replace Rs1 := Lib.hid (Rs1.out.below bb (Nat.le_refl _))
  replace Rs2 := Lib.hid (Rs2.out.below bb (Nat.le_refl _))
  replace FA := Lib.hid (FA.out.below bb (Nat.le_refl _))
  replace HBW := Lib.hid (HBW.out.bt bb)
  clear hr b bb HA0
  go_wp2_with fail
  refine (aField _ _ _ _).mono ?_
  rintro e w5 ⟨s4, rfl, hr, b⟩
  have bb : Below w4.heap.size w4 w5 := b
  have Rs4 := Lib.hid hr
  replace Rs1 := Lib.hid (Rs1.out.below bb (Nat.le_refl _))
  replace Rs2 := Lib.hid (Rs2.out.below bb (Nat.le_refl _))
  replace FA := Lib.hid (FA.out.below bb (Nat.le_refl _))
  replace HA := Lib.hid ((bb.block _ (Array.getElem?_eq_some_iff.1 HA.out).1).trans HA.out)
  replace Rs3 := Lib.hid (Rs3.out.below bb (Nat.le_refl _))
  replace HBW := Lib.hid (HBW.out.bt bb)
  clear hr b bb
  have hfl := flds_laid w5 [fl t264 [51, 49] 0 s3, fl t440 [32, 52] 5 s4] 41 (by
    intro f hf
    simp only [List.mem_cons, List.not_mem_nil, or_false] at hf
    rcases hf with rfl | rfl
    · exact Rs3.out
    · exact Rs4.out
    )
  have HFL := Lib.hid hfl
  have hsz : w5.heap.size < w5.heap.size + 1 := Nat.lt_succ_self _
  clear hfl
  go_wp2_with fail
  refine (aBook _ _ _ _ _).mono ?_
  rintro e w6 ⟨rfl, b⟩
  have FB : Hid (Flds w6 (.slice (some ⟨w5.heap.size, 0, none⟩) 2 2) [fl t264 [51, 49] 0 s3, fl t440 [32, 52] 5 s4]) := Lib.hid (HFL.out.below b (Nat.le_refl _))
  have bb : Below w5.heap.size w5 w6 := ((Below.alloc (Below.refl _ _) (Nat.le_refl _) _).bt b)
  replace Rs1 := Lib.hid (Rs1.out.below bb (Nat.le_refl _))
  replace Rs2 := Lib.hid (Rs2.out.below bb (Nat.le_refl _))
  replace FA := Lib.hid (FA.out.below bb (Nat.le_refl _))
  replace HA := Lib.hid ((bb.block _ (Array.getElem?_eq_some_iff.1 HA.out).1).trans HA.out)
  replace Rs3 := Lib.hid (Rs3.out.below bb (Nat.le_refl _))
  replace Rs4 := Lib.hid (Rs4.out.below bb (Nat.le_refl _))
  replace HBW := Lib.hid (HBW.out.bt bb)
  clear hsz HFL b bb
  have HB0 : Hid ((w6.alloc (.cells #[.int .i64 1, .int .i64 2, .int .i64 1, .string ⟨#[101, 110, 103]⟩, .slice (some ⟨w5.heap.size, 0, none⟩) 2 2] 24)).heap[w6.heap.size]? = some (.cells #[.int .i64 1, .int .i64 2, .int .i64 1, .string ⟨#[101, 110, 103]⟩, .slice (some ⟨w5.heap.size, 0, none⟩) 2 2] 24 (0, 0))) := Lib.hid (heap_alloc_new w6 _)
  go_wp2_with fail
  refine (aField _ _ _ _).mono ?_
  rintro e w7 ⟨s5, rfl, hr, b⟩
  have HB := Lib.hid ((b.block _ (Array.getElem?_eq_some_iff.1 HB0.out).1).trans HB0.out)
  have bb : Below w6.heap.size w6 w7 := ((Below.alloc (Below.refl _ _) (Nat.le_refl _) _).bt b)
  have Rs5 := Lib.hid hr
  replace Rs1 := Lib.hid (Rs1.out.below bb (Nat.le_refl _))
  replace Rs2 := Lib.hid (Rs2.out.below bb (Nat.le_refl _))
  replace FA := Lib.hid (FA.out.below bb (Nat.le_refl _))
  replace HA := Lib.hid ((bb.block _ (Array.getElem?_eq_some_iff.1 HA.out).1).trans HA.out)
  replace Rs3 := Lib.hid (Rs3.out.below bb (Nat.le_refl _))
  replace Rs4 := Lib.hid (Rs4.out.below bb (Nat.le_refl _))
  replace FB := Lib.hid (FB.out.below bb (Nat.le_refl _))
  replace HBW := Lib.hid (HBW.out.bt bb)
  clear hr b bb HB0
  go_wp2_with fail
  refine (aField _ _ _ _).mono ?_
  rintro e w8 ⟨s6, rfl, hr, b⟩
  have bb : Below w7.heap.size w7 w8 := b
  have Rs6 := Lib.hid hr
  replace Rs1 := Lib.hid (Rs1.out.below bb (Nat.le_refl _))
  replace Rs2 := Lib.hid (Rs2.out.below bb (Nat.le_refl _))
  replace FA := Lib.hid (FA.out.below bb (Nat.le_refl _))
  replace HA := Lib.hid ((bb.block _ (Array.getElem?_eq_some_iff.1 HA.out).1).trans HA.out)
  replace Rs3 := Lib.hid (Rs3.out.below bb (Nat.le_refl _))
  replace Rs4 := Lib.hid (Rs4.out.below bb (Nat.le_refl _))
  replace FB := Lib.hid (FB.out.below bb (Nat.le_refl _))
  replace HB := Lib.hid ((bb.block _ (Array.getElem?_eq_some_iff.1 HB.out).1).trans HB.out)
  replace Rs5 := Lib.hid (Rs5.out.below bb (Nat.le_refl _))
  replace HBW := Lib.hid (HBW.out.bt bb)
  clear hr b bb
  go_wp2_with fail
  refine (aField _ _ _ _).mono ?_
  rintro e w9 ⟨s7, rfl, hr, b⟩
  have bb : Below w8.heap.size w8 w9 := b
  have Rs7 := Lib.hid hr
  replace Rs1 := Lib.hid (Rs1.out.below bb (Nat.le_refl _))
  replace Rs2 := Lib.hid (Rs2.out.below bb (Nat.le_refl _))
  replace FA := Lib.hid (FA.out.below bb (Nat.le_refl _))
  replace HA := Lib.hid ((bb.block _ (Array.getElem?_eq_some_iff.1 HA.out).1).trans HA.out)
  replace Rs3 := Lib.hid (Rs3.out.below bb (Nat.le_refl _))
  replace Rs4 := Lib.hid (Rs4.out.below bb (Nat.le_refl _))
  replace FB := Lib.hid (FB.out.below bb (Nat.le_refl _))
  replace HB := Lib.hid ((bb.block _ (Array.getElem?_eq_some_iff.1 HB.out).1).trans HB.out)
  replace Rs5 := Lib.hid (Rs5.out.below bb (Nat.le_refl _))
  replace Rs6 := Lib.hid (Rs6.out.below bb (Nat.le_refl _))
  replace HBW := Lib.hid (HBW.out.bt bb)
  clear hr b bb
  have hfl := flds_laid w9 [fl t264 [51, 49] 0 s5, fl t490 [49, 52] 0 s6, fl t830 [32, 52] 5 s7] 41 (by
    intro f hf
    simp only [List.mem_cons, List.not_mem_nil, or_false] at hf
    rcases hf with rfl | rfl | rfl
    · exact Rs5.out
    · exact Rs6.out
    · exact Rs7.out
    )
  have HFL := Lib.hid hfl
  have hsz : w9.heap.size < w9.heap.size + 1 := Nat.lt_succ_self _
  clear hfl
  go_wp2_with fail
  refine (aBook _ _ _ _ _).mono ?_
  rintro e w10 ⟨rfl, b⟩
  have FC : Hid (Flds w10 (.slice (some ⟨w9.heap.size, 0, none⟩) 3 3) [fl t264 [51, 49] 0 s5, fl t490 [49, 52] 0 s6, fl t830 [32, 52] 5 s7]) := Lib.hid (HFL.out.below b (Nat.le_refl _))
  have bb : Below w9.heap.size w9 w10 := ((Below.alloc (Below.refl _ _) (Nat.le_refl _) _).bt b)
  replace Rs1 := Lib.hid (Rs1.out.below bb (Nat.le_refl _))
  replace Rs2 := Lib.hid (Rs2.out.below bb (Nat.le_refl _))
  replace FA := Lib.hid (FA.out.below bb (Nat.le_refl _))
  replace HA := Lib.hid ((bb.block _ (Array.getElem?_eq_some_iff.1 HA.out).1).trans HA.out)
  replace Rs3 := Lib.hid (Rs3.out.below bb (Nat.le_refl _))
  replace Rs4 := Lib.hid (Rs4.out.below bb (Nat.le_refl _))
  replace FB := Lib.hid (FB.out.below bb (Nat.le_refl _))
  replace HB := Lib.hid ((bb.block _ (Array.getElem?_eq_some_iff.1 HB.out).1).trans HB.out)
  replace Rs5 := Lib.hid (Rs5.out.below bb (Nat.le_refl _))
  replace Rs6 := Lib.hid (Rs6.out.below bb (Nat.le_refl _))
  replace Rs7 := Lib.hid (Rs7.out.below bb (Nat.le_refl _))
  replace HBW := Lib.hid (HBW.out.bt bb)
  clear hsz HFL b bb
  have HC0 : Hid ((w10.alloc (.cells #[.int .i64 1, .int .i64 3, .int .i64 1, .string ⟨#[101, 110, 103]⟩, .slice (some ⟨w9.heap.size, 0, none⟩) 3 3] 24)).heap[w10.heap.size]? = some (.cells #[.int .i64 1, .int .i64 3, .int .i64 1, .string ⟨#[101, 110, 103]⟩, .slice (some ⟨w9.heap.size, 0, none⟩) 3 3] 24 (0, 0))) := Lib.hid (heap_alloc_new w10 _)
  have hh := ((Below.alloc (Below.refl w10.heap.size w10) (Nat.le_refl _) (.cells #[.int .i64 1, .int .i64 3, .int .i64 1, .string ⟨#[101, 110, 103]⟩, .slice (some ⟨w9.heap.size, 0, none⟩) 3 3] 24)).block _ (Array.getElem?_eq_some_iff.1 HA.out).1).trans HA.out
  have q0 := Lib.cell_of_heap hh 0
  have q1 := Lib.cell_of_heap hh 1
  have q2 := Lib.cell_of_heap hh 2
  have q3 := Lib.cell_of_heap hh 3
  have q4 := Lib.cell_of_heap hh 4
  clear hh
  go_wp2_with fail
  refine Calls.mono (callUp (hE.below (HBW.out.bt (Below.alloc (Below.refl w10.heap.size w10) (Nat.le_refl _) (.cells #[.int .i64 1, .int .i64 3, .int .i64 1, .string ⟨#[101, 110, 103]⟩, .slice (some ⟨w9.heap.size, 0, none⟩) 3 3] 24)))) (FA.out.below (Below.alloc (Below.refl w10.heap.size w10) (Nat.le_refl _) (.cells #[.int .i64 1, .int .i64 3, .int .i64 1, .string ⟨#[101, 110, 103]⟩, .slice (some ⟨w9.heap.size, 0, none⟩) 3 3] 24)) (Nat.le_refl _)) (bk_small (by simp) (by intro f hf; simp only [List.mem_cons, List.not_mem_nil, or_false] at hf; rcases hf with rfl | rfl <;> exact ⟨_, _, _, _, rfl⟩)) (ex_up1 _ _)) ?_
  intro e w11 hret
  obtain ⟨aD, nD, cD, rfl, hf, b⟩ := ret_bk hret
  have HC := Lib.hid ((b.block _ (Array.getElem?_eq_some_iff.1 HC0.out).1).trans HC0.out)
  have bb : Below w10.heap.size w10 w11 := ((Below.alloc (Below.refl _ _) (Nat.le_refl _) _).bt b)
  replace Rs1 := Lib.hid (Rs1.out.below bb (Nat.le_refl _))
  replace Rs2 := Lib.hid (Rs2.out.below bb (Nat.le_refl _))
  replace FA := Lib.hid (FA.out.below bb (Nat.le_refl _))
  replace HA := Lib.hid ((bb.block _ (Array.getElem?_eq_some_iff.1 HA.out).1).trans HA.out)
  replace Rs3 := Lib.hid (Rs3.out.below bb (Nat.le_refl _))
  replace Rs4 := Lib.hid (Rs4.out.below bb (Nat.le_refl _))
  replace FB := Lib.hid (FB.out.below bb (Nat.le_refl _))
  replace HB := Lib.hid ((bb.block _ (Array.getElem?_eq_some_iff.1 HB.out).1).trans HB.out)
  replace Rs5 := Lib.hid (Rs5.out.below bb (Nat.le_refl _))
  replace Rs6 := Lib.hid (Rs6.out.below bb (Nat.le_refl _))
  replace Rs7 := Lib.hid (Rs7.out.below bb (Nat.le_refl _))
  replace FC := Lib.hid (FC.out.below bb (Nat.le_refl _))
  replace HBW := Lib.hid (HBW.out.bt bb)
  have FD := Lib.hid hf
  clear hf
  clear b bb hret q0 q1 q2 q3 q4 HC0
  have HD0 : Hid ((w11.alloc (.cells #[.int .i64 1, .int .i64 2, .int .i64 1, .string ⟨#[101, 110, 103]⟩, .slice aD nD cD] 24)).heap[w11.heap.size]? = some (.cells #[.int .i64 1, .int .i64 2, .int .i64 1, .string ⟨#[101, 110, 103]⟩, .slice aD nD cD] 24 (0, 0))) := Lib.hid (heap_alloc_new w11 _)
  go_wp2_with fail
  refine Calls.mono (callUp (hE.below (HBW.out.bt (Below.alloc (Below.refl w11.heap.size w11) (Nat.le_refl _) (.cells #[.int .i64 1, .int .i64 2, .int .i64 1, .string ⟨#[101, 110, 103]⟩, .slice aD nD cD] 24)))) (FD.out.below (Below.alloc (Below.refl w11.heap.size w11) (Nat.le_refl _) (.cells #[.int .i64 1, .int .i64 2, .int .i64 1, .string ⟨#[101, 110, 103]⟩, .slice aD nD cD] 24)) (Nat.le_refl _)) (bk_small (by simp) (by intro f hf; simp only [List.mem_cons, List.not_mem_nil, or_false] at hf; rcases hf with rfl | rfl <;> exact ⟨_, _, _, _, rfl⟩)) (ex_up2 _ _)) ?_
  intro e w12 hret
  obtain ⟨aF, nF, cF, rfl, hf, b⟩ := ret_bk hret
  have HD := Lib.hid ((b.block _ (Array.getElem?_eq_some_iff.1 HD0.out).1).trans HD0.out)
  have bb : Below w11.heap.size w11 w12 := ((Below.alloc (Below.refl _ _) (Nat.le_refl _) _).bt b)
  replace Rs1 := Lib.hid (Rs1.out.below bb (Nat.le_refl _))
  replace Rs2 := Lib.hid (Rs2.out.below bb (Nat.le_refl _))
  replace FA := Lib.hid (FA.out.below bb (Nat.le_refl _))
  replace HA := Lib.hid ((bb.block _ (Array.getElem?_eq_some_iff.1 HA.out).1).trans HA.out)
  replace Rs3 := Lib.hid (Rs3.out.below bb (Nat.le_refl _))
  replace Rs4 := Lib.hid (Rs4.out.below bb (Nat.le_refl _))
  replace FB := Lib.hid (FB.out.below bb (Nat.le_refl _))
  replace HB := Lib.hid ((bb.block _ (Array.getElem?_eq_some_iff.1 HB.out).1).trans HB.out)
  replace Rs5 := Lib.hid (Rs5.out.below bb (Nat.le_refl _))
  replace Rs6 := Lib.hid (Rs6.out.below bb (Nat.le_refl _))
  replace Rs7 := Lib.hid (Rs7.out.below bb (Nat.le_refl _))
  replace FC := Lib.hid (FC.out.below bb (Nat.le_refl _))
  replace HC := Lib.hid ((bb.block _ (Array.getElem?_eq_some_iff.1 HC.out).1).trans HC.out)
  replace FD := Lib.hid (FD.out.below bb (Nat.le_refl _))
  replace HBW := Lib.hid (HBW.out.bt bb)
  have FF := Lib.hid hf
  clear hf
  clear b bb hret HD0
  have HF0 : Hid ((w12.alloc (.cells #[.int .i64 1, .int .i64 3, .int .i64 1, .string ⟨#[101, 110, 103]⟩, .slice aF nF cF] 24)).heap[w12.heap.size]? = some (.cells #[.int .i64 1, .int .i64 3, .int .i64 1, .string ⟨#[101, 110, 103]⟩, .slice aF nF cF] 24 (0, 0))) := Lib.hid (heap_alloc_new w12 _)
  have hh := ((Below.alloc (Below.refl w12.heap.size w12) (Nat.le_refl _) (.cells #[.int .i64 1, .int .i64 3, .int .i64 1, .string ⟨#[101, 110, 103]⟩, .slice aF nF cF] 24)).block _ (Array.getElem?_eq_some_iff.1 HC.out).1).trans HC.out
  have q0 := Lib.cell_of_heap hh 0
  have q1 := Lib.cell_of_heap hh 1
  have q2 := Lib.cell_of_heap hh 2
  have q3 := Lib.cell_of_heap hh 3
  have q4 := Lib.cell_of_heap hh 4
  clear hh
  go_wp2_with fail
  refine Calls.mono (callTo (hE.below (HBW.out.bt (Below.alloc (Below.refl w12.heap.size w12) (Nat.le_refl _) (.cells #[.int .i64 1, .int .i64 3, .int .i64 1, .string ⟨#[101, 110, 103]⟩, .slice aF nF cF] 24)))) (FC.out.below (Below.alloc (Below.refl w12.heap.size w12) (Nat.le_refl _) (.cells #[.int .i64 1, .int .i64 3, .int .i64 1, .string ⟨#[101, 110, 103]⟩, .slice aF nF cF] 24)) (Nat.le_refl _)) (bk_small (by simp) (by intro f hf; simp only [List.mem_cons, List.not_mem_nil, or_false] at hf; rcases hf with rfl | rfl | rfl <;> exact ⟨_, _, _, _, rfl⟩)) (ex_to1 _ _ _)) ?_
  intro e w13 hret
  obtain ⟨aH, nH, cH, rfl, hf, b⟩ := ret_bk hret
  have HF := Lib.hid ((b.block _ (Array.getElem?_eq_some_iff.1 HF0.out).1).trans HF0.out)
  have bb : Below w12.heap.size w12 w13 := ((Below.alloc (Below.refl _ _) (Nat.le_refl _) _).bt b)
  replace Rs1 := Lib.hid (Rs1.out.below bb (Nat.le_refl _))
  replace Rs2 := Lib.hid (Rs2.out.below bb (Nat.le_refl _))
  replace FA := Lib.hid (FA.out.below bb (Nat.le_refl _))
  replace HA := Lib.hid ((bb.block _ (Array.getElem?_eq_some_iff.1 HA.out).1).trans HA.out)
  replace Rs3 := Lib.hid (Rs3.out.below bb (Nat.le_refl _))
  replace Rs4 := Lib.hid (Rs4.out.below bb (Nat.le_refl _))
  replace FB := Lib.hid (FB.out.below bb (Nat.le_refl _))
  replace HB := Lib.hid ((bb.block _ (Array.getElem?_eq_some_iff.1 HB.out).1).trans HB.out)
  replace Rs5 := Lib.hid (Rs5.out.below bb (Nat.le_refl _))
  replace Rs6 := Lib.hid (Rs6.out.below bb (Nat.le_refl _))
  replace Rs7 := Lib.hid (Rs7.out.below bb (Nat.le_refl _))
  replace FC := Lib.hid (FC.out.below bb (Nat.le_refl _))
  replace HC := Lib.hid ((bb.block _ (Array.getElem?_eq_some_iff.1 HC.out).1).trans HC.out)
  replace FD := Lib.hid (FD.out.below bb (Nat.le_refl _))
  replace HD := Lib.hid ((bb.block _ (Array.getElem?_eq_some_iff.1 HD.out).1).trans HD.out)
  replace FF := Lib.hid (FF.out.below bb (Nat.le_refl _))
  replace HBW := Lib.hid (HBW.out.bt bb)
  have FH := Lib.hid hf
  clear hf
  clear b bb hret q0 q1 q2 q3 q4 HF0
  have HH0 : Hid ((w13.alloc (.cells #[.int .i64 1, .int .i64 1, .int .i64 1, .string ⟨#[101, 110, 103]⟩, .slice aH nH cH] 24)).heap[w13.heap.size]? = some (.cells #[.int .i64 1, .int .i64 1, .int .i64 1, .string ⟨#[101, 110, 103]⟩, .slice aH nH cH] 24 (0, 0))) := Lib.hid (heap_alloc_new w13 _)
  go_wp2_with fail
  refine (aField _ _ _ _).mono ?_
  rintro e w14 ⟨s8, rfl, hr, b⟩
  have HH := Lib.hid ((b.block _ (Array.getElem?_eq_some_iff.1 HH0.out).1).trans HH0.out)
  have bb : Below w13.heap.size w13 w14 := ((Below.alloc (Below.refl _ _) (Nat.le_refl _) _).bt b)
  have Rs8 := Lib.hid hr
  replace Rs1 := Lib.hid (Rs1.out.below bb (Nat.le_refl _))
  replace Rs2 := Lib.hid (Rs2.out.below bb (Nat.le_refl _))
  replace FA := Lib.hid (FA.out.below bb (Nat.le_refl _))
  replace HA := Lib.hid ((bb.block _ (Array.getElem?_eq_some_iff.1 HA.out).1).trans HA.out)
  replace Rs3 := Lib.hid (Rs3.out.below bb (Nat.le_refl _))
  replace Rs4 := Lib.hid (Rs4.out.below bb (Nat.le_refl _))
  replace FB := Lib.hid (FB.out.below bb (Nat.le_refl _))
  replace HB := Lib.hid ((bb.block _ (Array.getElem?_eq_some_iff.1 HB.out).1).trans HB.out)
  replace Rs5 := Lib.hid (Rs5.out.below bb (Nat.le_refl _))
  replace Rs6 := Lib.hid (Rs6.out.below bb (Nat.le_refl _))
  replace Rs7 := Lib.hid (Rs7.out.below bb (Nat.le_refl _))
  replace FC := Lib.hid (FC.out.below bb (Nat.le_refl _))
  replace HC := Lib.hid ((bb.block _ (Array.getElem?_eq_some_iff.1 HC.out).1).trans HC.out)
  replace FD := Lib.hid (FD.out.below bb (Nat.le_refl _))
  replace HD := Lib.hid ((bb.block _ (Array.getElem?_eq_some_iff.1 HD.out).1).trans HD.out)
  replace FF := Lib.hid (FF.out.below bb (Nat.le_refl _))
  replace HF := Lib.hid ((bb.block _ (Array.getElem?_eq_some_iff.1 HF.out).1).trans HF.out)
  replace FH := Lib.hid (FH.out.below bb (Nat.le_refl _))
  replace HBW := Lib.hid (HBW.out.bt bb)
  clear hr b bb HH0
  have hfl := flds_laid w14 [fl t830 [32, 52] 5 s8] 41 (by
    intro f hf
    simp only [List.mem_cons, List.not_mem_nil, or_false] at hf
    rcases hf with rfl
    · exact Rs8.out
    )
  have HFL := Lib.hid hfl
  have hsz : w14.heap.size < w14.heap.size + 1 := Nat.lt_succ_self _
  clear hfl
  go_wp2_with fail
  refine (aBook _ _ _ _ _).mono ?_
  rintro e w15 ⟨rfl, b⟩
  have FJ : Hid (Flds w15 (.slice (some ⟨w14.heap.size, 0, none⟩) 1 1) [fl t830 [32, 52] 5 s8]) := Lib.hid (HFL.out.below b (Nat.le_refl _))
  have bb : Below w14.heap.size w14 w15 := ((Below.alloc (Below.refl _ _) (Nat.le_refl _) _).bt b)
  replace Rs1 := Lib.hid (Rs1.out.below bb (Nat.le_refl _))
  replace Rs2 := Lib.hid (Rs2.out.below bb (Nat.le_refl _))
  replace FA := Lib.hid (FA.out.below bb (Nat.le_refl _))
  replace HA := Lib.hid ((bb.block _ (Array.getElem?_eq_some_iff.1 HA.out).1).trans HA.out)
  replace Rs3 := Lib.hid (Rs3.out.below bb (Nat.le_refl _))
  replace Rs4 := Lib.hid (Rs4.out.below bb (Nat.le_refl _))
  replace FB := Lib.hid (FB.out.below bb (Nat.le_refl _))
  replace HB := Lib.hid ((bb.block _ (Array.getElem?_eq_some_iff.1 HB.out).1).trans HB.out)
  replace Rs5 := Lib.hid (Rs5.out.below bb (Nat.le_refl _))
  replace Rs6 := Lib.hid (Rs6.out.below bb (Nat.le_refl _))
  replace Rs7 := Lib.hid (Rs7.out.below bb (Nat.le_refl _))
  replace FC := Lib.hid (FC.out.below bb (Nat.le_refl _))
  replace HC := Lib.hid ((bb.block _ (Array.getElem?_eq_some_iff.1 HC.out).1).trans HC.out)
  replace FD := Lib.hid (FD.out.below bb (Nat.le_refl _))
  replace HD := Lib.hid ((bb.block _ (Array.getElem?_eq_some_iff.1 HD.out).1).trans HD.out)
  replace FF := Lib.hid (FF.out.below bb (Nat.le_refl _))
  replace HF := Lib.hid ((bb.block _ (Array.getElem?_eq_some_iff.1 HF.out).1).trans HF.out)
  replace FH := Lib.hid (FH.out.below bb (Nat.le_refl _))
  replace HH := Lib.hid ((bb.block _ (Array.getElem?_eq_some_iff.1 HH.out).1).trans HH.out)
  replace Rs8 := Lib.hid (Rs8.out.below bb (Nat.le_refl _))
  replace HBW := Lib.hid (HBW.out.bt bb)
  clear hsz HFL b bb
  go_wp2_with fail
  refine Calls.mono (callDown (hE.below HBW.out) FJ.out (bk_small (by simp) (by intro f hf; cases List.mem_singleton.1 hf; exact ⟨_, _, _, _, rfl⟩)) (ex_down _)) ?_
  intro e w16 hret
  obtain ⟨aJ, nJ, cJ, rfl, b⟩ := ret_zero hret
  clear FJ
  have bb : Below w15.heap.size w15 w16 := b
  replace Rs1 := Lib.hid (Rs1.out.below bb (Nat.le_refl _))
  replace Rs2 := Lib.hid (Rs2.out.below bb (Nat.le_refl _))
  replace FA := Lib.hid (FA.out.below bb (Nat.le_refl _))
  replace HA := Lib.hid ((bb.block _ (Array.getElem?_eq_some_iff.1 HA.out).1).trans HA.out)
  replace Rs3 := Lib.hid (Rs3.out.below bb (Nat.le_refl _))
  replace Rs4 := Lib.hid (Rs4.out.below bb (Nat.le_refl _))
  replace FB := Lib.hid (FB.out.below bb (Nat.le_refl _))
  replace HB := Lib.hid ((bb.block _ (Array.getElem?_eq_some_iff.1 HB.out).1).trans HB.out)
  replace Rs5 := Lib.hid (Rs5.out.below bb (Nat.le_refl _))
  replace Rs6 := Lib.hid (Rs6.out.below bb (Nat.le_refl _))
  replace Rs7 := Lib.hid (Rs7.out.below bb (Nat.le_refl _))
  replace FC := Lib.hid (FC.out.below bb (Nat.le_refl _))
  replace HC := Lib.hid ((bb.block _ (Array.getElem?_eq_some_iff.1 HC.out).1).trans HC.out)
  replace FD := Lib.hid (FD.out.below bb (Nat.le_refl _))
  replace HD := Lib.hid ((bb.block _ (Array.getElem?_eq_some_iff.1 HD.out).1).trans HD.out)
  replace FF := Lib.hid (FF.out.below bb (Nat.le_refl _))
  replace HF := Lib.hid ((bb.block _ (Array.getElem?_eq_some_iff.1 HF.out).1).trans HF.out)
  replace FH := Lib.hid (FH.out.below bb (Nat.le_refl _))
  replace HH := Lib.hid ((bb.block _ (Array.getElem?_eq_some_iff.1 HH.out).1).trans HH.out)
  replace Rs8 := Lib.hid (Rs8.out.below bb (Nat.le_refl _))
  replace HBW := Lib.hid (HBW.out.bt bb)
  clear b bb hret
  have hh := ((Below.alloc (Below.refl w16.heap.size w16) (Nat.le_refl _) (.cells #[.int .i64 0, .int .i64 0, .int .i64 0, .string ⟨#[]⟩, .slice aJ nJ cJ] 24)).block _ (Array.getElem?_eq_some_iff.1 HC.out).1).trans HC.out
  have q0 := Lib.cell_of_heap hh 0
  have q1 := Lib.cell_of_heap hh 1
  have q2 := Lib.cell_of_heap hh 2
  have q3 := Lib.cell_of_heap hh 3
  have q4 := Lib.cell_of_heap hh 4
  clear hh
  go_wp2_with fail
  refine Calls.mono (callTo (hE.below (HBW.out.bt (Below.alloc (Below.refl w16.heap.size w16) (Nat.le_refl _) (.cells #[.int .i64 0, .int .i64 0, .int .i64 0, .string ⟨#[]⟩, .slice aJ nJ cJ] 24)))) (FC.out.below (Below.alloc (Below.refl w16.heap.size w16) (Nat.le_refl _) (.cells #[.int .i64 0, .int .i64 0, .int .i64 0, .string ⟨#[]⟩, .slice aJ nJ cJ] 24)) (Nat.le_refl _)) (bk_small (by simp) (by intro f hf; simp only [List.mem_cons, List.not_mem_nil, or_false] at hf; rcases hf with rfl | rfl | rfl <;> exact ⟨_, _, _, _, rfl⟩)) (ex_to4 _)) ?_
  intro e w17 hret
  obtain ⟨aK, nK, cK, rfl, b⟩ := ret_zero hret
  have bb : Below w16.heap.size w16 w17 := ((Below.alloc (Below.refl _ _) (Nat.le_refl _) _).bt b)
  replace Rs1 := Lib.hid (Rs1.out.below bb (Nat.le_refl _))
  replace Rs2 := Lib.hid (Rs2.out.below bb (Nat.le_refl _))
  replace FA := Lib.hid (FA.out.below bb (Nat.le_refl _))
  replace HA := Lib.hid ((bb.block _ (Array.getElem?_eq_some_iff.1 HA.out).1).trans HA.out)
  replace Rs3 := Lib.hid (Rs3.out.below bb (Nat.le_refl _))
  replace Rs4 := Lib.hid (Rs4.out.below bb (Nat.le_refl _))
  replace FB := Lib.hid (FB.out.below bb (Nat.le_refl _))
  replace HB := Lib.hid ((bb.block _ (Array.getElem?_eq_some_iff.1 HB.out).1).trans HB.out)
  replace Rs5 := Lib.hid (Rs5.out.below bb (Nat.le_refl _))
  replace Rs6 := Lib.hid (Rs6.out.below bb (Nat.le_refl _))
  replace Rs7 := Lib.hid (Rs7.out.below bb (Nat.le_refl _))
  replace FC := Lib.hid (FC.out.below bb (Nat.le_refl _))
  replace HC := Lib.hid ((bb.block _ (Array.getElem?_eq_some_iff.1 HC.out).1).trans HC.out)
  replace FD := Lib.hid (FD.out.below bb (Nat.le_refl _))
  replace HD := Lib.hid ((bb.block _ (Array.getElem?_eq_some_iff.1 HD.out).1).trans HD.out)
  replace FF := Lib.hid (FF.out.below bb (Nat.le_refl _))
  replace HF := Lib.hid ((bb.block _ (Array.getElem?_eq_some_iff.1 HF.out).1).trans HF.out)
  replace FH := Lib.hid (FH.out.below bb (Nat.le_refl _))
  replace HH := Lib.hid ((bb.block _ (Array.getElem?_eq_some_iff.1 HH.out).1).trans HH.out)
  replace Rs8 := Lib.hid (Rs8.out.below bb (Nat.le_refl _))
  replace HBW := Lib.hid (HBW.out.bt bb)
  clear b bb hret q0 q1 q2 q3 q4
  go_wp2_with fail
  refine (aFieldB _ _ _ _).mono ?_
  rintro e w18 ⟨b9, rfl, hr, b⟩
  have bb : Below w17.heap.size w17 w18 := ((Below.alloc (Below.refl _ _) (Nat.le_refl _) _).bt b)
  have HS9 := Lib.hid hr
  replace Rs1 := Lib.hid (Rs1.out.below bb (Nat.le_refl _))
  replace Rs2 := Lib.hid (Rs2.out.below bb (Nat.le_refl _))
  replace FA := Lib.hid (FA.out.below bb (Nat.le_refl _))
  replace HA := Lib.hid ((bb.block _ (Array.getElem?_eq_some_iff.1 HA.out).1).trans HA.out)
  replace Rs3 := Lib.hid (Rs3.out.below bb (Nat.le_refl _))
  replace Rs4 := Lib.hid (Rs4.out.below bb (Nat.le_refl _))
  replace FB := Lib.hid (FB.out.below bb (Nat.le_refl _))
  replace HB := Lib.hid ((bb.block _ (Array.getElem?_eq_some_iff.1 HB.out).1).trans HB.out)
  replace Rs5 := Lib.hid (Rs5.out.below bb (Nat.le_refl _))
  replace Rs6 := Lib.hid (Rs6.out.below bb (Nat.le_refl _))
  replace Rs7 := Lib.hid (Rs7.out.below bb (Nat.le_refl _))
  replace FC := Lib.hid (FC.out.below bb (Nat.le_refl _))
  replace HC := Lib.hid ((bb.block _ (Array.getElem?_eq_some_iff.1 HC.out).1).trans HC.out)
  replace FD := Lib.hid (FD.out.below bb (Nat.le_refl _))
  replace HD := Lib.hid ((bb.block _ (Array.getElem?_eq_some_iff.1 HD.out).1).trans HD.out)
  replace FF := Lib.hid (FF.out.below bb (Nat.le_refl _))
  replace HF := Lib.hid ((bb.block _ (Array.getElem?_eq_some_iff.1 HF.out).1).trans HF.out)
  replace FH := Lib.hid (FH.out.below bb (Nat.le_refl _))
  replace HH := Lib.hid ((bb.block _ (Array.getElem?_eq_some_iff.1 HH.out).1).trans HH.out)
  replace Rs8 := Lib.hid (Rs8.out.below bb (Nat.le_refl _))
  replace HBW := Lib.hid (HBW.out.bt bb)
  clear hr b bb
  have hfl := flds_laid w18 [fl t440 [32, 52] 5 (some ⟨b9, 0, none⟩)] 41 (by intro f hf; cases List.mem_singleton.1 hf; exact rows_of HS9.out)
  have HFL := Lib.hid hfl
  have HOW : Hid (OwnF (w18.alloc (.cells (flatE fldE [fl t440 [32, 52] 5 (some ⟨b9, 0, none⟩)]).toArray 41)) w18.heap.size (.slice (some ⟨w18.heap.size, 0, none⟩) 1 1) [fl t440 [32, 52] 5 (some ⟨b9, 0, none⟩)]) := Lib.hid (own_laid w18 _)
  clear hfl
  have FA_0 := FA
  have HA_0 := HA
  have FB_0 := FB
  have HB_0 := HB
  have FC_0 := FC
  have HC_0 := HC
  have FD_0 := FD
  have HD_0 := HD
  have FF_0 := FF
  have HF_0 := HF
  have FH_0 := FH
  have HH_0 := HH
  have HBW_0 := HBW
  go_wp2_with fail
  refine (aBook _ _ _ _ _).mono ?_
  rintro e w19 ⟨rfl, b⟩
  have bb : Below w18.heap.size w18 w19 := ((Below.alloc (Below.refl _ _) (Nat.le_refl _) _).bt b)
  replace HOW := Lib.hid (HOW.out.below b)
  have HBS : Hid (w18.heap.size ≤ w19.heap.size) := Lib.hid bb.size
  have HS9W := Lib.hid ((bb.block _ (Array.getElem?_eq_some_iff.1 HS9.out).1).trans HS9.out)
  have HBB := Lib.hid bb
  replace Rs1 := Lib.hid (Rs1.out.below bb (Nat.le_refl _))
  replace Rs2 := Lib.hid (Rs2.out.below bb (Nat.le_refl _))
  replace FA := Lib.hid (FA.out.below bb (Nat.le_refl _))
  replace HA := Lib.hid ((bb.block _ (Array.getElem?_eq_some_iff.1 HA.out).1).trans HA.out)
  replace Rs3 := Lib.hid (Rs3.out.below bb (Nat.le_refl _))
  replace Rs4 := Lib.hid (Rs4.out.below bb (Nat.le_refl _))
  replace FB := Lib.hid (FB.out.below bb (Nat.le_refl _))
  replace HB := Lib.hid ((bb.block _ (Array.getElem?_eq_some_iff.1 HB.out).1).trans HB.out)
  replace Rs5 := Lib.hid (Rs5.out.below bb (Nat.le_refl _))
  replace Rs6 := Lib.hid (Rs6.out.below bb (Nat.le_refl _))
  replace Rs7 := Lib.hid (Rs7.out.below bb (Nat.le_refl _))
  replace FC := Lib.hid (FC.out.below bb (Nat.le_refl _))
  replace HC := Lib.hid ((bb.block _ (Array.getElem?_eq_some_iff.1 HC.out).1).trans HC.out)
  replace FD := Lib.hid (FD.out.below bb (Nat.le_refl _))
  replace HD := Lib.hid ((bb.block _ (Array.getElem?_eq_some_iff.1 HD.out).1).trans HD.out)
  replace FF := Lib.hid (FF.out.below bb (Nat.le_refl _))
  replace HF := Lib.hid ((bb.block _ (Array.getElem?_eq_some_iff.1 HF.out).1).trans HF.out)
  replace FH := Lib.hid (FH.out.below bb (Nat.le_refl _))
  replace HH := Lib.hid ((bb.block _ (Array.getElem?_eq_some_iff.1 HH.out).1).trans HH.out)
  replace Rs8 := Lib.hid (Rs8.out.below bb (Nat.le_refl _))
  replace HBW := Lib.hid (HBW.out.bt bb)
  clear b bb HFL
  go_wp2
  go_loopw [] (fun wr => ∃ (v : Value) (l : List Fld), isFull l ∧ l.length ≤ 64 ∧ Hid (wr.heap[w19.heap.size]? = some (.cells #[.int .i64 1, .int .i64 2, .int .i64 1, .string ⟨#[101, 110, 103]⟩, v] 24 (0, 0))) ∧ Hid (OwnF wr w18.heap.size v l) ∧ Hid (AllSub wr l) ∧ Hid (Below w18.heap.size w18 wr)) (fun wr => 64 - lenAt wr ⟨w19.heap.size, 4, none⟩)
  case atStart =>
    refine ⟨_, [fl t440 [32, 52] 5 (some ⟨b9, 0, none⟩)], ⟨_, [], rfl, by simp⟩, by simp, Lib.hid (heap_alloc_new w19 _), Lib.hid (HOW.out.below ((Below.refl _ _).alloc (Nat.le_refl _) _)), Lib.hid ?_, Lib.hid ?_⟩
    · intro f hf
      cases List.mem_singleton.1 hf
      exact ⟨_, _, _, b9, rfl, ((Below.alloc (Below.refl w19.heap.size w19) (Nat.le_refl _) _).block _ (Array.getElem?_eq_some_iff.1 HS9W.out).1).trans HS9W.out⟩
    · exact HBB.out.alloc HBB.out.size _
  case round =>
    obtain ⟨v, l, hfull, hl64, HBK, HO, HAS, HBL⟩ := hrel
    obtain ⟨va, vc, rfl⟩ := HO.out.val
    have k0 := Lib.cell_of_heap HBK.out 0
    have k1 := Lib.cell_of_heap HBK.out 1
    have k2 := Lib.cell_of_heap HBK.out 2
    have k3 := Lib.cell_of_heap HBK.out 3
    have k4 := Lib.cell_of_heap HBK.out 4
    have hlen : lenAt wr ⟨w19.heap.size, 4, none⟩ = l.length := lenAt_of k4
    by_cases hlt : l.length < 64
    · have HNE := Lib.hid (own_ne HO.out HBK.out)
      have HFU := Lib.hid hfull
      obtain ⟨m, hm⟩ : ∃ m, m = l.length := ⟨_, rfl⟩
      have HMM := Lib.hid hm
      rw [← hm] at HO HBK k4 hlt hl64 hlen HNE
      have hltz : (m : Int) < 64 := by omega
      clear hm hfull
      go_wp2_with fail
      go_region_law (first
        | (refine step_append_grow rfl (.tmp 65) (.tmp 67) rfl w18.heap.size (.slice va m vc) l ?_ (HO3.out.below ((Below.refl _ _).alloc (Nat.le_refl _) _)) ⟨w33.heap.size, 0, none⟩ 1 1 [fl [53, 48, 48] [32, 32] 0 (some ⟨bn, 0, none⟩)] ?_ rfl (cells_one (four_new w33 _ (fl [53, 48, 48] [32, 32] 0 (some ⟨bn, 0, none⟩)) _ _ rfl rfl 1 rfl)) ?_ ?_ ?_
           rfl
           rfl
           (rw [← HMM.out]; omega)
           exact (HB3.out.alloc HB3.out.size _).size
           intro v4 w34 hown hb4 hg4
           obtain ⟨v4a, v4c, hv4⟩ := OwnF.val hown
           rw [show (l ++ [fl [53, 48, 48] [32, 32] 0 (some ⟨bn, 0, none⟩)]).length = m + 1 from by (rw [List.length_append, ← HMM.out]; rfl)] at hv4
           subst hv4
           have ha33 := Below.alloc (Below.refl w33.heap.size w33) (Nat.le_refl _) (.cells #[.string ⟨#[53, 48, 48]⟩, .string ⟨#[32, 32]⟩, .slice (some ⟨bn, 0, none⟩) 1 1, .int .i64 0] 41)
           have hbk4 := (hg4.block _ (Nat.lt_of_lt_of_le (Array.getElem?_eq_some_iff.1 HK3.out).1 ha33.size) (fun e => HNE.out e.symm)).trans ((ha33.block _ (Array.getElem?_eq_some_iff.1 HK3.out).1).trans HK3.out)
           have HO4 := Lib.hid hown
           have HB4 := Lib.hid ((HB3.out.alloc HB3.out.size _).trans hb4)
           have HS4 := Lib.hid (HS3.out.grown ha33 hg4 (HO3.out.below ha33))
           have HN4 := Lib.hid (own_ne hown hbk4)
           have HK4 := Lib.hid hbk4
           have x4 := Lib.cell_of_heap hbk4 4
           have y4 := Lib.frozen_of_heap hbk4 4
           clear hown hb4 hg4 hbk4 ha33)
        | (go_simp
           go_at_call 26
           refine (aFieldB _ _ _ _).mono ?_
           rintro e w33 ⟨bn, rfl, hr, b3⟩
           have HO3 : Hid (OwnF w33 w18.heap.size (.slice va m vc) l) := Lib.hid (own_below (w := wr.drew) HO.out b3)
           have HB3 : Hid (Below w18.heap.size w18 w33) := Lib.hid (HBL.out.drew.trans (b3.mono HBL.out.size))
           have HK3 := Lib.hid ((b3.block _ (Array.getElem?_eq_some_iff.1 HBK.out).1).trans HBK.out)
           have HS3 : Hid (AllSub w33 (l ++ [fl [53, 48, 48] [32, 32] 0 (some ⟨bn, 0, none⟩)])) := Lib.hid (AllSub.more (AllSub.below (w := wr.drew) HAS.out b3) _ _ _ hr)
           have j4 := Lib.cell_of_heap HK3.out 4
           have j5 := Lib.cell_of_heap (((Below.alloc (Below.refl w33.heap.size w33) (Nat.le_refl _) (.cells #[.string ⟨#[53, 48, 48]⟩, .string ⟨#[32, 32]⟩, .slice (some ⟨bn, 0, none⟩) 1 1, .int .i64 0] 41)).block _ (Array.getElem?_eq_some_iff.1 HK3.out).1).trans HK3.out) 4
           clear hr b3))
      all_goals go_wp2
      all_goals have hk5 := heap_setCell_same w34 w19.heap.size 4 _ _ (.slice v4a (m + 1) v4c) HK4.out
      all_goals have hlen5 : lenAt (w34.setCell ⟨w19.heap.size, 4, none⟩ (.slice v4a (m + 1) v4c)) ⟨w19.heap.size, 4, none⟩ = m + 1 := lenAt_of (by rw [Lib.cell_of_heap hk5 4]; rfl)
      all_goals go_roundw
      all_goals first
        | exact ⟨.slice v4a (m + 1) v4c, l ++ [fl [53, 48, 48] [32, 32] 0 (some ⟨bn, 0, none⟩)], full_more HFU.out _, by rw [List.length_append, ← HMM.out]; simp only [List.length_cons, List.length_nil]; omega, Lib.hid hk5, Lib.hid (HO4.out.same (fun g hg => set_block _ _ _ _ (fun e => HN4.out (by rw [hg, ← e])))), Lib.hid (HS4.out.set HK4.out 4 _), Lib.hid (HB4.out.setCell (p := ⟨w19.heap.size, 4, none⟩) HBS.out _)⟩
        | (rw [hlen5, hlen]; omega)
    · have hltz : ¬ ((l.length : Nat) : Int) < 64 := by omega
      have hl64e : l.length = 64 := by omega
      have hflds : Flds wr (.slice va l.length vc) l := HO.out.flds (Nat.le_refl _) (fun _ _ _ => rfl) HAS.out.flds
      rw [hl64e] at hflds k4 hltz
      have HFW := Lib.hid hflds
      have HFU := Lib.hid hfull
      have HL6 := Lib.hid hl64e
      have FA := Lib.hid (FA_0.out.below HBL.out (Nat.le_refl _))
      have HA := Lib.hid ((HBL.out.block _ (Array.getElem?_eq_some_iff.1 HA_0.out).1).trans HA_0.out)
      have FB := Lib.hid (FB_0.out.below HBL.out (Nat.le_refl _))
      have HB := Lib.hid ((HBL.out.block _ (Array.getElem?_eq_some_iff.1 HB_0.out).1).trans HB_0.out)
      have FC := Lib.hid (FC_0.out.below HBL.out (Nat.le_refl _))
      have HC := Lib.hid ((HBL.out.block _ (Array.getElem?_eq_some_iff.1 HC_0.out).1).trans HC_0.out)
      have FD := Lib.hid (FD_0.out.below HBL.out (Nat.le_refl _))
      have HD := Lib.hid ((HBL.out.block _ (Array.getElem?_eq_some_iff.1 HD_0.out).1).trans HD_0.out)
      have FF := Lib.hid (FF_0.out.below HBL.out (Nat.le_refl _))
      have HF := Lib.hid ((HBL.out.block _ (Array.getElem?_eq_some_iff.1 HF_0.out).1).trans HF_0.out)
      have FH := Lib.hid (FH_0.out.below HBL.out (Nat.le_refl _))
      have HH := Lib.hid ((HBL.out.block _ (Array.getElem?_eq_some_iff.1 HH_0.out).1).trans HH_0.out)
      have HBW := Lib.hid (HBW_0.out.bt HBL.out)
      clear hflds hfull hlen hlt hl64 HAS HO hl64e FA_0 HA_0 FB_0 HB_0 FC_0 HC_0 FD_0 HD_0 FF_0 HF_0 FH_0 HH_0
      go_wp2_with fail
      refine Calls.mono (callUp (hE.below HBW.out) HFW.out (full_small HFU.out (by have := HL6.out; omega)) (ex_full HFU.out HL6.out)) ?_
      intro e w41 hret
      obtain ⟨aL, nL, cL, rfl, b⟩ := ret_zero hret
      replace FA := Lib.hid (FA.out.below b (Nat.le_refl _))
      replace HA := Lib.hid ((b.block _ (Array.getElem?_eq_some_iff.1 HA.out).1).trans HA.out)
      replace FB := Lib.hid (FB.out.below b (Nat.le_refl _))
      replace HB := Lib.hid ((b.block _ (Array.getElem?_eq_some_iff.1 HB.out).1).trans HB.out)
      replace FC := Lib.hid (FC.out.below b (Nat.le_refl _))
      replace HC := Lib.hid ((b.block _ (Array.getElem?_eq_some_iff.1 HC.out).1).trans HC.out)
      replace FD := Lib.hid (FD.out.below b (Nat.le_refl _))
      replace HD := Lib.hid ((b.block _ (Array.getElem?_eq_some_iff.1 HD.out).1).trans HD.out)
      replace FF := Lib.hid (FF.out.below b (Nat.le_refl _))
      replace HF := Lib.hid ((b.block _ (Array.getElem?_eq_some_iff.1 HF.out).1).trans HF.out)
      replace FH := Lib.hid (FH.out.below b (Nat.le_refl _))
      replace HH := Lib.hid ((b.block _ (Array.getElem?_eq_some_iff.1 HH.out).1).trans HH.out)
      replace HBW := Lib.hid (HBW.out.bt b)
      clear b hret
      have ha := Below.alloc (Below.refl w41.heap.size w41) (Nat.le_refl _) (.cells #[.int .i64 0, .int .i64 0, .int .i64 0, .string ⟨#[]⟩, .slice aL nL cL] 24)
      replace FA := Lib.hid (FA.out.below ha (Nat.le_refl _))
      replace HA := Lib.hid ((ha.block _ (Array.getElem?_eq_some_iff.1 HA.out).1).trans HA.out)
      replace FB := Lib.hid (FB.out.below ha (Nat.le_refl _))
      replace HB := Lib.hid ((ha.block _ (Array.getElem?_eq_some_iff.1 HB.out).1).trans HB.out)
      replace FC := Lib.hid (FC.out.below ha (Nat.le_refl _))
      replace HC := Lib.hid ((ha.block _ (Array.getElem?_eq_some_iff.1 HC.out).1).trans HC.out)
      replace FD := Lib.hid (FD.out.below ha (Nat.le_refl _))
      replace HD := Lib.hid ((ha.block _ (Array.getElem?_eq_some_iff.1 HD.out).1).trans HD.out)
      replace FF := Lib.hid (FF.out.below ha (Nat.le_refl _))
      replace HF := Lib.hid ((ha.block _ (Array.getElem?_eq_some_iff.1 HF.out).1).trans HF.out)
      replace FH := Lib.hid (FH.out.below ha (Nat.le_refl _))
      replace HH := Lib.hid ((ha.block _ (Array.getElem?_eq_some_iff.1 HH.out).1).trans HH.out)
      replace HBW := Lib.hid (HBW.out.bt ha)
      clear ha
      go_wp2_with fail
      refine (latest_ret _).mono ?_
      rintro e w42 ⟨rfl, d⟩
      have b := d.below (w41.alloc (.cells #[.int .i64 0, .int .i64 0, .int .i64 0, .string ⟨#[]⟩, .slice aL nL cL] 24)).heap.size
      replace FA := Lib.hid (FA.out.below b (Nat.le_refl _))
      replace HA := Lib.hid ((b.block _ (Array.getElem?_eq_some_iff.1 HA.out).1).trans HA.out)
      replace FB := Lib.hid (FB.out.below b (Nat.le_refl _))
      replace HB := Lib.hid ((b.block _ (Array.getElem?_eq_some_iff.1 HB.out).1).trans HB.out)
      replace FC := Lib.hid (FC.out.below b (Nat.le_refl _))
      replace HC := Lib.hid ((b.block _ (Array.getElem?_eq_some_iff.1 HC.out).1).trans HC.out)
      replace FD := Lib.hid (FD.out.below b (Nat.le_refl _))
      replace HD := Lib.hid ((b.block _ (Array.getElem?_eq_some_iff.1 HD.out).1).trans HD.out)
      replace FF := Lib.hid (FF.out.below b (Nat.le_refl _))
      replace HF := Lib.hid ((b.block _ (Array.getElem?_eq_some_iff.1 HF.out).1).trans HF.out)
      replace FH := Lib.hid (FH.out.below b (Nat.le_refl _))
      replace HH := Lib.hid ((b.block _ (Array.getElem?_eq_some_iff.1 HH.out).1).trans HH.out)
      replace HBW := Lib.hid (HBW.out.bt b)
      clear d b
      have hh := HD.out
      have q0 := Lib.cell_of_heap hh 0
      have q1 := Lib.cell_of_heap hh 1
      have q2 := Lib.cell_of_heap hh 2
      have q3 := Lib.cell_of_heap hh 3
      have q4 := Lib.cell_of_heap hh 4
      clear hh
      have hh := HB.out
      have r0 := Lib.cell_of_heap hh 0
      have r1 := Lib.cell_of_heap hh 1
      have r2 := Lib.cell_of_heap hh 2
      have r3 := Lib.cell_of_heap hh 3
      have r4 := Lib.cell_of_heap hh 4
      clear hh
      go_wp2_with fail
      refine Calls.mono (callSame FD.out FB.out (bk_small (by simp) (by intro f hf; simp only [List.mem_cons, List.not_mem_nil, or_false] at hf; rcases hf with rfl | rfl <;> exact ⟨_, _, _, _, rfl⟩)) (bk_small (by simp) (by intro f hf; simp only [List.mem_cons, List.not_mem_nil, or_false] at hf; rcases hf with rfl | rfl <;> exact ⟨_, _, _, _, rfl⟩)) rfl) ?_
      rintro e w43 ⟨rfl, b⟩
      replace FA := Lib.hid (FA.out.below b (Nat.le_refl _))
      replace HA := Lib.hid ((b.block _ (Array.getElem?_eq_some_iff.1 HA.out).1).trans HA.out)
      replace FB := Lib.hid (FB.out.below b (Nat.le_refl _))
      replace HB := Lib.hid ((b.block _ (Array.getElem?_eq_some_iff.1 HB.out).1).trans HB.out)
      replace FC := Lib.hid (FC.out.below b (Nat.le_refl _))
      replace HC := Lib.hid ((b.block _ (Array.getElem?_eq_some_iff.1 HC.out).1).trans HC.out)
      replace FD := Lib.hid (FD.out.below b (Nat.le_refl _))
      replace HD := Lib.hid ((b.block _ (Array.getElem?_eq_some_iff.1 HD.out).1).trans HD.out)
      replace FF := Lib.hid (FF.out.below b (Nat.le_refl _))
      replace HF := Lib.hid ((b.block _ (Array.getElem?_eq_some_iff.1 HF.out).1).trans HF.out)
      replace FH := Lib.hid (FH.out.below b (Nat.le_refl _))
      replace HH := Lib.hid ((b.block _ (Array.getElem?_eq_some_iff.1 HH.out).1).trans HH.out)
      replace HBW := Lib.hid (HBW.out.bt b)
      clear b q0 q1 q2 q3 q4 r0 r1 r2 r3 r4
      have hh := HF.out
      have q0 := Lib.cell_of_heap hh 0
      have q1 := Lib.cell_of_heap hh 1
      have q2 := Lib.cell_of_heap hh 2
      have q3 := Lib.cell_of_heap hh 3
      have q4 := Lib.cell_of_heap hh 4
      clear hh
      have hh := HC.out
      have r0 := Lib.cell_of_heap hh 0
      have r1 := Lib.cell_of_heap hh 1
      have r2 := Lib.cell_of_heap hh 2
      have r3 := Lib.cell_of_heap hh 3
      have r4 := Lib.cell_of_heap hh 4
      clear hh
      go_wp2_with fail
      refine Calls.mono (callSame FF.out FC.out (bk_small (by simp) (by intro f hf; simp only [List.mem_cons, List.not_mem_nil, or_false] at hf; rcases hf with rfl | rfl | rfl <;> exact ⟨_, _, _, _, rfl⟩)) (bk_small (by simp) (by intro f hf; simp only [List.mem_cons, List.not_mem_nil, or_false] at hf; rcases hf with rfl | rfl | rfl <;> exact ⟨_, _, _, _, rfl⟩)) rfl) ?_
      rintro e w44 ⟨rfl, b⟩
      replace FA := Lib.hid (FA.out.below b (Nat.le_refl _))
      replace HA := Lib.hid ((b.block _ (Array.getElem?_eq_some_iff.1 HA.out).1).trans HA.out)
      replace FB := Lib.hid (FB.out.below b (Nat.le_refl _))
      replace HB := Lib.hid ((b.block _ (Array.getElem?_eq_some_iff.1 HB.out).1).trans HB.out)
      replace FC := Lib.hid (FC.out.below b (Nat.le_refl _))
      replace HC := Lib.hid ((b.block _ (Array.getElem?_eq_some_iff.1 HC.out).1).trans HC.out)
      replace FD := Lib.hid (FD.out.below b (Nat.le_refl _))
      replace HD := Lib.hid ((b.block _ (Array.getElem?_eq_some_iff.1 HD.out).1).trans HD.out)
      replace FF := Lib.hid (FF.out.below b (Nat.le_refl _))
      replace HF := Lib.hid ((b.block _ (Array.getElem?_eq_some_iff.1 HF.out).1).trans HF.out)
      replace FH := Lib.hid (FH.out.below b (Nat.le_refl _))
      replace HH := Lib.hid ((b.block _ (Array.getElem?_eq_some_iff.1 HH.out).1).trans HH.out)
      replace HBW := Lib.hid (HBW.out.bt b)
      clear b q0 q1 q2 q3 q4 r0 r1 r2 r3 r4
      have hh := HH.out
      have q0 := Lib.cell_of_heap hh 0
      have q1 := Lib.cell_of_heap hh 1
      have q2 := Lib.cell_of_heap hh 2
      have q3 := Lib.cell_of_heap hh 3
      have q4 := Lib.cell_of_heap hh 4
      clear hh
      have hh := HA.out
      have r0 := Lib.cell_of_heap hh 0
      have r1 := Lib.cell_of_heap hh 1
      have r2 := Lib.cell_of_heap hh 2
      have r3 := Lib.cell_of_heap hh 3
      have r4 := Lib.cell_of_heap hh 4
      clear hh
      go_wp2_with fail
      refine Calls.mono (callSame FH.out FA.out (bk_small (by simp) (by intro f hf; simp only [List.mem_cons, List.not_mem_nil, or_false] at hf; rcases hf with rfl | rfl <;> exact ⟨_, _, _, _, rfl⟩)) (bk_small (by simp) (by intro f hf; simp only [List.mem_cons, List.not_mem_nil, or_false] at hf; rcases hf with rfl | rfl <;> exact ⟨_, _, _, _, rfl⟩)) rfl) ?_
      rintro e w45 ⟨rfl, b⟩
      replace FA := Lib.hid (FA.out.below b (Nat.le_refl _))
      replace HA := Lib.hid ((b.block _ (Array.getElem?_eq_some_iff.1 HA.out).1).trans HA.out)
      replace FB := Lib.hid (FB.out.below b (Nat.le_refl _))
      replace HB := Lib.hid ((b.block _ (Array.getElem?_eq_some_iff.1 HB.out).1).trans HB.out)
      replace FC := Lib.hid (FC.out.below b (Nat.le_refl _))
      replace HC := Lib.hid ((b.block _ (Array.getElem?_eq_some_iff.1 HC.out).1).trans HC.out)
      replace FD := Lib.hid (FD.out.below b (Nat.le_refl _))
      replace HD := Lib.hid ((b.block _ (Array.getElem?_eq_some_iff.1 HD.out).1).trans HD.out)
      replace FF := Lib.hid (FF.out.below b (Nat.le_refl _))
      replace HF := Lib.hid ((b.block _ (Array.getElem?_eq_some_iff.1 HF.out).1).trans HF.out)
      replace FH := Lib.hid (FH.out.below b (Nat.le_refl _))
      replace HH := Lib.hid ((b.block _ (Array.getElem?_eq_some_iff.1 HH.out).1).trans HH.out)
      replace HBW := Lib.hid (HBW.out.bt b)
      clear b q0 q1 q2 q3 q4 r0 r1 r2 r3 r4
      go_wp2
      go_ret
      exact ⟨rfl, HBW.out⟩
end Go.Proofs.YtimecccphbgdeaaDoor
