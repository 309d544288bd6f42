/- The small functions of the examples: field, book; slices of fields that a call lays (layer 18). -/
import Derived.Test.YtimecccphbgdeaaDoorMto
import Derived.Test.YtimecccphbgdeaaDoorMse
namespace Go.Proofs.YtimecccphbgdeaaDoor
open Go Go.RowKit

def subX : List (Nat × ByteArray) := [(97, ⟨#[120]⟩)]
theorem rows_one (w : World) (T : TypeId) : Rows subE 2 (w.alloc (.cells #[.int .u8 97, .string ⟨#[120]⟩] T)) (.slice (some ⟨w.heap.size, 0, none⟩) 1 1) subX := by
  refine ⟨_, 1, rfl, Nat.le_refl _, .inr ⟨w.heap.size, 0, rfl, by rw [World.size_alloc]; exact Nat.lt_succ_self _, fun j p hj i u hi => ?_⟩⟩
  have hj1 : j < 1 := (List.getElem?_eq_some_iff.1 hj).1
  obtain rfl : j = 0 := by omega
  cases hj
  rw [Lib.cell_of_heap (heap_alloc_new w _)]
  have hi2 : i < 2 := (List.getElem?_eq_some_iff.1 hi).1
  rcases (by omega : i = 0 ∨ i = 1) with rfl | rfl
  · cases hi; rfl
  · cases hi; rfl
set_option maxRecDepth 100000 in
set_option maxHeartbeats 2000000 in
theorem aField (T I : ByteArray) (au : Int) (w : World) :
    Calls Tryd.prog 26 #[.string T, .string I, .int .i64 au] w fun e w' => ∃ sa, e = .returned (.agg #[.string T, .string I, .slice sa 1 1, .int .i64 au]) ∧ Rows subE 2 w' (.slice sa 1 1) subX ∧ Below w.heap.size w w' := by
  go_enter Tryd.func26, Tryd.ntmps26
  go_wp2
  (try simp only [Exit.inBlock, Exit.then])
  have hb : ∀ i u, (#[.string T, .string I, .slice (some ⟨w.heap.size + 1, 0, none⟩) 1 1, .int .i64 au] : Array Value)[i]? = some u → ((w.alloc (.cells #[.string T, .string I, .slice (some ⟨w.heap.size + 1, 0, none⟩) 1 1, .int .i64 au] 41)).alloc (.cells #[.int .u8 97, .string ⟨#[120]⟩] 57)).cell? ⟨w.heap.size, i, none⟩ = some u := fun i u hu => block_cells (Below.alloc (Below.refl _ _) (Nat.le_refl _) _) i u hu
  have hr := rows_one (w.alloc (.cells #[.string T, .string I, .slice (some ⟨w.heap.size + 1, 0, none⟩) 1 1, .int .i64 au] 41)) 57
  rw [World.size_alloc] at hr
  exact bodyPost_ret (results_fld rfl _ _ w.heap.size T I (.slice (some ⟨w.heap.size + 1, 0, none⟩) 1 1) au rfl (hb 0 _ rfl) (hb 1 _ rfl) (hb 2 _ rfl) (hb 3 _ rfl)) rfl ⟨_, rfl, hr, ((Below.refl _ _).alloc (Nat.le_refl _) _).alloc (by simp) _⟩
theorem results_rec1 {fn : Func} {t : Tmp} (h : fn.results = #[.cell t 24]) (tmps : Array Value) (w : World) (g : Nat) (id ver kind : Int) (lang : ByteArray) (s : Value) (ht : tmps.getD t undef = .pointer (some ⟨g, 0, none⟩)) (h5 : Five w g id ver kind lang s) :
    (results fn tmps).run Tryd.prog w = .ok (.agg #[.int .i64 id, .int .i64 ver, .int .i64 kind, .string lang, s]) w := by
  obtain ⟨q0, q1, q2, q3, q4⟩ := h5
  unfold results
  rw [h]
  simp only [List.mapM_toArray, List.mapM_cons, List.mapM_nil]
  rw [ht]
  go_simp
set_option maxRecDepth 100000 in
set_option maxHeartbeats 2000000 in
theorem aBook (v : Int) (a : Option Addr) (n c : Nat) (w : World) :
    Calls Tryd.prog 25 #[.int .i64 v, .slice a n c] w fun e w' => e = .returned (.agg #[.int .i64 1, .int .i64 v, .int .i64 1, .string ⟨#[101, 110, 103]⟩, .slice a n c]) ∧ Below w.heap.size w w' := by
  go_enter Tryd.func25, Tryd.ntmps25
  go_wp2
  (try simp only [Exit.inBlock, Exit.then])
  refine bodyPost_ret (results_rec1 rfl _ _ w.heap.size 1 v 1 ⟨#[101, 110, 103]⟩ (.slice a n c) rfl ⟨?_, ?_, ?_, ?_, ?_⟩) rfl ⟨rfl, (Below.refl _ _).alloc (Nat.le_refl _) _⟩
  all_goals
    rw [Lib.cell_of_heap (heap_alloc_new w _)]
    rfl
theorem flds_laid (w : World) (l : List Fld) (T : TypeId) (h : ∀ f ∈ l, FldAt w f) : Flds (w.alloc (.cells (flatE fldE l).toArray T)) (.slice (some ⟨w.heap.size, 0, none⟩) l.length l.length) l := by
  refine ⟨⟨_, _, rfl, Nat.le_refl _, .inr ⟨w.heap.size, 0, rfl, by rw [World.size_alloc]; exact Nat.lt_succ_self _, fun j p hj i u hi => ?_⟩⟩, fun f hf => (h f hf).below ((Below.refl _ _).alloc (Nat.le_refl _) _) (Nat.le_refl _)⟩
  have hi4 : i < 4 := by have := (List.getElem?_eq_some_iff.1 hi).1; rwa [fldE_len] at this
  rw [Nat.zero_add, Lib.cell_of_heap (heap_alloc_new w _), List.getElem?_toArray, flatE_at fldE_len l j p hj i hi4]
  exact hi
/-- A record in a block of its own. -/
def RecAt (w : World) (p : Nat) (r : Rec) : Prop := ∃ a n c, w.heap[p]? = some (.cells #[.int .i64 r.id, .int .i64 r.ver, .int .i64 r.kind, .string r.lang, .slice a n c] 24 (0, 0)) ∧ Flds w (.slice a n c) r.fields
theorem RecAt.below {w w' : World} {p : Nat} {r : Rec} (h : RecAt w p r) (hb : Below w.heap.size w w') : RecAt w' p r := by
  obtain ⟨a, n, c, h1, h2⟩ := h
  exact ⟨a, n, c, (hb.block p (Array.getElem?_eq_some_iff.1 h1).1).trans h1, h2.below hb (Nat.le_refl _)⟩
theorem recAt_new {w : World} {v : Value} {r : Rec} (h : RecV w v r) : ∃ a n c, v = .agg #[.int .i64 r.id, .int .i64 r.ver, .int .i64 r.kind, .string r.lang, .slice a n c] ∧ Flds w (.slice a n c) r.fields ∧ RecAt (w.alloc (.cells #[.int .i64 r.id, .int .i64 r.ver, .int .i64 r.kind, .string r.lang, .slice a n c] 24)) w.heap.size r := by
  obtain ⟨a, n, c, hv, hf⟩ := h
  exact ⟨a, n, c, hv, hf, a, n, c, heap_alloc_new w _, hf.below ((Below.refl _ _).alloc (Nat.le_refl _) _) (Nat.le_refl _)⟩
/-- The examples' fields and records; sa: where their subfields lie. -/
def fl (t i : List UInt8) (au : Int) (sa : Option Addr) : Fld := ⟨t, i, subX, au, sa, 1⟩
def engB : ByteArray := ⟨#[101, 110, 103]⟩
def bk (v : Int) (l : List Fld) : Rec := ⟨1, v, 1, engB, l⟩
theorem ex_up1 (s1 s2 : Option Addr) : upP (bk 1 [fl t260 [51, 32] 0 s1, fl t440 [32, 52] 5 s2]) = (bk 2 [fl t264 [51, 49] 0 s1, fl t440 [32, 52] 5 s2], 0) := by kernel_rfl
theorem ex_up2 (s1 s2 : Option Addr) : upP (bk 2 [fl t264 [51, 49] 0 s1, fl t440 [32, 52] 5 s2]) = (bk 3 [fl t264 [51, 49] 0 s1, fl t490 [49, 52] 0 s2, fl t830 [32, 52] 5 s2], 0) := by kernel_rfl
theorem ex_to1 (s1 s2 s3 : Option Addr) : toP (bk 3 [fl t264 [51, 49] 0 s1, fl t490 [49, 52] 0 s2, fl t830 [32, 52] 5 s3]) 1 = (bk 1 [fl t260 [51, 32] 0 s1, fl t440 [32, 52] 5 s3], 0) := by kernel_rfl
theorem ex_down (s1 : Option Addr) : downP (bk 3 [fl t830 [32, 52] 5 s1]) = (rec0, 12) := by kernel_rfl
theorem ex_to4 (r : Rec) : toP r 4 = (rec0, 20) := by unfold toP; rw [if_pos (.inr (by decide))]
theorem fl_small (t i : List UInt8) (au : Int) (sa : Option Addr) : (fl t i au sa).small := by
  refine ⟨by show 1 ≤ 1000000; omega, fun s hs => ?_, fun s hs => ?_⟩
  · cases List.mem_singleton.1 hs; decide
  · cases List.mem_singleton.1 hs; decide
def recC (ver : Int) (a : Option Addr) (n c : Nat) : Obj := .cells #[.int .i64 1, .int .i64 ver, .int .i64 1, .string ⟨#[101, 110, 103]⟩, .slice a n c] 24 (0, 0)
theorem ret_bk {w w' : World} {ver x : Int} {l : List Fld} {e : Ending} (h : RetRec w (bk ver l, x) e w') : ∃ a n c, e = .returned (.tuple #[.agg #[.int .i64 1, .int .i64 ver, .int .i64 1, .string ⟨#[101, 110, 103]⟩, .slice a n c], .int .i64 x]) ∧ Flds w' (.slice a n c) l ∧ Below w.heap.size w w' := by
  obtain ⟨v, rfl, ⟨a, n, c, rfl, hf⟩, hb⟩ := h
  exact ⟨a, n, c, rfl, hf, hb⟩
theorem ret_zero {w w' : World} {x : Int} {e : Ending} (h : RetRec w (rec0, x) e w') : ∃ a n c, e = .returned (.tuple #[.agg #[.int .i64 0, .int .i64 0, .int .i64 0, .string ⟨#[]⟩, .slice a n c], .int .i64 x]) ∧ Below w.heap.size w w' := by
  obtain ⟨v, rfl, ⟨a, n, c, rfl, -⟩, hb⟩ := h
  exact ⟨a, n, c, rfl, hb⟩
theorem bk_small {ver : Int} {l : List Fld} (hl : l.length ≤ 1000) (h : ∀ f ∈ l, ∃ t i au sa, f = fl t i au sa) : (bk ver l).small := by
  refine ⟨by show l.length ≤ _; omega, fun f hf => ?_⟩
  obtain ⟨t, i, au, sa, rfl⟩ := h f hf
  exact fl_small t i au sa
theorem callUp {ver x : Int} {l : List Fld} {p : Rec} {a : Option Addr} {n c : Nat} {w : World} (hE : Env w) (hf : Flds w (.slice a n c) l) (hs : (bk ver l).small) (hu : upP (bk ver l) = (p, x)) : Calls Tryd.prog 13 #[.agg #[.int .i64 1, .int .i64 ver, .int .i64 1, .string ⟨#[101, 110, 103]⟩, .slice a n c]] w (RetRec w (p, x)) := by
  have := pUp (bk ver l) a n c w hE hf hs
  rw [hu] at this
  exact this
theorem callDown {ver x : Int} {l : List Fld} {p : Rec} {a : Option Addr} {n c : Nat} {w : World} (hE : Env w) (hf : Flds w (.slice a n c) l) (hs : (bk ver l).small) (hu : downP (bk ver l) = (p, x)) : Calls Tryd.prog 16 #[.agg #[.int .i64 1, .int .i64 ver, .int .i64 1, .string ⟨#[101, 110, 103]⟩, .slice a n c]] w (RetRec w (p, x)) := by
  have := pDown (bk ver l) a n c w hE hf hs
  rw [hu] at this
  exact this
theorem callTo {ver x v : Int} {l : List Fld} {p : Rec} {a : Option Addr} {n c : Nat} {w : World} (hE : Env w) (hf : Flds w (.slice a n c) l) (hs : (bk ver l).small) (hu : toP (bk ver l) v = (p, x)) : Calls Tryd.prog 18 #[.agg #[.int .i64 1, .int .i64 ver, .int .i64 1, .string ⟨#[101, 110, 103]⟩, .slice a n c], .int .i64 v] w (RetRec w (p, x)) := by
  have := pTo (bk ver l) a n c v w hE hf hs
  rw [hu] at this
  exact this
theorem callSame {ver : Int} {l l' : List Fld} {a a' : Option Addr} {n c n' c' : Nat} {w : World} (hf : Flds w (.slice a n c) l) (hg : Flds w (.slice a' n' c') l') (hs : (bk ver l).small) (hs' : (bk ver l').small) (he : l.map coreF = l'.map coreF) : Calls Tryd.prog 15 #[.agg #[.int .i64 1, .int .i64 ver, .int .i64 1, .string ⟨#[101, 110, 103]⟩, .slice a n c], .agg #[.int .i64 1, .int .i64 ver, .int .i64 1, .string ⟨#[101, 110, 103]⟩, .slice a' n' c']] w fun e w' => e = .returned (.bool true) ∧ Below w.heap.size w w' :=
  rSameRec (bk ver l) (bk ver l') a a' n c n' c' w hf hg rfl rfl rfl rfl he hs hs'
/-- The record that is full: 440 and then 500 over and over. -/
def isFull (l : List Fld) : Prop := ∃ s r, l = fl t440 [32, 52] 5 s :: r ∧ ∀ f ∈ r, ∃ s, f = fl [53, 48, 48] [32, 32] 0 s
theorem full_small {ver : Int} {l : List Fld} (h : isFull l) (hl : l.length ≤ 1000) : (bk ver l).small := by
  refine bk_small hl (fun f hf => ?_)
  obtain ⟨s, r, rfl, hr⟩ := h
  rcases List.mem_cons.1 hf with rfl | hf
  · exact ⟨_, _, _, _, rfl⟩
  · obtain ⟨s', rfl⟩ := hr f hf
    exact ⟨_, _, _, _, rfl⟩
theorem fldErr500 (s : Option Addr) : fldErr (fl [53, 48, 48] [32, 32] 0 s) = 0 := by kernel_rfl
theorem fldErr440 (s : Option Addr) : fldErr (fl t440 [32, 52] 5 s) = 0 := by kernel_rfl
theorem fldsErr_zero : ∀ {l : List Fld}, (∀ f ∈ l, fldErr f = 0) → fldsErr l = 0
  | [], _ => rfl
  | f :: r, h => by
    unfold fldsErr
    rw [if_neg (by rw [h f List.mem_cons_self]; simp)]
    exact fldsErr_zero (fun g hg => h g (List.mem_cons_of_mem _ hg))
theorem raise_ge (ver : Int) (f : Fld) : 1 ≤ (raise ver f).length := by
  unfold raise
  split
  · simp
  · split <;> simp
theorem upL_ge (ver : Int) : ∀ l : List Fld, l.length ≤ (upL ver l).length
  | [] => Nat.le_refl _
  | f :: r => by
    have h1 := raise_ge ver f
    have h2 := upL_ge ver r
    show _ ≤ (raise ver f ++ upL ver r).length
    rw [List.length_append, List.length_cons]
    omega
theorem ex_full {l : List Fld} (h : isFull l) (hl : l.length = 64) : upP (bk 2 l) = (rec0, 13) := by
  obtain ⟨s, r, rfl, hr⟩ := h
  have hfe : fldsErr (fl t440 [32, 52] 5 s :: r) = 0 := fldsErr_zero (fun f hf => by
    rcases List.mem_cons.1 hf with rfl | hf
    · exact fldErr440 s
    · obtain ⟨s', rfl⟩ := hr f hf
      exact fldErr500 s')
  have hre : recErr (bk 2 (fl t440 [32, 52] 5 s :: r)) = 0 := by
    unfold recErr
    rw [if_neg (by show ¬ ((1 : Int) < 0 ∨ 9999 < (1 : Int)); omega), if_neg (by show ¬ ((2 : Int) < 1 ∨ 3 < (2 : Int)); omega), if_neg (by show ¬ ((1 : Int) < 1 ∨ 4 < (1 : Int)); omega), if_neg (by show ¬ langOk engB = false; decide), if_neg (by show ¬ 64 < (fl t440 [32, 52] 5 s :: r).length; omega)]
    exact hfe
  have hal : (fl t440 [32, 52] 5 s :: r).all (alone 2) = true := List.all_eq_true.2 (fun f hf => by
    rcases List.mem_cons.1 hf with rfl | hf
    · kernel_rfl
    · obtain ⟨s', rfl⟩ := hr f hf
      kernel_rfl)
  have hM : rightM (bk 2 (fl t440 [32, 52] 5 s :: r)) = true := by
    rw [rightM_ok hre]
    show conforms 2 _ = true
    rw [conforms_split, show (bk 2 (fl t440 [32, 52] 5 s :: r)).fields = fl t440 [32, 52] 5 s :: r from rfl, hal, pair_none (by decide) _ _ hal]; rfl
  unfold upP
  rw [if_neg (by rw [hM]; simp), if_neg (by show ¬ (2 : Int) = 3; decide)]
  refine if_pos ?_
  have h1 : (upL 2 (fl t440 [32, 52] 5 s :: r)).length = 2 + (upL 2 r).length := by
    show (raise 2 (fl t440 [32, 52] 5 s) ++ upL 2 r).length = _
    rw [List.length_append]; rfl
  have h2 := upL_ge 2 r
  simp only [List.length_cons] at hl
  show 64 < (upL 2 (fl t440 [32, 52] 5 s :: r)).length
  omega
end Go.Proofs.YtimecccphbgdeaaDoor
