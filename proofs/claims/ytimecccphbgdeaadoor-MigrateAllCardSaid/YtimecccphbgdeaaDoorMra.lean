/- Own rows of fields, what append does to them, and the walk of raised (layer 18). -/
import Derived.Test.YtimecccphbgdeaaDoorMrh
import Derived.Test.YtimecccphbgdeaaDoorMup
import Derived.Laws.AppendOwnNone
namespace Go.Proofs.YtimecccphbgdeaaDoor
open Go Go.RowKit

theorem own_below {w w' : World} {base n size : Nat} {e : TypeId} {v : Value} {xs : List Value} (h : w.ownsRow base e size v n xs) (b : Below w.heap.size w w') : w'.ownsRow base e size v n xs := by
  refine ⟨h.1, ?_⟩
  rcases h.2 with h0 | ⟨g, cap, cur, hv, hg, hh, rest⟩
  · exact .inl h0
  · exact .inr ⟨g, cap, cur, hv, hg, (b.block g (Array.getElem?_eq_some_iff.1 hh).1).trans hh, rest⟩
theorem infoFld : (Tryd.prog.info? 41).map (fun i => (i.zero, i.size, i.bytes)) = some (some (.agg #[.string ⟨#[]⟩, .string ⟨#[]⟩, .slice none 0 0, .int .i64 0]), 4, 64) := by kernel_rfl
/-- A row of fields of one's own. -/
def OwnF (w : World) (B : Nat) (v : Value) (l : List Fld) : Prop := w.ownsRow B 41 4 v l.length (flatE fldE l)
theorem OwnF.below {w w' : World} {B : Nat} {v : Value} {l : List Fld} (h : OwnF w B v l) (b : Below w.heap.size w w') : OwnF w' B v l := own_below h b
theorem OwnF.nil (w : World) (B : Nat) : OwnF w B (.slice none 0 0) [] := World.ownsRow_nil w B _ 4
/-- Append to a row of one's own. -/
theorem append_flds {ops : Array Oper} {rest : List Oper} {o : Oper} {a : Act} {w : World} {Q : Exit → Act → World → Prop} (hgd : o.guard = none) (s x : Operand)
    (ho : o.op = .call { callee := .builtin .append, args := #[s, x], argTypes := #[22, 22] })
    (B : Nat) (v : Value) (out : List Fld) (hs : a.eval s = v) (hown : OwnF w B v out)
    (ad : Addr) (m c : Nat) (news : List Fld) (hx : a.eval x = .slice (some ad) m c) (hm : m = news.length) (hnews : ∀ j u, (flatE fldE news)[j]? = some u → w.cell? (ad.add j) = some u)
    (hlen : out.length + m ≤ 1000000) (hB : B ≤ w.heap.size)
    (h : ∀ v' w', OwnF w' B v' (out ++ news) → Below B w w' → wpList Tryd.prog ops Q rest (a.put o.dst v') w') : wpList Tryd.prog ops Q (o :: rest) a w := by
  obtain ⟨i0, hi, hz0, hz1, hz2⟩ := info_parts infoFld
  refine wpList_append_own w hgd s x 22 ho B 41 i0 (.agg #[.string ⟨#[]⟩, .string ⟨#[]⟩, .slice none 0 0, .int .i64 0]) 4 64 Tryd.underlying22 hi hz0 hz1 hz2 rfl (by decide) v out.length (flatE fldE out) hs hown ad m c (flatE fldE news) hx (by rw [flatE_len fldE_len, hm]) hnews (flatE_one fldE_one news) (by unfold maxLen; omega) (by omega) hB ?_
  intro v' w' h1 h2 _
  refine h v' w' ?_ ((Below.refl B w).grown h2 hB (fun k hk => (World.ownsRow.lt hown k hk).1))
  unfold OwnF
  rw [flatE_append, List.length_append, ← hm]
  exact h1
/-- A row of one's own, read in a world that has the same cells from its base on. -/
theorem OwnF.flds {w w' : World} {B : Nat} {v : Value} {l : List Fld} (h : OwnF w B v l) (hs : w.heap.size ≤ w'.heap.size) (hc : ∀ g i, B ≤ g → w'.cell? ⟨g, i, none⟩ = w.cell? ⟨g, i, none⟩) (hf : ∀ f ∈ l, FldAt w' f) : Flds w' v l := by
  refine ⟨?_, hf⟩
  unfold OwnF at h
  rcases h.2 with ⟨rfl, h0⟩ | ⟨g, cap, cur, rfl, hg, hh, hcc, _⟩
  · have : l = [] := List.eq_nil_of_length_eq_zero h0
    subst this
    exact Rows.nil fldE 4 w'
  · refine ⟨_, cap, rfl, hcc, .inr ⟨g, 0, rfl, Nat.lt_of_lt_of_le (Array.getElem?_eq_some_iff.1 hh).1 hs, fun j p hj i u hi => ?_⟩⟩
    have hi4 : i < 4 := by have := (List.getElem?_eq_some_iff.1 hi).1; rwa [fldE_len] at this
    have := h.cells (g := g) rfl (j * 4 + i) u (by rw [flatE_at fldE_len l j p hj i hi4]; exact hi)
    rw [Addr.add_lit, Nat.zero_add] at this
    rw [Nat.zero_add, hc g _ hg]
    exact this

theorem lb_ext {x y : ByteArray} (h : x.data.toList = y.data.toList) : x = y := by rw [lb_of x, lb_of y, h]
theorem ind_take (i : List UInt8) (b : UInt8) (x : ByteArray) (hx : x = ⟨#[b]⟩) : (lb i).extract 0 1 ++ x = lb (i.take 1 ++ [b]) := by
  subst hx
  apply lb_ext
  rw [lb_data]
  simp [lb, ByteArray.data_append, ByteArray.data_extract]
theorem ind_drop (i : List UInt8) (b : UInt8) (x : ByteArray) (n : Nat) (hn : n = i.length) (hx : x = ⟨#[b]⟩) : x ++ (lb i).extract 1 n = lb (b :: i.drop 1) := by
  subst hx
  subst hn
  apply lb_ext
  rw [lb_data]
  simp [lb, ByteArray.data_append, ByteArray.data_extract]
  exact List.take_of_length_le (by simp)

/-- What raised makes of a field. -/
def raiseL (f : Fld) : List Fld :=
  if f.tag = t260 then [withF f t264 (f.ind.take 1 ++ [49]) f.auth]
  else if f.tag = t440 then [withF f t490 (49 :: f.ind.drop 1) 0, withF f t830 (32 :: f.ind.drop 1) f.auth] else [f]

theorem cells_one {w : World} {b o : Nat} {f : Fld} (h : Four w b o f) : ∀ j u, (flatE fldE [f])[j]? = some u → w.cell? ((⟨b, o, none⟩ : Addr).add j) = some u := by
  intro j u hj
  rw [Addr.add_lit]
  have hj4 : j < 4 := by have := (List.getElem?_eq_some_iff.1 hj).1; simpa [flatE, fldE] using this
  rcases (by omega : j = 0 ∨ j = 1 ∨ j = 2 ∨ j = 3) with rfl | rfl | rfl | rfl
  · cases hj; exact h.c0
  · cases hj; exact h.c1
  · cases hj; exact h.c2
  · cases hj; exact h.c3
theorem cells_two {w : World} {b : Nat} {f g : Fld} (h : Four w b 0 f) (h' : Four w b 4 g) : ∀ j u, (flatE fldE [f, g])[j]? = some u → w.cell? ((⟨b, 0, none⟩ : Addr).add j) = some u := by
  intro j u hj
  rw [Addr.add_lit]
  have hj8 : j < 8 := by have := (List.getElem?_eq_some_iff.1 hj).1; simpa [flatE, fldE] using this
  rcases (by omega : j = 0 ∨ j = 1 ∨ j = 2 ∨ j = 3 ∨ j = 4 ∨ j = 5 ∨ j = 6 ∨ j = 7) with rfl | rfl | rfl | rfl | rfl | rfl | rfl | rfl
  · cases hj; exact h.c0
  · cases hj; exact h.c1
  · cases hj; exact h.c2
  · cases hj; exact h.c3
  · cases hj; exact h'.c0
  · cases hj; exact h'.c1
  · cases hj; exact h'.c2
  · cases hj; exact h'.c3

/-- A call returns a slice whose cells are those of these fields. -/
def RetCells (w : World) (l : List Fld) (e : Ending) (w' : World) : Prop := ∃ b c, e = .returned (.slice (some ⟨b, 0, none⟩) l.length c) ∧ (∀ j u, (flatE fldE l)[j]? = some u → w'.cell? ((⟨b, 0, none⟩ : Addr).add j) = some u) ∧ Below w.heap.size w w'

theorem four_new (w : World) (T : TypeId) (f : Fld) (x y : ByteArray) (hx : x = lb f.tag) (hy : y = lb f.ind) (n : Nat) (hn : n = f.subs.length) : Four (w.alloc (.cells #[.string x, .string y, .slice f.sa n f.sc, .int .i64 f.auth] T)) w.heap.size 0 f := by
  subst hx
  subst hy
  subst hn
  refine ⟨?_, ?_, ?_, ?_⟩ <;> (rw [Lib.cell_of_heap (heap_alloc_new w _)]; rfl)
theorem four_new2 (w : World) (O : Obj) (T : TypeId) (f : Fld) (x y : ByteArray) (hx : x = lb f.tag) (hy : y = lb f.ind) (n : Nat) (hn : n = f.subs.length) : Four ((w.alloc O).alloc (.cells #[.string x, .string y, .slice f.sa n f.sc, .int .i64 f.auth] T)) (w.heap.size + 1) 0 f := by
  have := four_new (w.alloc O) T f x y hx hy n hn
  rwa [World.size_alloc] at this
theorem Four.drew {w : World} {b o : Nat} {f : Fld} (h : Four w b o f) : Four w.drew b o f := ⟨h.c0, h.c1, h.c2, h.c3⟩
theorem two_new (w : World) (T : TypeId) (f g : Fld) (x y x' y' : ByteArray) (hx : x = lb f.tag) (hy : y = lb f.ind) (hx' : x' = lb g.tag) (hy' : y' = lb g.ind) (n m : Nat) (hn : n = f.subs.length) (hm : m = g.subs.length) : ∀ j u, (flatE fldE [f, g])[j]? = some u → (w.alloc (.cells #[.string x, .string y, .slice f.sa n f.sc, .int .i64 f.auth, .string x', .string y', .slice g.sa m g.sc, .int .i64 g.auth] T)).cell? ((⟨w.heap.size, 0, none⟩ : Addr).add j) = some u := by
  subst hx
  subst hy
  subst hn
  subst hx'
  subst hy'
  subst hm
  refine cells_two ⟨?_, ?_, ?_, ?_⟩ ⟨?_, ?_, ?_, ?_⟩ <;> (rw [Lib.cell_of_heap (heap_alloc_new w _)]; rfl)
theorem two_new4 (w : World) (O1 O2 O3 : Obj) (T : TypeId) (f g : Fld) (x y x' y' : ByteArray) (hx : x = lb f.tag) (hy : y = lb f.ind) (hx' : x' = lb g.tag) (hy' : y' = lb g.ind) (n m : Nat) (hn : n = f.subs.length) (hm : m = g.subs.length) : ∀ j u, (flatE fldE [f, g])[j]? = some u → ((((w.alloc O1).alloc O2).alloc O3).alloc (.cells #[.string x, .string y, .slice f.sa n f.sc, .int .i64 f.auth, .string x', .string y', .slice g.sa m g.sc, .int .i64 g.auth] T)).drew.drew.drew.cell? ((⟨w.heap.size + 1 + 1 + 1, 0, none⟩ : Addr).add j) = some u := by
  have := two_new (((w.alloc O1).alloc O2).alloc O3) T f g x y x' y' hx hy hx' hy' n m hn hm
  rw [World.size_alloc, World.size_alloc, World.size_alloc] at this
  exact this

set_option maxRecDepth 100000 in
set_option maxHeartbeats 4000000 in
theorem pRaised (f : Fld) (w : World) (hi : f.ind.length = 2) :
    Calls Tryd.prog 35 #[.agg #[.string (lb f.tag), .string (lb f.ind), .slice f.sa f.subs.length f.sc, .int .i64 f.auth]] w (RetCells w (raiseL f)) := by
  have hsz : (lb f.ind).size = 2 := by rw [lb_size, hi]
  have e2 := lb_beq f.tag t260
  have e4 := lb_beq f.tag t440
  rw [lb_list t260] at e2
  rw [lb_list t440] at e4
  have HT := Lib.hid (ind_take f.ind 49 ⟨#[49]⟩ rfl)
  have HT1 := Lib.hid (ind_drop f.ind 49 ⟨#[49]⟩ 2 hi.symm rfl)
  have HT2 := Lib.hid (ind_drop f.ind 32 ⟨#[32]⟩ 2 hi.symm rfl)
  obtain ⟨tag, ind, subs, auth, sa, sc⟩ := f
  simp only at hsz e2 e4 HT HT1 HT2 ⊢
  obtain ⟨T, hT⟩ : ∃ T, T = lb tag := ⟨_, rfl⟩
  obtain ⟨I, hI⟩ : ∃ I, I = lb ind := ⟨_, rfl⟩
  obtain ⟨sn, hsn⟩ : ∃ sn, sn = subs.length := ⟨_, rfl⟩
  rw [← hT] at e2 e4
  rw [← hI] at hsz HT HT1 HT2
  rw [← hT, ← hI, ← hsn]
  have z1 : (1 : Int) ≤ ((I.size : Nat) : Int) := by omega
  have z0 : (0 : Int) ≤ 1 := by omega
  have HTT := Lib.hid hT
  have HII := Lib.hid hI
  have HSN := Lib.hid hsn
  by_cases a2 : tag = t260
  · have b2 : (T.toList == [50, 54, 48]) = true := e2.trans (by rw [a2]; simp)
    have hr : raiseL ⟨tag, ind, subs, auth, sa, sc⟩ = [withF ⟨tag, ind, subs, auth, sa, sc⟩ t264 (ind.take 1 ++ [49]) auth] := by unfold raiseL; rw [if_pos a2]
    rw [hr]
    clear a2 e2 e4 hr hT hI hi hsn
    go_enter Tryd.func35, Tryd.ntmps35
    go_wp2_with fail
    go_region
    go_wp2
    go_ret
    exact ⟨_, _, rfl, cells_one (four_new2 w _ _ (withF ⟨tag, ind, subs, auth, sa, sc⟩ t264 (ind.take 1 ++ [49]) auth) _ _ rfl HT.out _ HSN.out).drew, (((Below.refl _ _).alloc (Nat.le_refl _) _).alloc (by simp) _).drew⟩
  · have b2 : (T.toList == [50, 54, 48]) = false := e2.trans (by simpa using a2)
    by_cases a4 : tag = t440
    · have b4 : (T.toList == [52, 52, 48]) = true := e4.trans (by rw [a4]; simp)
      have hr : raiseL ⟨tag, ind, subs, auth, sa, sc⟩ = [withF ⟨tag, ind, subs, auth, sa, sc⟩ t490 (49 :: ind.drop 1) 0, withF ⟨tag, ind, subs, auth, sa, sc⟩ t830 (32 :: ind.drop 1) auth] := by unfold raiseL; rw [if_neg a2, if_pos a4]
      rw [hr]
      clear a2 a4 e2 e4 hr hT hI hi hsn
      go_enter Tryd.func35, Tryd.ntmps35
      go_wp2_with fail
      go_region
      all_goals go_wp2_with fail
      all_goals go_region
      all_goals go_wp2_with fail
      all_goals go_region
      all_goals go_wp2
      all_goals go_ret
      all_goals
        refine ⟨_, _, rfl, two_new4 w _ _ _ _ (withF ⟨tag, ind, subs, auth, sa, sc⟩ t490 (49 :: ind.drop 1) 0) (withF ⟨tag, ind, subs, auth, sa, sc⟩ t830 (32 :: ind.drop 1) auth) _ _ _ _ rfl HT1.out rfl HT2.out _ _ HSN.out HSN.out, ?_⟩
        exact ((((((Below.refl _ _).alloc (Nat.le_refl _) _).alloc (by simp) _).alloc (by simp; omega) _).alloc (by simp; omega) _).drew).drew.drew
    · have b4 : (T.toList == [52, 52, 48]) = false := e4.trans (by simpa using a4)
      have hr : raiseL ⟨tag, ind, subs, auth, sa, sc⟩ = [⟨tag, ind, subs, auth, sa, sc⟩] := by unfold raiseL; rw [if_neg a2, if_neg a4]
      rw [hr]
      clear a2 a4 e2 e4 hr hT hI hi hsn
      go_enter Tryd.func35, Tryd.ntmps35
      go_wp2
      go_ret
      exact ⟨_, _, rfl, cells_one (four_new2 w _ _ ⟨tag, ind, subs, auth, sa, sc⟩ _ _ HTT.out HII.out _ HSN.out), ((Below.refl _ _).alloc (Nat.le_refl _) _).alloc (by simp) _⟩
end Go.Proofs.YtimecccphbgdeaaDoor
