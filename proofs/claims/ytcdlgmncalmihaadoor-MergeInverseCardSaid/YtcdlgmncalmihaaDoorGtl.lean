/- The last statements of Merge (both sides) and Split: loads and stores, whatever their order (layer 16). -/
import Derived.Test.YtcdlgmncalmihaaDoorGmp
import Derived.Test.YtcdlgmncalmihaaDoorRinv
namespace Go.Proofs.YtcdlgmncalmihaaDoor
open Go Go.RowKit

theorem ar5 {cs : Array Value} (h : cs.size = 5) : ∃ a b c d e, cs = #[a, b, c, d, e] := by
  obtain ⟨l⟩ := cs
  match l, h with
  | [a, b, c, d, e], _ => exact ⟨a, b, c, d, e, rfl⟩
theorem ar7 {cs : Array Value} (h : cs.size = 7) : ∃ a b c d e f g, cs = #[a, b, c, d, e, f, g] := by
  obtain ⟨l⟩ := cs
  match l, h with
  | [a, b, c, d, e, f, g], _ => exact ⟨a, b, c, d, e, f, g, rfl⟩
/-- Each operation waits for earlier ones alone, as far as the waiting binds. -/
def forwardB (md : Region.Mode) (ops : Array Oper) : Bool := (List.range ops.size).all fun j => match ops[j]? with | some o => o.after.all fun e => !Region.binds md e || decide (e.on < j) | none => true
theorem all_listedB {md : Region.Mode} {ops : Array Oper} {listed : Array Bool} (hf : forwardB md ops = true) (hs : listed.size = ops.size) (h0 : Region.ready md ops listed = []) : ∀ m, listed.getD m true = true := by
  intro m
  induction m using Nat.strongRecOn with
  | _ m ih =>
    rcases Nat.lt_or_ge m listed.size with hm | hm
    · cases hl : listed.getD m true with
      | true => rfl
      | false =>
        have hmo : m < ops.size := by omega
        have : m ∈ Region.ready md ops listed := by
          refine mem_ready.2 ⟨hl, ops[m], by simp [hmo], fun e he hb => ?_⟩
          have hfm := List.all_eq_true.1 hf m (List.mem_range.2 hmo)
          simp only [Array.getElem?_eq_getElem hmo] at hfm
          have hlt : e.on < m := by
            have := Array.all_eq_true'.1 hfm e he
            rw [hb] at this
            simpa using this
          have h1 := ih e.on hlt
          have hin : e.on < listed.size := by omega
          simpa [Array.getD, hin] using h1
        rw [h0] at this
        cases this
    · simp [Array.getD, Nat.not_lt.2 hm]
theorem getD_same {tm : Array Value} {d : Nat} {v : Value} (h : d < tm.size) : (tm.setIfInBounds d v).getD d undef = v := by
  simp [Array.getD, h]
theorem getD_ne {tm : Array Value} {d p : Nat} {v : Value} (h : d ≠ p) : (tm.setIfInBounds d v).getD p undef = tm.getD p undef := by
  simp only [Array.getD_eq_getD_getElem?]
  rw [Array.getElem?_setIfInBounds_ne h]


set_option maxRecDepth 100000 in
set_option maxHeartbeats 4000000 in
theorem tailM {id : Nat} {ty0 : TypeId} {po0 : String} {af0 : Array Edge} {ty1 : TypeId} {po1 : String} {af1 : Array Edge} {ty2 : TypeId} {po2 : String} {af2 : Array Edge} {ty3 : TypeId} {po3 : String} {af3 : Array Edge} {ty4 : TypeId} {po4 : String} {af4 : Array Edge} {Q : Exit → Act → World → Prop} {tm0 : Array Value} {df : _} {w0 : World} (Inv : World → Prop)
    (bx bp gp n : Nat) (x0 x1 x2 : Int) (x3 : ByteArray) (xa : Option Addr) (xn xc : Nat) (y0 y1 y2 y3 : Int) (y4 : ByteArray) (y5 : Option Addr) (y6 y7 : Nat) (y8 : Option Addr) (y9 y10 : Nat)
    (hsz : tm0.size = 89)
    (hp3 : tm0.getD 3 undef = .pointer (some ⟨n, 0, none⟩))
    (hp11 : tm0.getD 11 undef = .pointer (some ⟨gp, 0, none⟩))
    (hp6 : tm0.getD 6 undef = .pointer (some ⟨bx, 0, none⟩))
    (hp7 : tm0.getD 7 undef = .pointer (some ⟨bp, 0, none⟩))
    (hrn : w0.heap[n]? = some (.cells #[.int .i64 x0, .int .i64 x1, .int .i64 x2, .string x3, .slice xa xn xc] 31 (0, 0)))
    (hrgp : w0.heap[gp]? = some (.cells #[.int .i64 y0, .int .i64 y1, .int .i64 y2, .int .i64 y3, .string y4, .slice y5 y6 y7, .slice y8 y9 y10] 36 (0, 0)))
    (hdbx : ∃ cs, w0.heap[bx]? = some (.cells cs 31 (0, 0)) ∧ cs.size = 5)
    (hdbp : ∃ cs, w0.heap[bp]? = some (.cells cs 36 (0, 0)) ∧ cs.size = 7)
    (nnbx : n ≠ bx)
    (nnbp : n ≠ bp)
    (ngpbx : gp ≠ bx)
    (ngpbp : gp ≠ bp)
    (nbxbp : bx ≠ bp)
    (hI0 : Inv w0.drew)
    (hIbx : ∀ W vs cs, W.heap[bx]? = some (.cells cs 31 (0, 0)) → Inv W → Inv (putL W bx 0 vs))
    (hIbp : ∀ W vs cs, W.heap[bp]? = some (.cells cs 36 (0, 0)) → Inv W → Inv (putL W bp 0 vs))
    (hw2_0 : waits .any #[⟨some 87, .load 31 (.tmp 3), ty0, po0, af0, none⟩, ⟨some 88, .load 36 (.tmp 11), ty1, po1, af1, none⟩, ⟨none, .store 31 (.tmp 6) (.tmp 87), ty2, po2, af2, none⟩, ⟨none, .store 36 (.tmp 7) (.tmp 88), ty3, po3, af3, none⟩, ⟨some 8, .assign (.const (.int .i64 0)), ty4, po4, af4, none⟩] 2 0 = true)
    (hw3_1 : waits .any #[⟨some 87, .load 31 (.tmp 3), ty0, po0, af0, none⟩, ⟨some 88, .load 36 (.tmp 11), ty1, po1, af1, none⟩, ⟨none, .store 31 (.tmp 6) (.tmp 87), ty2, po2, af2, none⟩, ⟨none, .store 36 (.tmp 7) (.tmp 88), ty3, po3, af3, none⟩, ⟨some 8, .assign (.const (.int .i64 0)), ty4, po4, af4, none⟩] 3 1 = true)
    (hfw : forwardB .any #[⟨some 87, .load 31 (.tmp 3), ty0, po0, af0, none⟩, ⟨some 88, .load 36 (.tmp 11), ty1, po1, af1, none⟩, ⟨none, .store 31 (.tmp 6) (.tmp 87), ty2, po2, af2, none⟩, ⟨none, .store 36 (.tmp 7) (.tmp 88), ty3, po3, af3, none⟩, ⟨some 8, .assign (.const (.int .i64 0)), ty4, po4, af4, none⟩] = true)
    (hQ : ∀ tm W, tm.getD 6 undef = .pointer (some ⟨bx, 0, none⟩) → tm.getD 7 undef = .pointer (some ⟨bp, 0, none⟩) → tm.getD 8 undef = .int .i64 0 → W.heap[bx]? = some (.cells #[.int .i64 x0, .int .i64 x1, .int .i64 x2, .string x3, .slice xa xn xc] 31 (0, 0)) → W.heap[bp]? = some (.cells #[.int .i64 y0, .int .i64 y1, .int .i64 y2, .int .i64 y3, .string y4, .slice y5 y6 y7, .slice y8 y9 y10] 36 (0, 0)) → Inv W → Q .normal ⟨tm, df⟩ W)
    : Code.wp Tryd.prog (.region id #[⟨some 87, .load 31 (.tmp 3), ty0, po0, af0, none⟩, ⟨some 88, .load 36 (.tmp 11), ty1, po1, af1, none⟩, ⟨none, .store 31 (.tmp 6) (.tmp 87), ty2, po2, af2, none⟩, ⟨none, .store 36 (.tmp 7) (.tmp 88), ty3, po3, af3, none⟩, ⟨some 8, .assign (.const (.int .i64 0)), ty4, po4, af4, none⟩] true) Q ⟨tm0, df⟩ w0 := by
  refine wp_region_inv (by kernel_rfl) (fun listed a W => ∃ tm, a = ⟨tm, df⟩ ∧ tm.size = 89 ∧ tm.getD 3 undef = .pointer (some ⟨n, 0, none⟩) ∧ tm.getD 11 undef = .pointer (some ⟨gp, 0, none⟩) ∧ tm.getD 6 undef = .pointer (some ⟨bx, 0, none⟩) ∧ tm.getD 7 undef = .pointer (some ⟨bp, 0, none⟩) ∧ (listed.getD 0 true = true → tm.getD 87 undef = .agg #[.int .i64 x0, .int .i64 x1, .int .i64 x2, .string x3, .slice xa xn xc]) ∧ (listed.getD 1 true = true → tm.getD 88 undef = .agg #[.int .i64 y0, .int .i64 y1, .int .i64 y2, .int .i64 y3, .string y4, .slice y5 y6 y7, .slice y8 y9 y10]) ∧ (listed.getD 4 true = true → tm.getD 8 undef = .int .i64 0) ∧ W.heap[n]? = some (.cells #[.int .i64 x0, .int .i64 x1, .int .i64 x2, .string x3, .slice xa xn xc] 31 (0, 0)) ∧ W.heap[gp]? = some (.cells #[.int .i64 y0, .int .i64 y1, .int .i64 y2, .int .i64 y3, .string y4, .slice y5 y6 y7, .slice y8 y9 y10] 36 (0, 0)) ∧ (∃ cs, W.heap[bx]? = some (.cells cs 31 (0, 0)) ∧ cs.size = 5 ∧ (listed.getD 2 true = true → cs = #[.int .i64 x0, .int .i64 x1, .int .i64 x2, .string x3, .slice xa xn xc])) ∧ (∃ cs, W.heap[bp]? = some (.cells cs 36 (0, 0)) ∧ cs.size = 7 ∧ (listed.getD 3 true = true → cs = #[.int .i64 y0, .int .i64 y1, .int .i64 y2, .int .i64 y3, .string y4, .slice y5 y6 y7, .slice y8 y9 y10])) ∧ Inv W) ?start ?step ?done
  case start =>
    have no : ∀ m, m < 5 → (Array.replicate 5 false).getD m true = false := fun m hm => by simp [Array.getD, hm]
    obtain ⟨csbx, hhbx, hsbx⟩ := hdbx
    obtain ⟨csbp, hhbp, hsbp⟩ := hdbp
    exact ⟨tm0, rfl, hsz, hp3, hp11, hp6, hp7, fun h => Bool.noConfusion ((no 0 (by decide)).symm.trans h), fun h => Bool.noConfusion ((no 1 (by decide)).symm.trans h), fun h => Bool.noConfusion ((no 4 (by decide)).symm.trans h), hrn, hrgp, ⟨csbx, hhbx, hsbx, fun h => Bool.noConfusion ((no 2 (by decide)).symm.trans h)⟩, ⟨csbp, hhbp, hsbp, fun h => Bool.noConfusion ((no 3 (by decide)).symm.trans h)⟩, hI0⟩
  case done =>
    rintro listed a W hs ⟨tm, rfl, is, ip3, ip11, ip6, ip7, iv0, iv1, iv4, irn, irgp, ⟨csbx, ihbx, izbx, icbx⟩, ⟨csbp, ihbp, izbp, icbp⟩, iI⟩ h0
    have hall := all_listedB hfw hs h0
    have ebx := icbx (hall 2)
    subst ebx
    have ebp := icbp (hall 3)
    subst ebp
    exact hQ tm W ip6 ip7 (iv4 (hall 4)) ihbx ihbp iI
  case step =>
    rintro listed a W i hs ⟨tm, rfl, is, ip3, ip11, ip6, ip7, iv0, iv1, iv4, irn, irgp, ⟨csbx, ihbx, izbx, icbx⟩, ⟨csbp, ihbp, izbp, icbp⟩, iI⟩ hi
    have hin : i < 5 := by
      obtain ⟨-, o, ho, -⟩ := mem_ready.1 hi
      exact (Array.getElem?_eq_some_iff.1 ho).1
    have hcases : i = 0 ∨ i = 1 ∨ i = 2 ∨ i = 3 ∨ i = 4 := by omega
    rcases hcases with rfl | rfl | rfl | rfl | rfl
    · have hdz : 87 < tm.size := by rw [is]; decide
      have t0 := Lib.cell_of_heap irn 0
      have t1 := Lib.cell_of_heap irn 1
      have t2 := Lib.cell_of_heap irn 2
      have t3 := Lib.cell_of_heap irn 3
      have t4 := Lib.cell_of_heap irn 4
      have HN : ∃ tm', (⟨tm.setIfInBounds 87 (.agg #[.int .i64 x0, .int .i64 x1, .int .i64 x2, .string x3, .slice xa xn xc]), df⟩ : Act) = ⟨tm', df⟩ ∧ tm'.size = 89 ∧ tm'.getD 3 undef = .pointer (some ⟨n, 0, none⟩) ∧ tm'.getD 11 undef = .pointer (some ⟨gp, 0, none⟩) ∧ tm'.getD 6 undef = .pointer (some ⟨bx, 0, none⟩) ∧ tm'.getD 7 undef = .pointer (some ⟨bp, 0, none⟩) ∧ ((listed.setIfInBounds 0 true).getD 0 true = true → tm'.getD 87 undef = .agg #[.int .i64 x0, .int .i64 x1, .int .i64 x2, .string x3, .slice xa xn xc]) ∧ ((listed.setIfInBounds 0 true).getD 1 true = true → tm'.getD 88 undef = .agg #[.int .i64 y0, .int .i64 y1, .int .i64 y2, .int .i64 y3, .string y4, .slice y5 y6 y7, .slice y8 y9 y10]) ∧ ((listed.setIfInBounds 0 true).getD 4 true = true → tm'.getD 8 undef = .int .i64 0) ∧ W.heap[n]? = some (.cells #[.int .i64 x0, .int .i64 x1, .int .i64 x2, .string x3, .slice xa xn xc] 31 (0, 0)) ∧ W.heap[gp]? = some (.cells #[.int .i64 y0, .int .i64 y1, .int .i64 y2, .int .i64 y3, .string y4, .slice y5 y6 y7, .slice y8 y9 y10] 36 (0, 0)) ∧ (∃ cs, W.heap[bx]? = some (.cells cs 31 (0, 0)) ∧ cs.size = 5 ∧ ((listed.setIfInBounds 0 true).getD 2 true = true → cs = #[.int .i64 x0, .int .i64 x1, .int .i64 x2, .string x3, .slice xa xn xc])) ∧ (∃ cs, W.heap[bp]? = some (.cells cs 36 (0, 0)) ∧ cs.size = 7 ∧ ((listed.setIfInBounds 0 true).getD 3 true = true → cs = #[.int .i64 y0, .int .i64 y1, .int .i64 y2, .int .i64 y3, .string y4, .slice y5 y6 y7, .slice y8 y9 y10])) ∧ Inv W := by
        exact ⟨_, rfl, by rw [Array.size_setIfInBounds]; exact is, (getD_ne (by decide)).trans ip3, (getD_ne (by decide)).trans ip11, (getD_ne (by decide)).trans ip6, (getD_ne (by decide)).trans ip7, fun _ => getD_same hdz, fun h => (getD_ne (by decide)).trans (iv1 ((set_listed h).resolve_left (by decide))), fun h => (getD_ne (by decide)).trans (iv4 ((set_listed h).resolve_left (by decide))), irn, irgp, ⟨csbx, ihbx, izbx, fun h => icbx ((set_listed h).resolve_left (by decide))⟩, ⟨csbp, ihbp, izbp, fun h => icbp ((set_listed h).resolve_left (by decide))⟩, iI⟩
      have HH := Lib.hid HN
      clear HN iI iv0 iv1 iv4 irn irgp ihbx icbx ihbp icbp
      refine wpOp_step rfl (fun K hK => ?_)
      go_simp
      exact hK _ _ HH.out
    · have hdz : 88 < tm.size := by rw [is]; decide
      have t0 := Lib.cell_of_heap irgp 0
      have t1 := Lib.cell_of_heap irgp 1
      have t2 := Lib.cell_of_heap irgp 2
      have t3 := Lib.cell_of_heap irgp 3
      have t4 := Lib.cell_of_heap irgp 4
      have t5 := Lib.cell_of_heap irgp 5
      have t6 := Lib.cell_of_heap irgp 6
      have HN : ∃ tm', (⟨tm.setIfInBounds 88 (.agg #[.int .i64 y0, .int .i64 y1, .int .i64 y2, .int .i64 y3, .string y4, .slice y5 y6 y7, .slice y8 y9 y10]), df⟩ : Act) = ⟨tm', df⟩ ∧ tm'.size = 89 ∧ tm'.getD 3 undef = .pointer (some ⟨n, 0, none⟩) ∧ tm'.getD 11 undef = .pointer (some ⟨gp, 0, none⟩) ∧ tm'.getD 6 undef = .pointer (some ⟨bx, 0, none⟩) ∧ tm'.getD 7 undef = .pointer (some ⟨bp, 0, none⟩) ∧ ((listed.setIfInBounds 1 true).getD 0 true = true → tm'.getD 87 undef = .agg #[.int .i64 x0, .int .i64 x1, .int .i64 x2, .string x3, .slice xa xn xc]) ∧ ((listed.setIfInBounds 1 true).getD 1 true = true → tm'.getD 88 undef = .agg #[.int .i64 y0, .int .i64 y1, .int .i64 y2, .int .i64 y3, .string y4, .slice y5 y6 y7, .slice y8 y9 y10]) ∧ ((listed.setIfInBounds 1 true).getD 4 true = true → tm'.getD 8 undef = .int .i64 0) ∧ W.heap[n]? = some (.cells #[.int .i64 x0, .int .i64 x1, .int .i64 x2, .string x3, .slice xa xn xc] 31 (0, 0)) ∧ W.heap[gp]? = some (.cells #[.int .i64 y0, .int .i64 y1, .int .i64 y2, .int .i64 y3, .string y4, .slice y5 y6 y7, .slice y8 y9 y10] 36 (0, 0)) ∧ (∃ cs, W.heap[bx]? = some (.cells cs 31 (0, 0)) ∧ cs.size = 5 ∧ ((listed.setIfInBounds 1 true).getD 2 true = true → cs = #[.int .i64 x0, .int .i64 x1, .int .i64 x2, .string x3, .slice xa xn xc])) ∧ (∃ cs, W.heap[bp]? = some (.cells cs 36 (0, 0)) ∧ cs.size = 7 ∧ ((listed.setIfInBounds 1 true).getD 3 true = true → cs = #[.int .i64 y0, .int .i64 y1, .int .i64 y2, .int .i64 y3, .string y4, .slice y5 y6 y7, .slice y8 y9 y10])) ∧ Inv W := by
        exact ⟨_, rfl, by rw [Array.size_setIfInBounds]; exact is, (getD_ne (by decide)).trans ip3, (getD_ne (by decide)).trans ip11, (getD_ne (by decide)).trans ip6, (getD_ne (by decide)).trans ip7, fun h => (getD_ne (by decide)).trans (iv0 ((set_listed h).resolve_left (by decide))), fun _ => getD_same hdz, fun h => (getD_ne (by decide)).trans (iv4 ((set_listed h).resolve_left (by decide))), irn, irgp, ⟨csbx, ihbx, izbx, fun h => icbx ((set_listed h).resolve_left (by decide))⟩, ⟨csbp, ihbp, izbp, fun h => icbp ((set_listed h).resolve_left (by decide))⟩, iI⟩
      have HH := Lib.hid HN
      clear HN iI iv0 iv1 iv4 irn irgp ihbx icbx ihbp icbp
      refine wpOp_step rfl (fun K hK => ?_)
      go_simp
      exact hK _ _ HH.out
    · have j0 := iv0 (waited hi hw2_0)
      obtain ⟨c0, c1, c2, c3, c4, rfl⟩ := ar5 izbx
      have t0 := Lib.cell_of_heap ihbx 0
      have f0 := Lib.frozen_of_heap ihbx 0
      have t1 := Lib.cell_of_heap ihbx 1
      have f1 := Lib.frozen_of_heap ihbx 1
      have t2 := Lib.cell_of_heap ihbx 2
      have f2 := Lib.frozen_of_heap ihbx 2
      have t3 := Lib.cell_of_heap ihbx 3
      have f3 := Lib.frozen_of_heap ihbx 3
      have t4 := Lib.cell_of_heap ihbx 4
      have f4 := Lib.frozen_of_heap ihbx 4
      have HN : ∃ tm', (⟨tm, df⟩ : Act) = ⟨tm', df⟩ ∧ tm'.size = 89 ∧ tm'.getD 3 undef = .pointer (some ⟨n, 0, none⟩) ∧ tm'.getD 11 undef = .pointer (some ⟨gp, 0, none⟩) ∧ tm'.getD 6 undef = .pointer (some ⟨bx, 0, none⟩) ∧ tm'.getD 7 undef = .pointer (some ⟨bp, 0, none⟩) ∧ ((listed.setIfInBounds 2 true).getD 0 true = true → tm'.getD 87 undef = .agg #[.int .i64 x0, .int .i64 x1, .int .i64 x2, .string x3, .slice xa xn xc]) ∧ ((listed.setIfInBounds 2 true).getD 1 true = true → tm'.getD 88 undef = .agg #[.int .i64 y0, .int .i64 y1, .int .i64 y2, .int .i64 y3, .string y4, .slice y5 y6 y7, .slice y8 y9 y10]) ∧ ((listed.setIfInBounds 2 true).getD 4 true = true → tm'.getD 8 undef = .int .i64 0) ∧ (putL W bx 0 [.int .i64 x0, .int .i64 x1, .int .i64 x2, .string x3, .slice xa xn xc]).heap[n]? = some (.cells #[.int .i64 x0, .int .i64 x1, .int .i64 x2, .string x3, .slice xa xn xc] 31 (0, 0)) ∧ (putL W bx 0 [.int .i64 x0, .int .i64 x1, .int .i64 x2, .string x3, .slice xa xn xc]).heap[gp]? = some (.cells #[.int .i64 y0, .int .i64 y1, .int .i64 y2, .int .i64 y3, .string y4, .slice y5 y6 y7, .slice y8 y9 y10] 36 (0, 0)) ∧ (∃ cs, (putL W bx 0 [.int .i64 x0, .int .i64 x1, .int .i64 x2, .string x3, .slice xa xn xc]).heap[bx]? = some (.cells cs 31 (0, 0)) ∧ cs.size = 5 ∧ ((listed.setIfInBounds 2 true).getD 2 true = true → cs = #[.int .i64 x0, .int .i64 x1, .int .i64 x2, .string x3, .slice xa xn xc])) ∧ (∃ cs, (putL W bx 0 [.int .i64 x0, .int .i64 x1, .int .i64 x2, .string x3, .slice xa xn xc]).heap[bp]? = some (.cells cs 36 (0, 0)) ∧ cs.size = 7 ∧ ((listed.setIfInBounds 2 true).getD 3 true = true → cs = #[.int .i64 y0, .int .i64 y1, .int .i64 y2, .int .i64 y3, .string y4, .slice y5 y6 y7, .slice y8 y9 y10])) ∧ Inv (putL W bx 0 [.int .i64 x0, .int .i64 x1, .int .i64 x2, .string x3, .slice xa xn xc]) := by
        exact ⟨_, rfl, is, ip3, ip11, ip6, ip7, fun h => iv0 ((set_listed h).resolve_left (by decide)), fun h => iv1 ((set_listed h).resolve_left (by decide)), fun h => iv4 ((set_listed h).resolve_left (by decide)), (putL_other _ _ _ _ nnbx).trans irn, (putL_other _ _ _ _ ngpbx).trans irgp, ⟨_, putL_all _ W bx _ _ ihbx rfl, rfl, fun _ => rfl⟩, ⟨csbp, (putL_other _ _ _ _ (Ne.symm nbxbp)).trans ihbp, izbp, fun h => icbp ((set_listed h).resolve_left (by decide))⟩, hIbx W _ _ ihbx iI⟩
      have HH := Lib.hid HN
      clear HN iI iv0 iv1 iv4 irn irgp ihbx icbx ihbp icbp
      refine wpOp_step rfl (fun K hK => ?_)
      go_simp
      exact hK _ _ HH.out
    · have j1 := iv1 (waited hi hw3_1)
      obtain ⟨c0, c1, c2, c3, c4, c5, c6, rfl⟩ := ar7 izbp
      have t0 := Lib.cell_of_heap ihbp 0
      have f0 := Lib.frozen_of_heap ihbp 0
      have t1 := Lib.cell_of_heap ihbp 1
      have f1 := Lib.frozen_of_heap ihbp 1
      have t2 := Lib.cell_of_heap ihbp 2
      have f2 := Lib.frozen_of_heap ihbp 2
      have t3 := Lib.cell_of_heap ihbp 3
      have f3 := Lib.frozen_of_heap ihbp 3
      have t4 := Lib.cell_of_heap ihbp 4
      have f4 := Lib.frozen_of_heap ihbp 4
      have t5 := Lib.cell_of_heap ihbp 5
      have f5 := Lib.frozen_of_heap ihbp 5
      have t6 := Lib.cell_of_heap ihbp 6
      have f6 := Lib.frozen_of_heap ihbp 6
      have HN : ∃ tm', (⟨tm, df⟩ : Act) = ⟨tm', df⟩ ∧ tm'.size = 89 ∧ tm'.getD 3 undef = .pointer (some ⟨n, 0, none⟩) ∧ tm'.getD 11 undef = .pointer (some ⟨gp, 0, none⟩) ∧ tm'.getD 6 undef = .pointer (some ⟨bx, 0, none⟩) ∧ tm'.getD 7 undef = .pointer (some ⟨bp, 0, none⟩) ∧ ((listed.setIfInBounds 3 true).getD 0 true = true → tm'.getD 87 undef = .agg #[.int .i64 x0, .int .i64 x1, .int .i64 x2, .string x3, .slice xa xn xc]) ∧ ((listed.setIfInBounds 3 true).getD 1 true = true → tm'.getD 88 undef = .agg #[.int .i64 y0, .int .i64 y1, .int .i64 y2, .int .i64 y3, .string y4, .slice y5 y6 y7, .slice y8 y9 y10]) ∧ ((listed.setIfInBounds 3 true).getD 4 true = true → tm'.getD 8 undef = .int .i64 0) ∧ (putL W bp 0 [.int .i64 y0, .int .i64 y1, .int .i64 y2, .int .i64 y3, .string y4, .slice y5 y6 y7, .slice y8 y9 y10]).heap[n]? = some (.cells #[.int .i64 x0, .int .i64 x1, .int .i64 x2, .string x3, .slice xa xn xc] 31 (0, 0)) ∧ (putL W bp 0 [.int .i64 y0, .int .i64 y1, .int .i64 y2, .int .i64 y3, .string y4, .slice y5 y6 y7, .slice y8 y9 y10]).heap[gp]? = some (.cells #[.int .i64 y0, .int .i64 y1, .int .i64 y2, .int .i64 y3, .string y4, .slice y5 y6 y7, .slice y8 y9 y10] 36 (0, 0)) ∧ (∃ cs, (putL W bp 0 [.int .i64 y0, .int .i64 y1, .int .i64 y2, .int .i64 y3, .string y4, .slice y5 y6 y7, .slice y8 y9 y10]).heap[bx]? = some (.cells cs 31 (0, 0)) ∧ cs.size = 5 ∧ ((listed.setIfInBounds 3 true).getD 2 true = true → cs = #[.int .i64 x0, .int .i64 x1, .int .i64 x2, .string x3, .slice xa xn xc])) ∧ (∃ cs, (putL W bp 0 [.int .i64 y0, .int .i64 y1, .int .i64 y2, .int .i64 y3, .string y4, .slice y5 y6 y7, .slice y8 y9 y10]).heap[bp]? = some (.cells cs 36 (0, 0)) ∧ cs.size = 7 ∧ ((listed.setIfInBounds 3 true).getD 3 true = true → cs = #[.int .i64 y0, .int .i64 y1, .int .i64 y2, .int .i64 y3, .string y4, .slice y5 y6 y7, .slice y8 y9 y10])) ∧ Inv (putL W bp 0 [.int .i64 y0, .int .i64 y1, .int .i64 y2, .int .i64 y3, .string y4, .slice y5 y6 y7, .slice y8 y9 y10]) := by
        exact ⟨_, rfl, is, ip3, ip11, ip6, ip7, fun h => iv0 ((set_listed h).resolve_left (by decide)), fun h => iv1 ((set_listed h).resolve_left (by decide)), fun h => iv4 ((set_listed h).resolve_left (by decide)), (putL_other _ _ _ _ nnbp).trans irn, (putL_other _ _ _ _ ngpbp).trans irgp, ⟨csbx, (putL_other _ _ _ _ nbxbp).trans ihbx, izbx, fun h => icbx ((set_listed h).resolve_left (by decide))⟩, ⟨_, putL_all _ W bp _ _ ihbp rfl, rfl, fun _ => rfl⟩, hIbp W _ _ ihbp iI⟩
      have HH := Lib.hid HN
      clear HN iI iv0 iv1 iv4 irn irgp ihbx icbx ihbp icbp
      refine wpOp_step rfl (fun K hK => ?_)
      go_simp
      exact hK _ _ HH.out
    · have hdz : 8 < tm.size := by rw [is]; decide
      have HN : ∃ tm', (⟨tm.setIfInBounds 8 (.int .i64 0), df⟩ : Act) = ⟨tm', df⟩ ∧ tm'.size = 89 ∧ tm'.getD 3 undef = .pointer (some ⟨n, 0, none⟩) ∧ tm'.getD 11 undef = .pointer (some ⟨gp, 0, none⟩) ∧ tm'.getD 6 undef = .pointer (some ⟨bx, 0, none⟩) ∧ tm'.getD 7 undef = .pointer (some ⟨bp, 0, none⟩) ∧ ((listed.setIfInBounds 4 true).getD 0 true = true → tm'.getD 87 undef = .agg #[.int .i64 x0, .int .i64 x1, .int .i64 x2, .string x3, .slice xa xn xc]) ∧ ((listed.setIfInBounds 4 true).getD 1 true = true → tm'.getD 88 undef = .agg #[.int .i64 y0, .int .i64 y1, .int .i64 y2, .int .i64 y3, .string y4, .slice y5 y6 y7, .slice y8 y9 y10]) ∧ ((listed.setIfInBounds 4 true).getD 4 true = true → tm'.getD 8 undef = .int .i64 0) ∧ W.heap[n]? = some (.cells #[.int .i64 x0, .int .i64 x1, .int .i64 x2, .string x3, .slice xa xn xc] 31 (0, 0)) ∧ W.heap[gp]? = some (.cells #[.int .i64 y0, .int .i64 y1, .int .i64 y2, .int .i64 y3, .string y4, .slice y5 y6 y7, .slice y8 y9 y10] 36 (0, 0)) ∧ (∃ cs, W.heap[bx]? = some (.cells cs 31 (0, 0)) ∧ cs.size = 5 ∧ ((listed.setIfInBounds 4 true).getD 2 true = true → cs = #[.int .i64 x0, .int .i64 x1, .int .i64 x2, .string x3, .slice xa xn xc])) ∧ (∃ cs, W.heap[bp]? = some (.cells cs 36 (0, 0)) ∧ cs.size = 7 ∧ ((listed.setIfInBounds 4 true).getD 3 true = true → cs = #[.int .i64 y0, .int .i64 y1, .int .i64 y2, .int .i64 y3, .string y4, .slice y5 y6 y7, .slice y8 y9 y10])) ∧ Inv W := by
        exact ⟨_, rfl, by rw [Array.size_setIfInBounds]; exact is, (getD_ne (by decide)).trans ip3, (getD_ne (by decide)).trans ip11, (getD_ne (by decide)).trans ip6, (getD_ne (by decide)).trans ip7, fun h => (getD_ne (by decide)).trans (iv0 ((set_listed h).resolve_left (by decide))), fun h => (getD_ne (by decide)).trans (iv1 ((set_listed h).resolve_left (by decide))), fun _ => getD_same hdz, irn, irgp, ⟨csbx, ihbx, izbx, fun h => icbx ((set_listed h).resolve_left (by decide))⟩, ⟨csbp, ihbp, izbp, fun h => icbp ((set_listed h).resolve_left (by decide))⟩, iI⟩
      have HH := Lib.hid HN
      clear HN iI iv0 iv1 iv4 irn irgp ihbx icbx ihbp icbp
      refine wpOp_step rfl (fun K hK => ?_)
      go_simp
      exact hK _ _ HH.out

set_option maxRecDepth 100000 in
set_option maxHeartbeats 4000000 in
theorem tailR {id : Nat} {ty0 : TypeId} {po0 : String} {af0 : Array Edge} {ty1 : TypeId} {po1 : String} {af1 : Array Edge} {ty2 : TypeId} {po2 : String} {af2 : Array Edge} {ty3 : TypeId} {po3 : String} {af3 : Array Edge} {ty4 : TypeId} {po4 : String} {af4 : Array Edge} {ty5 : TypeId} {po5 : String} {af5 : Array Edge} {ty6 : TypeId} {po6 : String} {af6 : Array Edge} {ty7 : TypeId} {po7 : String} {af7 : Array Edge} {ty8 : TypeId} {po8 : String} {af8 : Array Edge} {Q : Exit → Act → World → Prop} {tm0 : Array Value} {df : _} {w0 : World} (Inv : World → Prop)
    (bp bx gp m n : Nat) (x0 x1 x2 : Int) (x3 : ByteArray) (xa : Option Addr) (xn xc : Nat) (y1 y2 y3 : Int) (y4 : ByteArray) (y5 : Option Addr) (y6 y7 : Nat) (y8 : Option Addr) (y9 y10 : Nat) (z0 z1 z2 : Int) (z3 : ByteArray) (z4 : Option Addr) (z5 z6 : Nat)
    (hsz : tm0.size = 111)
    (hp3 : tm0.getD 3 undef = .pointer (some ⟨n, 0, none⟩))
    (hp4 : tm0.getD 4 undef = .pointer (some ⟨m, 0, none⟩))
    (hp10 : tm0.getD 10 undef = .pointer (some ⟨gp, 0, none⟩))
    (hp6 : tm0.getD 6 undef = .pointer (some ⟨bx, 0, none⟩))
    (hp7 : tm0.getD 7 undef = .pointer (some ⟨bp, 0, none⟩))
    (hv11 : tm0.getD 11 undef = .slice y8 y9 y10)
    (hrn : w0.heap[n]? = some (.cells #[.int .i64 z0, .int .i64 z1, .int .i64 z2, .string z3, .slice z4 z5 z6] 31 (0, 0)))
    (hrm : w0.heap[m]? = some (.cells #[.int .i64 y1, .int .i64 y2, .int .i64 y3, .string y4, .slice y5 y6 y7] 31 (0, 0)))
    (hrgp : w0.heap[gp]? = some (.cells #[.int .i64 x0, .int .i64 x1, .int .i64 x2, .string x3, .slice xa xn xc] 31 (0, 0)))
    (hdbx : ∃ cs, w0.heap[bx]? = some (.cells cs 31 (0, 0)) ∧ cs.size = 5)
    (hdbp : ∃ cs, w0.heap[bp]? = some (.cells cs 36 (0, 0)) ∧ cs.size = 7)
    (nnbx : n ≠ bx)
    (nnbp : n ≠ bp)
    (nmbx : m ≠ bx)
    (nmbp : m ≠ bp)
    (ngpbx : gp ≠ bx)
    (ngpbp : gp ≠ bp)
    (nbxbp : bx ≠ bp)
    (hI0 : Inv w0.drew)
    (hIbx : ∀ W vs cs, W.heap[bx]? = some (.cells cs 31 (0, 0)) → Inv W → Inv (putL W bx 0 vs))
    (hIbp : ∀ W vs cs, W.heap[bp]? = some (.cells cs 36 (0, 0)) → Inv W → Inv (putL W bp 0 vs))
    (hw2_1 : waits .any #[⟨some 105, .load 31 (.tmp 10), ty0, po0, af0, none⟩, ⟨some 106, .fieldAddr 31 (.tmp 3) 0, ty1, po1, af1, none⟩, ⟨some 107, .load 3 (.tmp 106), ty2, po2, af2, none⟩, ⟨some 108, .load 31 (.tmp 4), ty3, po3, af3, none⟩, ⟨some 109, .move (.tmp 11), ty4, po4, af4, none⟩, ⟨some 110, .build 36 #[(0, .tmp 107), (1, .tmp 108), (2, .tmp 109)], ty5, po5, af5, none⟩, ⟨none, .store 31 (.tmp 6) (.tmp 105), ty6, po6, af6, none⟩, ⟨none, .store 36 (.tmp 7) (.tmp 110), ty7, po7, af7, none⟩, ⟨some 8, .assign (.const (.int .i64 0)), ty8, po8, af8, none⟩] 2 1 = true)
    (hw5_2 : waits .any #[⟨some 105, .load 31 (.tmp 10), ty0, po0, af0, none⟩, ⟨some 106, .fieldAddr 31 (.tmp 3) 0, ty1, po1, af1, none⟩, ⟨some 107, .load 3 (.tmp 106), ty2, po2, af2, none⟩, ⟨some 108, .load 31 (.tmp 4), ty3, po3, af3, none⟩, ⟨some 109, .move (.tmp 11), ty4, po4, af4, none⟩, ⟨some 110, .build 36 #[(0, .tmp 107), (1, .tmp 108), (2, .tmp 109)], ty5, po5, af5, none⟩, ⟨none, .store 31 (.tmp 6) (.tmp 105), ty6, po6, af6, none⟩, ⟨none, .store 36 (.tmp 7) (.tmp 110), ty7, po7, af7, none⟩, ⟨some 8, .assign (.const (.int .i64 0)), ty8, po8, af8, none⟩] 5 2 = true)
    (hw5_3 : waits .any #[⟨some 105, .load 31 (.tmp 10), ty0, po0, af0, none⟩, ⟨some 106, .fieldAddr 31 (.tmp 3) 0, ty1, po1, af1, none⟩, ⟨some 107, .load 3 (.tmp 106), ty2, po2, af2, none⟩, ⟨some 108, .load 31 (.tmp 4), ty3, po3, af3, none⟩, ⟨some 109, .move (.tmp 11), ty4, po4, af4, none⟩, ⟨some 110, .build 36 #[(0, .tmp 107), (1, .tmp 108), (2, .tmp 109)], ty5, po5, af5, none⟩, ⟨none, .store 31 (.tmp 6) (.tmp 105), ty6, po6, af6, none⟩, ⟨none, .store 36 (.tmp 7) (.tmp 110), ty7, po7, af7, none⟩, ⟨some 8, .assign (.const (.int .i64 0)), ty8, po8, af8, none⟩] 5 3 = true)
    (hw5_4 : waits .any #[⟨some 105, .load 31 (.tmp 10), ty0, po0, af0, none⟩, ⟨some 106, .fieldAddr 31 (.tmp 3) 0, ty1, po1, af1, none⟩, ⟨some 107, .load 3 (.tmp 106), ty2, po2, af2, none⟩, ⟨some 108, .load 31 (.tmp 4), ty3, po3, af3, none⟩, ⟨some 109, .move (.tmp 11), ty4, po4, af4, none⟩, ⟨some 110, .build 36 #[(0, .tmp 107), (1, .tmp 108), (2, .tmp 109)], ty5, po5, af5, none⟩, ⟨none, .store 31 (.tmp 6) (.tmp 105), ty6, po6, af6, none⟩, ⟨none, .store 36 (.tmp 7) (.tmp 110), ty7, po7, af7, none⟩, ⟨some 8, .assign (.const (.int .i64 0)), ty8, po8, af8, none⟩] 5 4 = true)
    (hw6_0 : waits .any #[⟨some 105, .load 31 (.tmp 10), ty0, po0, af0, none⟩, ⟨some 106, .fieldAddr 31 (.tmp 3) 0, ty1, po1, af1, none⟩, ⟨some 107, .load 3 (.tmp 106), ty2, po2, af2, none⟩, ⟨some 108, .load 31 (.tmp 4), ty3, po3, af3, none⟩, ⟨some 109, .move (.tmp 11), ty4, po4, af4, none⟩, ⟨some 110, .build 36 #[(0, .tmp 107), (1, .tmp 108), (2, .tmp 109)], ty5, po5, af5, none⟩, ⟨none, .store 31 (.tmp 6) (.tmp 105), ty6, po6, af6, none⟩, ⟨none, .store 36 (.tmp 7) (.tmp 110), ty7, po7, af7, none⟩, ⟨some 8, .assign (.const (.int .i64 0)), ty8, po8, af8, none⟩] 6 0 = true)
    (hw7_5 : waits .any #[⟨some 105, .load 31 (.tmp 10), ty0, po0, af0, none⟩, ⟨some 106, .fieldAddr 31 (.tmp 3) 0, ty1, po1, af1, none⟩, ⟨some 107, .load 3 (.tmp 106), ty2, po2, af2, none⟩, ⟨some 108, .load 31 (.tmp 4), ty3, po3, af3, none⟩, ⟨some 109, .move (.tmp 11), ty4, po4, af4, none⟩, ⟨some 110, .build 36 #[(0, .tmp 107), (1, .tmp 108), (2, .tmp 109)], ty5, po5, af5, none⟩, ⟨none, .store 31 (.tmp 6) (.tmp 105), ty6, po6, af6, none⟩, ⟨none, .store 36 (.tmp 7) (.tmp 110), ty7, po7, af7, none⟩, ⟨some 8, .assign (.const (.int .i64 0)), ty8, po8, af8, none⟩] 7 5 = true)
    (hfw : forwardB .any #[⟨some 105, .load 31 (.tmp 10), ty0, po0, af0, none⟩, ⟨some 106, .fieldAddr 31 (.tmp 3) 0, ty1, po1, af1, none⟩, ⟨some 107, .load 3 (.tmp 106), ty2, po2, af2, none⟩, ⟨some 108, .load 31 (.tmp 4), ty3, po3, af3, none⟩, ⟨some 109, .move (.tmp 11), ty4, po4, af4, none⟩, ⟨some 110, .build 36 #[(0, .tmp 107), (1, .tmp 108), (2, .tmp 109)], ty5, po5, af5, none⟩, ⟨none, .store 31 (.tmp 6) (.tmp 105), ty6, po6, af6, none⟩, ⟨none, .store 36 (.tmp 7) (.tmp 110), ty7, po7, af7, none⟩, ⟨some 8, .assign (.const (.int .i64 0)), ty8, po8, af8, none⟩] = true)
    (hQ : ∀ tm W, tm.getD 6 undef = .pointer (some ⟨bx, 0, none⟩) → tm.getD 7 undef = .pointer (some ⟨bp, 0, none⟩) → tm.getD 8 undef = .int .i64 0 → W.heap[bx]? = some (.cells #[.int .i64 x0, .int .i64 x1, .int .i64 x2, .string x3, .slice xa xn xc] 31 (0, 0)) → W.heap[bp]? = some (.cells #[.int .i64 z0, .int .i64 y1, .int .i64 y2, .int .i64 y3, .string y4, .slice y5 y6 y7, .slice y8 y9 y10] 36 (0, 0)) → Inv W → Q .normal ⟨tm, df⟩ W)
    : Code.wp Tryd.prog (.region id #[⟨some 105, .load 31 (.tmp 10), ty0, po0, af0, none⟩, ⟨some 106, .fieldAddr 31 (.tmp 3) 0, ty1, po1, af1, none⟩, ⟨some 107, .load 3 (.tmp 106), ty2, po2, af2, none⟩, ⟨some 108, .load 31 (.tmp 4), ty3, po3, af3, none⟩, ⟨some 109, .move (.tmp 11), ty4, po4, af4, none⟩, ⟨some 110, .build 36 #[(0, .tmp 107), (1, .tmp 108), (2, .tmp 109)], ty5, po5, af5, none⟩, ⟨none, .store 31 (.tmp 6) (.tmp 105), ty6, po6, af6, none⟩, ⟨none, .store 36 (.tmp 7) (.tmp 110), ty7, po7, af7, none⟩, ⟨some 8, .assign (.const (.int .i64 0)), ty8, po8, af8, none⟩] true) Q ⟨tm0, df⟩ w0 := by
  refine wp_region_inv (by kernel_rfl) (fun listed a W => ∃ tm, a = ⟨tm, df⟩ ∧ tm.size = 111 ∧ tm.getD 3 undef = .pointer (some ⟨n, 0, none⟩) ∧ tm.getD 4 undef = .pointer (some ⟨m, 0, none⟩) ∧ tm.getD 10 undef = .pointer (some ⟨gp, 0, none⟩) ∧ tm.getD 6 undef = .pointer (some ⟨bx, 0, none⟩) ∧ tm.getD 7 undef = .pointer (some ⟨bp, 0, none⟩) ∧ tm.getD 11 undef = .slice y8 y9 y10 ∧ (listed.getD 0 true = true → tm.getD 105 undef = .agg #[.int .i64 x0, .int .i64 x1, .int .i64 x2, .string x3, .slice xa xn xc]) ∧ (listed.getD 1 true = true → tm.getD 106 undef = .pointer (some ⟨n, 0, none⟩)) ∧ (listed.getD 2 true = true → tm.getD 107 undef = .int .i64 z0) ∧ (listed.getD 3 true = true → tm.getD 108 undef = .agg #[.int .i64 y1, .int .i64 y2, .int .i64 y3, .string y4, .slice y5 y6 y7]) ∧ (listed.getD 4 true = true → tm.getD 109 undef = .slice y8 y9 y10) ∧ (listed.getD 5 true = true → tm.getD 110 undef = .agg #[.int .i64 z0, .int .i64 y1, .int .i64 y2, .int .i64 y3, .string y4, .slice y5 y6 y7, .slice y8 y9 y10]) ∧ (listed.getD 8 true = true → tm.getD 8 undef = .int .i64 0) ∧ W.heap[n]? = some (.cells #[.int .i64 z0, .int .i64 z1, .int .i64 z2, .string z3, .slice z4 z5 z6] 31 (0, 0)) ∧ W.heap[m]? = some (.cells #[.int .i64 y1, .int .i64 y2, .int .i64 y3, .string y4, .slice y5 y6 y7] 31 (0, 0)) ∧ W.heap[gp]? = some (.cells #[.int .i64 x0, .int .i64 x1, .int .i64 x2, .string x3, .slice xa xn xc] 31 (0, 0)) ∧ (∃ cs, W.heap[bx]? = some (.cells cs 31 (0, 0)) ∧ cs.size = 5 ∧ (listed.getD 6 true = true → cs = #[.int .i64 x0, .int .i64 x1, .int .i64 x2, .string x3, .slice xa xn xc])) ∧ (∃ cs, W.heap[bp]? = some (.cells cs 36 (0, 0)) ∧ cs.size = 7 ∧ (listed.getD 7 true = true → cs = #[.int .i64 z0, .int .i64 y1, .int .i64 y2, .int .i64 y3, .string y4, .slice y5 y6 y7, .slice y8 y9 y10])) ∧ Inv W) ?start ?step ?done
  case start =>
    have no : ∀ m, m < 9 → (Array.replicate 9 false).getD m true = false := fun m hm => by simp [Array.getD, hm]
    obtain ⟨csbx, hhbx, hsbx⟩ := hdbx
    obtain ⟨csbp, hhbp, hsbp⟩ := hdbp
    exact ⟨tm0, rfl, hsz, hp3, hp4, hp10, hp6, hp7, hv11, fun h => Bool.noConfusion ((no 0 (by decide)).symm.trans h), fun h => Bool.noConfusion ((no 1 (by decide)).symm.trans h), fun h => Bool.noConfusion ((no 2 (by decide)).symm.trans h), fun h => Bool.noConfusion ((no 3 (by decide)).symm.trans h), fun h => Bool.noConfusion ((no 4 (by decide)).symm.trans h), fun h => Bool.noConfusion ((no 5 (by decide)).symm.trans h), fun h => Bool.noConfusion ((no 8 (by decide)).symm.trans h), hrn, hrm, hrgp, ⟨csbx, hhbx, hsbx, fun h => Bool.noConfusion ((no 6 (by decide)).symm.trans h)⟩, ⟨csbp, hhbp, hsbp, fun h => Bool.noConfusion ((no 7 (by decide)).symm.trans h)⟩, hI0⟩
  case done =>
    rintro listed a W hs ⟨tm, rfl, is, ip3, ip4, ip10, ip6, ip7, iw11, iv0, iv1, iv2, iv3, iv4, iv5, iv8, irn, irm, irgp, ⟨csbx, ihbx, izbx, icbx⟩, ⟨csbp, ihbp, izbp, icbp⟩, iI⟩ h0
    have hall := all_listedB hfw hs h0
    have ebx := icbx (hall 6)
    subst ebx
    have ebp := icbp (hall 7)
    subst ebp
    exact hQ tm W ip6 ip7 (iv8 (hall 8)) ihbx ihbp iI
  case step =>
    rintro listed a W i hs ⟨tm, rfl, is, ip3, ip4, ip10, ip6, ip7, iw11, iv0, iv1, iv2, iv3, iv4, iv5, iv8, irn, irm, irgp, ⟨csbx, ihbx, izbx, icbx⟩, ⟨csbp, ihbp, izbp, icbp⟩, iI⟩ hi
    have hin : i < 9 := by
      obtain ⟨-, o, ho, -⟩ := mem_ready.1 hi
      exact (Array.getElem?_eq_some_iff.1 ho).1
    have hcases : i = 0 ∨ i = 1 ∨ i = 2 ∨ i = 3 ∨ i = 4 ∨ i = 5 ∨ i = 6 ∨ i = 7 ∨ i = 8 := by omega
    rcases hcases with rfl | rfl | rfl | rfl | rfl | rfl | rfl | rfl | rfl
    · have hdz : 105 < tm.size := by rw [is]; decide
      have t0 := Lib.cell_of_heap irgp 0
      have t1 := Lib.cell_of_heap irgp 1
      have t2 := Lib.cell_of_heap irgp 2
      have t3 := Lib.cell_of_heap irgp 3
      have t4 := Lib.cell_of_heap irgp 4
      have HN : ∃ tm', (⟨tm.setIfInBounds 105 (.agg #[.int .i64 x0, .int .i64 x1, .int .i64 x2, .string x3, .slice xa xn xc]), df⟩ : Act) = ⟨tm', df⟩ ∧ tm'.size = 111 ∧ tm'.getD 3 undef = .pointer (some ⟨n, 0, none⟩) ∧ tm'.getD 4 undef = .pointer (some ⟨m, 0, none⟩) ∧ tm'.getD 10 undef = .pointer (some ⟨gp, 0, none⟩) ∧ tm'.getD 6 undef = .pointer (some ⟨bx, 0, none⟩) ∧ tm'.getD 7 undef = .pointer (some ⟨bp, 0, none⟩) ∧ tm'.getD 11 undef = .slice y8 y9 y10 ∧ ((listed.setIfInBounds 0 true).getD 0 true = true → tm'.getD 105 undef = .agg #[.int .i64 x0, .int .i64 x1, .int .i64 x2, .string x3, .slice xa xn xc]) ∧ ((listed.setIfInBounds 0 true).getD 1 true = true → tm'.getD 106 undef = .pointer (some ⟨n, 0, none⟩)) ∧ ((listed.setIfInBounds 0 true).getD 2 true = true → tm'.getD 107 undef = .int .i64 z0) ∧ ((listed.setIfInBounds 0 true).getD 3 true = true → tm'.getD 108 undef = .agg #[.int .i64 y1, .int .i64 y2, .int .i64 y3, .string y4, .slice y5 y6 y7]) ∧ ((listed.setIfInBounds 0 true).getD 4 true = true → tm'.getD 109 undef = .slice y8 y9 y10) ∧ ((listed.setIfInBounds 0 true).getD 5 true = true → tm'.getD 110 undef = .agg #[.int .i64 z0, .int .i64 y1, .int .i64 y2, .int .i64 y3, .string y4, .slice y5 y6 y7, .slice y8 y9 y10]) ∧ ((listed.setIfInBounds 0 true).getD 8 true = true → tm'.getD 8 undef = .int .i64 0) ∧ W.heap[n]? = some (.cells #[.int .i64 z0, .int .i64 z1, .int .i64 z2, .string z3, .slice z4 z5 z6] 31 (0, 0)) ∧ W.heap[m]? = some (.cells #[.int .i64 y1, .int .i64 y2, .int .i64 y3, .string y4, .slice y5 y6 y7] 31 (0, 0)) ∧ W.heap[gp]? = some (.cells #[.int .i64 x0, .int .i64 x1, .int .i64 x2, .string x3, .slice xa xn xc] 31 (0, 0)) ∧ (∃ cs, W.heap[bx]? = some (.cells cs 31 (0, 0)) ∧ cs.size = 5 ∧ ((listed.setIfInBounds 0 true).getD 6 true = true → cs = #[.int .i64 x0, .int .i64 x1, .int .i64 x2, .string x3, .slice xa xn xc])) ∧ (∃ cs, W.heap[bp]? = some (.cells cs 36 (0, 0)) ∧ cs.size = 7 ∧ ((listed.setIfInBounds 0 true).getD 7 true = true → cs = #[.int .i64 z0, .int .i64 y1, .int .i64 y2, .int .i64 y3, .string y4, .slice y5 y6 y7, .slice y8 y9 y10])) ∧ Inv W := by
        exact ⟨_, rfl, by rw [Array.size_setIfInBounds]; exact is, (getD_ne (by decide)).trans ip3, (getD_ne (by decide)).trans ip4, (getD_ne (by decide)).trans ip10, (getD_ne (by decide)).trans ip6, (getD_ne (by decide)).trans ip7, (getD_ne (by decide)).trans iw11, fun _ => getD_same hdz, fun h => (getD_ne (by decide)).trans (iv1 ((set_listed h).resolve_left (by decide))), fun h => (getD_ne (by decide)).trans (iv2 ((set_listed h).resolve_left (by decide))), fun h => (getD_ne (by decide)).trans (iv3 ((set_listed h).resolve_left (by decide))), fun h => (getD_ne (by decide)).trans (iv4 ((set_listed h).resolve_left (by decide))), fun h => (getD_ne (by decide)).trans (iv5 ((set_listed h).resolve_left (by decide))), fun h => (getD_ne (by decide)).trans (iv8 ((set_listed h).resolve_left (by decide))), irn, irm, irgp, ⟨csbx, ihbx, izbx, fun h => icbx ((set_listed h).resolve_left (by decide))⟩, ⟨csbp, ihbp, izbp, fun h => icbp ((set_listed h).resolve_left (by decide))⟩, iI⟩
      have HH := Lib.hid HN
      clear HN iI iv0 iv1 iv2 iv3 iv4 iv5 iv8 irn irm irgp ihbx icbx ihbp icbp
      refine wpOp_step rfl (fun K hK => ?_)
      go_simp
      exact hK _ _ HH.out
    · have hdz : 106 < tm.size := by rw [is]; decide
      have HN : ∃ tm', (⟨tm.setIfInBounds 106 (.pointer (some ⟨n, 0, none⟩)), df⟩ : Act) = ⟨tm', df⟩ ∧ tm'.size = 111 ∧ tm'.getD 3 undef = .pointer (some ⟨n, 0, none⟩) ∧ tm'.getD 4 undef = .pointer (some ⟨m, 0, none⟩) ∧ tm'.getD 10 undef = .pointer (some ⟨gp, 0, none⟩) ∧ tm'.getD 6 undef = .pointer (some ⟨bx, 0, none⟩) ∧ tm'.getD 7 undef = .pointer (some ⟨bp, 0, none⟩) ∧ tm'.getD 11 undef = .slice y8 y9 y10 ∧ ((listed.setIfInBounds 1 true).getD 0 true = true → tm'.getD 105 undef = .agg #[.int .i64 x0, .int .i64 x1, .int .i64 x2, .string x3, .slice xa xn xc]) ∧ ((listed.setIfInBounds 1 true).getD 1 true = true → tm'.getD 106 undef = .pointer (some ⟨n, 0, none⟩)) ∧ ((listed.setIfInBounds 1 true).getD 2 true = true → tm'.getD 107 undef = .int .i64 z0) ∧ ((listed.setIfInBounds 1 true).getD 3 true = true → tm'.getD 108 undef = .agg #[.int .i64 y1, .int .i64 y2, .int .i64 y3, .string y4, .slice y5 y6 y7]) ∧ ((listed.setIfInBounds 1 true).getD 4 true = true → tm'.getD 109 undef = .slice y8 y9 y10) ∧ ((listed.setIfInBounds 1 true).getD 5 true = true → tm'.getD 110 undef = .agg #[.int .i64 z0, .int .i64 y1, .int .i64 y2, .int .i64 y3, .string y4, .slice y5 y6 y7, .slice y8 y9 y10]) ∧ ((listed.setIfInBounds 1 true).getD 8 true = true → tm'.getD 8 undef = .int .i64 0) ∧ W.heap[n]? = some (.cells #[.int .i64 z0, .int .i64 z1, .int .i64 z2, .string z3, .slice z4 z5 z6] 31 (0, 0)) ∧ W.heap[m]? = some (.cells #[.int .i64 y1, .int .i64 y2, .int .i64 y3, .string y4, .slice y5 y6 y7] 31 (0, 0)) ∧ W.heap[gp]? = some (.cells #[.int .i64 x0, .int .i64 x1, .int .i64 x2, .string x3, .slice xa xn xc] 31 (0, 0)) ∧ (∃ cs, W.heap[bx]? = some (.cells cs 31 (0, 0)) ∧ cs.size = 5 ∧ ((listed.setIfInBounds 1 true).getD 6 true = true → cs = #[.int .i64 x0, .int .i64 x1, .int .i64 x2, .string x3, .slice xa xn xc])) ∧ (∃ cs, W.heap[bp]? = some (.cells cs 36 (0, 0)) ∧ cs.size = 7 ∧ ((listed.setIfInBounds 1 true).getD 7 true = true → cs = #[.int .i64 z0, .int .i64 y1, .int .i64 y2, .int .i64 y3, .string y4, .slice y5 y6 y7, .slice y8 y9 y10])) ∧ Inv W := by
        exact ⟨_, rfl, by rw [Array.size_setIfInBounds]; exact is, (getD_ne (by decide)).trans ip3, (getD_ne (by decide)).trans ip4, (getD_ne (by decide)).trans ip10, (getD_ne (by decide)).trans ip6, (getD_ne (by decide)).trans ip7, (getD_ne (by decide)).trans iw11, fun h => (getD_ne (by decide)).trans (iv0 ((set_listed h).resolve_left (by decide))), fun _ => getD_same hdz, fun h => (getD_ne (by decide)).trans (iv2 ((set_listed h).resolve_left (by decide))), fun h => (getD_ne (by decide)).trans (iv3 ((set_listed h).resolve_left (by decide))), fun h => (getD_ne (by decide)).trans (iv4 ((set_listed h).resolve_left (by decide))), fun h => (getD_ne (by decide)).trans (iv5 ((set_listed h).resolve_left (by decide))), fun h => (getD_ne (by decide)).trans (iv8 ((set_listed h).resolve_left (by decide))), irn, irm, irgp, ⟨csbx, ihbx, izbx, fun h => icbx ((set_listed h).resolve_left (by decide))⟩, ⟨csbp, ihbp, izbp, fun h => icbp ((set_listed h).resolve_left (by decide))⟩, iI⟩
      have HH := Lib.hid HN
      clear HN iI iv0 iv1 iv2 iv3 iv4 iv5 iv8 irn irm irgp ihbx icbx ihbp icbp
      refine wpOp_step rfl (fun K hK => ?_)
      go_simp
      exact hK _ _ HH.out
    · have hdz : 107 < tm.size := by rw [is]; decide
      have j1 := iv1 (waited hi hw2_1)
      have t0 := Lib.cell_of_heap irn 0
      have t1 := Lib.cell_of_heap irn 1
      have t2 := Lib.cell_of_heap irn 2
      have t3 := Lib.cell_of_heap irn 3
      have t4 := Lib.cell_of_heap irn 4
      have HN : ∃ tm', (⟨tm.setIfInBounds 107 (.int .i64 z0), df⟩ : Act) = ⟨tm', df⟩ ∧ tm'.size = 111 ∧ tm'.getD 3 undef = .pointer (some ⟨n, 0, none⟩) ∧ tm'.getD 4 undef = .pointer (some ⟨m, 0, none⟩) ∧ tm'.getD 10 undef = .pointer (some ⟨gp, 0, none⟩) ∧ tm'.getD 6 undef = .pointer (some ⟨bx, 0, none⟩) ∧ tm'.getD 7 undef = .pointer (some ⟨bp, 0, none⟩) ∧ tm'.getD 11 undef = .slice y8 y9 y10 ∧ ((listed.setIfInBounds 2 true).getD 0 true = true → tm'.getD 105 undef = .agg #[.int .i64 x0, .int .i64 x1, .int .i64 x2, .string x3, .slice xa xn xc]) ∧ ((listed.setIfInBounds 2 true).getD 1 true = true → tm'.getD 106 undef = .pointer (some ⟨n, 0, none⟩)) ∧ ((listed.setIfInBounds 2 true).getD 2 true = true → tm'.getD 107 undef = .int .i64 z0) ∧ ((listed.setIfInBounds 2 true).getD 3 true = true → tm'.getD 108 undef = .agg #[.int .i64 y1, .int .i64 y2, .int .i64 y3, .string y4, .slice y5 y6 y7]) ∧ ((listed.setIfInBounds 2 true).getD 4 true = true → tm'.getD 109 undef = .slice y8 y9 y10) ∧ ((listed.setIfInBounds 2 true).getD 5 true = true → tm'.getD 110 undef = .agg #[.int .i64 z0, .int .i64 y1, .int .i64 y2, .int .i64 y3, .string y4, .slice y5 y6 y7, .slice y8 y9 y10]) ∧ ((listed.setIfInBounds 2 true).getD 8 true = true → tm'.getD 8 undef = .int .i64 0) ∧ W.heap[n]? = some (.cells #[.int .i64 z0, .int .i64 z1, .int .i64 z2, .string z3, .slice z4 z5 z6] 31 (0, 0)) ∧ W.heap[m]? = some (.cells #[.int .i64 y1, .int .i64 y2, .int .i64 y3, .string y4, .slice y5 y6 y7] 31 (0, 0)) ∧ W.heap[gp]? = some (.cells #[.int .i64 x0, .int .i64 x1, .int .i64 x2, .string x3, .slice xa xn xc] 31 (0, 0)) ∧ (∃ cs, W.heap[bx]? = some (.cells cs 31 (0, 0)) ∧ cs.size = 5 ∧ ((listed.setIfInBounds 2 true).getD 6 true = true → cs = #[.int .i64 x0, .int .i64 x1, .int .i64 x2, .string x3, .slice xa xn xc])) ∧ (∃ cs, W.heap[bp]? = some (.cells cs 36 (0, 0)) ∧ cs.size = 7 ∧ ((listed.setIfInBounds 2 true).getD 7 true = true → cs = #[.int .i64 z0, .int .i64 y1, .int .i64 y2, .int .i64 y3, .string y4, .slice y5 y6 y7, .slice y8 y9 y10])) ∧ Inv W := by
        exact ⟨_, rfl, by rw [Array.size_setIfInBounds]; exact is, (getD_ne (by decide)).trans ip3, (getD_ne (by decide)).trans ip4, (getD_ne (by decide)).trans ip10, (getD_ne (by decide)).trans ip6, (getD_ne (by decide)).trans ip7, (getD_ne (by decide)).trans iw11, fun h => (getD_ne (by decide)).trans (iv0 ((set_listed h).resolve_left (by decide))), fun h => (getD_ne (by decide)).trans (iv1 ((set_listed h).resolve_left (by decide))), fun _ => getD_same hdz, fun h => (getD_ne (by decide)).trans (iv3 ((set_listed h).resolve_left (by decide))), fun h => (getD_ne (by decide)).trans (iv4 ((set_listed h).resolve_left (by decide))), fun h => (getD_ne (by decide)).trans (iv5 ((set_listed h).resolve_left (by decide))), fun h => (getD_ne (by decide)).trans (iv8 ((set_listed h).resolve_left (by decide))), irn, irm, irgp, ⟨csbx, ihbx, izbx, fun h => icbx ((set_listed h).resolve_left (by decide))⟩, ⟨csbp, ihbp, izbp, fun h => icbp ((set_listed h).resolve_left (by decide))⟩, iI⟩
      have HH := Lib.hid HN
      clear HN iI iv0 iv1 iv2 iv3 iv4 iv5 iv8 irn irm irgp ihbx icbx ihbp icbp
      refine wpOp_step rfl (fun K hK => ?_)
      go_simp
      exact hK _ _ HH.out
    · have hdz : 108 < tm.size := by rw [is]; decide
      have t0 := Lib.cell_of_heap irm 0
      have t1 := Lib.cell_of_heap irm 1
      have t2 := Lib.cell_of_heap irm 2
      have t3 := Lib.cell_of_heap irm 3
      have t4 := Lib.cell_of_heap irm 4
      have HN : ∃ tm', (⟨tm.setIfInBounds 108 (.agg #[.int .i64 y1, .int .i64 y2, .int .i64 y3, .string y4, .slice y5 y6 y7]), df⟩ : Act) = ⟨tm', df⟩ ∧ tm'.size = 111 ∧ tm'.getD 3 undef = .pointer (some ⟨n, 0, none⟩) ∧ tm'.getD 4 undef = .pointer (some ⟨m, 0, none⟩) ∧ tm'.getD 10 undef = .pointer (some ⟨gp, 0, none⟩) ∧ tm'.getD 6 undef = .pointer (some ⟨bx, 0, none⟩) ∧ tm'.getD 7 undef = .pointer (some ⟨bp, 0, none⟩) ∧ tm'.getD 11 undef = .slice y8 y9 y10 ∧ ((listed.setIfInBounds 3 true).getD 0 true = true → tm'.getD 105 undef = .agg #[.int .i64 x0, .int .i64 x1, .int .i64 x2, .string x3, .slice xa xn xc]) ∧ ((listed.setIfInBounds 3 true).getD 1 true = true → tm'.getD 106 undef = .pointer (some ⟨n, 0, none⟩)) ∧ ((listed.setIfInBounds 3 true).getD 2 true = true → tm'.getD 107 undef = .int .i64 z0) ∧ ((listed.setIfInBounds 3 true).getD 3 true = true → tm'.getD 108 undef = .agg #[.int .i64 y1, .int .i64 y2, .int .i64 y3, .string y4, .slice y5 y6 y7]) ∧ ((listed.setIfInBounds 3 true).getD 4 true = true → tm'.getD 109 undef = .slice y8 y9 y10) ∧ ((listed.setIfInBounds 3 true).getD 5 true = true → tm'.getD 110 undef = .agg #[.int .i64 z0, .int .i64 y1, .int .i64 y2, .int .i64 y3, .string y4, .slice y5 y6 y7, .slice y8 y9 y10]) ∧ ((listed.setIfInBounds 3 true).getD 8 true = true → tm'.getD 8 undef = .int .i64 0) ∧ W.heap[n]? = some (.cells #[.int .i64 z0, .int .i64 z1, .int .i64 z2, .string z3, .slice z4 z5 z6] 31 (0, 0)) ∧ W.heap[m]? = some (.cells #[.int .i64 y1, .int .i64 y2, .int .i64 y3, .string y4, .slice y5 y6 y7] 31 (0, 0)) ∧ W.heap[gp]? = some (.cells #[.int .i64 x0, .int .i64 x1, .int .i64 x2, .string x3, .slice xa xn xc] 31 (0, 0)) ∧ (∃ cs, W.heap[bx]? = some (.cells cs 31 (0, 0)) ∧ cs.size = 5 ∧ ((listed.setIfInBounds 3 true).getD 6 true = true → cs = #[.int .i64 x0, .int .i64 x1, .int .i64 x2, .string x3, .slice xa xn xc])) ∧ (∃ cs, W.heap[bp]? = some (.cells cs 36 (0, 0)) ∧ cs.size = 7 ∧ ((listed.setIfInBounds 3 true).getD 7 true = true → cs = #[.int .i64 z0, .int .i64 y1, .int .i64 y2, .int .i64 y3, .string y4, .slice y5 y6 y7, .slice y8 y9 y10])) ∧ Inv W := by
        exact ⟨_, rfl, by rw [Array.size_setIfInBounds]; exact is, (getD_ne (by decide)).trans ip3, (getD_ne (by decide)).trans ip4, (getD_ne (by decide)).trans ip10, (getD_ne (by decide)).trans ip6, (getD_ne (by decide)).trans ip7, (getD_ne (by decide)).trans iw11, fun h => (getD_ne (by decide)).trans (iv0 ((set_listed h).resolve_left (by decide))), fun h => (getD_ne (by decide)).trans (iv1 ((set_listed h).resolve_left (by decide))), fun h => (getD_ne (by decide)).trans (iv2 ((set_listed h).resolve_left (by decide))), fun _ => getD_same hdz, fun h => (getD_ne (by decide)).trans (iv4 ((set_listed h).resolve_left (by decide))), fun h => (getD_ne (by decide)).trans (iv5 ((set_listed h).resolve_left (by decide))), fun h => (getD_ne (by decide)).trans (iv8 ((set_listed h).resolve_left (by decide))), irn, irm, irgp, ⟨csbx, ihbx, izbx, fun h => icbx ((set_listed h).resolve_left (by decide))⟩, ⟨csbp, ihbp, izbp, fun h => icbp ((set_listed h).resolve_left (by decide))⟩, iI⟩
      have HH := Lib.hid HN
      clear HN iI iv0 iv1 iv2 iv3 iv4 iv5 iv8 irn irm irgp ihbx icbx ihbp icbp
      refine wpOp_step rfl (fun K hK => ?_)
      go_simp
      exact hK _ _ HH.out
    · have hdz : 109 < tm.size := by rw [is]; decide
      have HN : ∃ tm', (⟨tm.setIfInBounds 109 (.slice y8 y9 y10), df⟩ : Act) = ⟨tm', df⟩ ∧ tm'.size = 111 ∧ tm'.getD 3 undef = .pointer (some ⟨n, 0, none⟩) ∧ tm'.getD 4 undef = .pointer (some ⟨m, 0, none⟩) ∧ tm'.getD 10 undef = .pointer (some ⟨gp, 0, none⟩) ∧ tm'.getD 6 undef = .pointer (some ⟨bx, 0, none⟩) ∧ tm'.getD 7 undef = .pointer (some ⟨bp, 0, none⟩) ∧ tm'.getD 11 undef = .slice y8 y9 y10 ∧ ((listed.setIfInBounds 4 true).getD 0 true = true → tm'.getD 105 undef = .agg #[.int .i64 x0, .int .i64 x1, .int .i64 x2, .string x3, .slice xa xn xc]) ∧ ((listed.setIfInBounds 4 true).getD 1 true = true → tm'.getD 106 undef = .pointer (some ⟨n, 0, none⟩)) ∧ ((listed.setIfInBounds 4 true).getD 2 true = true → tm'.getD 107 undef = .int .i64 z0) ∧ ((listed.setIfInBounds 4 true).getD 3 true = true → tm'.getD 108 undef = .agg #[.int .i64 y1, .int .i64 y2, .int .i64 y3, .string y4, .slice y5 y6 y7]) ∧ ((listed.setIfInBounds 4 true).getD 4 true = true → tm'.getD 109 undef = .slice y8 y9 y10) ∧ ((listed.setIfInBounds 4 true).getD 5 true = true → tm'.getD 110 undef = .agg #[.int .i64 z0, .int .i64 y1, .int .i64 y2, .int .i64 y3, .string y4, .slice y5 y6 y7, .slice y8 y9 y10]) ∧ ((listed.setIfInBounds 4 true).getD 8 true = true → tm'.getD 8 undef = .int .i64 0) ∧ W.heap[n]? = some (.cells #[.int .i64 z0, .int .i64 z1, .int .i64 z2, .string z3, .slice z4 z5 z6] 31 (0, 0)) ∧ W.heap[m]? = some (.cells #[.int .i64 y1, .int .i64 y2, .int .i64 y3, .string y4, .slice y5 y6 y7] 31 (0, 0)) ∧ W.heap[gp]? = some (.cells #[.int .i64 x0, .int .i64 x1, .int .i64 x2, .string x3, .slice xa xn xc] 31 (0, 0)) ∧ (∃ cs, W.heap[bx]? = some (.cells cs 31 (0, 0)) ∧ cs.size = 5 ∧ ((listed.setIfInBounds 4 true).getD 6 true = true → cs = #[.int .i64 x0, .int .i64 x1, .int .i64 x2, .string x3, .slice xa xn xc])) ∧ (∃ cs, W.heap[bp]? = some (.cells cs 36 (0, 0)) ∧ cs.size = 7 ∧ ((listed.setIfInBounds 4 true).getD 7 true = true → cs = #[.int .i64 z0, .int .i64 y1, .int .i64 y2, .int .i64 y3, .string y4, .slice y5 y6 y7, .slice y8 y9 y10])) ∧ Inv W := by
        exact ⟨_, rfl, by rw [Array.size_setIfInBounds]; exact is, (getD_ne (by decide)).trans ip3, (getD_ne (by decide)).trans ip4, (getD_ne (by decide)).trans ip10, (getD_ne (by decide)).trans ip6, (getD_ne (by decide)).trans ip7, (getD_ne (by decide)).trans iw11, fun h => (getD_ne (by decide)).trans (iv0 ((set_listed h).resolve_left (by decide))), fun h => (getD_ne (by decide)).trans (iv1 ((set_listed h).resolve_left (by decide))), fun h => (getD_ne (by decide)).trans (iv2 ((set_listed h).resolve_left (by decide))), fun h => (getD_ne (by decide)).trans (iv3 ((set_listed h).resolve_left (by decide))), fun _ => getD_same hdz, fun h => (getD_ne (by decide)).trans (iv5 ((set_listed h).resolve_left (by decide))), fun h => (getD_ne (by decide)).trans (iv8 ((set_listed h).resolve_left (by decide))), irn, irm, irgp, ⟨csbx, ihbx, izbx, fun h => icbx ((set_listed h).resolve_left (by decide))⟩, ⟨csbp, ihbp, izbp, fun h => icbp ((set_listed h).resolve_left (by decide))⟩, iI⟩
      have HH := Lib.hid HN
      clear HN iI iv0 iv1 iv2 iv3 iv4 iv5 iv8 irn irm irgp ihbx icbx ihbp icbp
      refine wpOp_step rfl (fun K hK => ?_)
      go_simp
      exact hK _ _ HH.out
    · have hdz : 110 < tm.size := by rw [is]; decide
      have j2 := iv2 (waited hi hw5_2)
      have j3 := iv3 (waited hi hw5_3)
      have j4 := iv4 (waited hi hw5_4)
      have k2 : tm[107]'(by rw [is]; decide) = .int .i64 z0 := by rw [← j2]; simp [Array.getD, is]
      have k3 : tm[108]'(by rw [is]; decide) = .agg #[.int .i64 y1, .int .i64 y2, .int .i64 y3, .string y4, .slice y5 y6 y7] := by rw [← j3]; simp [Array.getD, is]
      have k4 : tm[109]'(by rw [is]; decide) = .slice y8 y9 y10 := by rw [← j4]; simp [Array.getD, is]
      have HN : ∃ tm', (⟨tm.setIfInBounds 110 (.agg #[.int .i64 z0, .int .i64 y1, .int .i64 y2, .int .i64 y3, .string y4, .slice y5 y6 y7, .slice y8 y9 y10]), df⟩ : Act) = ⟨tm', df⟩ ∧ tm'.size = 111 ∧ tm'.getD 3 undef = .pointer (some ⟨n, 0, none⟩) ∧ tm'.getD 4 undef = .pointer (some ⟨m, 0, none⟩) ∧ tm'.getD 10 undef = .pointer (some ⟨gp, 0, none⟩) ∧ tm'.getD 6 undef = .pointer (some ⟨bx, 0, none⟩) ∧ tm'.getD 7 undef = .pointer (some ⟨bp, 0, none⟩) ∧ tm'.getD 11 undef = .slice y8 y9 y10 ∧ ((listed.setIfInBounds 5 true).getD 0 true = true → tm'.getD 105 undef = .agg #[.int .i64 x0, .int .i64 x1, .int .i64 x2, .string x3, .slice xa xn xc]) ∧ ((listed.setIfInBounds 5 true).getD 1 true = true → tm'.getD 106 undef = .pointer (some ⟨n, 0, none⟩)) ∧ ((listed.setIfInBounds 5 true).getD 2 true = true → tm'.getD 107 undef = .int .i64 z0) ∧ ((listed.setIfInBounds 5 true).getD 3 true = true → tm'.getD 108 undef = .agg #[.int .i64 y1, .int .i64 y2, .int .i64 y3, .string y4, .slice y5 y6 y7]) ∧ ((listed.setIfInBounds 5 true).getD 4 true = true → tm'.getD 109 undef = .slice y8 y9 y10) ∧ ((listed.setIfInBounds 5 true).getD 5 true = true → tm'.getD 110 undef = .agg #[.int .i64 z0, .int .i64 y1, .int .i64 y2, .int .i64 y3, .string y4, .slice y5 y6 y7, .slice y8 y9 y10]) ∧ ((listed.setIfInBounds 5 true).getD 8 true = true → tm'.getD 8 undef = .int .i64 0) ∧ W.heap[n]? = some (.cells #[.int .i64 z0, .int .i64 z1, .int .i64 z2, .string z3, .slice z4 z5 z6] 31 (0, 0)) ∧ W.heap[m]? = some (.cells #[.int .i64 y1, .int .i64 y2, .int .i64 y3, .string y4, .slice y5 y6 y7] 31 (0, 0)) ∧ W.heap[gp]? = some (.cells #[.int .i64 x0, .int .i64 x1, .int .i64 x2, .string x3, .slice xa xn xc] 31 (0, 0)) ∧ (∃ cs, W.heap[bx]? = some (.cells cs 31 (0, 0)) ∧ cs.size = 5 ∧ ((listed.setIfInBounds 5 true).getD 6 true = true → cs = #[.int .i64 x0, .int .i64 x1, .int .i64 x2, .string x3, .slice xa xn xc])) ∧ (∃ cs, W.heap[bp]? = some (.cells cs 36 (0, 0)) ∧ cs.size = 7 ∧ ((listed.setIfInBounds 5 true).getD 7 true = true → cs = #[.int .i64 z0, .int .i64 y1, .int .i64 y2, .int .i64 y3, .string y4, .slice y5 y6 y7, .slice y8 y9 y10])) ∧ Inv W := by
        exact ⟨_, rfl, by rw [Array.size_setIfInBounds]; exact is, (getD_ne (by decide)).trans ip3, (getD_ne (by decide)).trans ip4, (getD_ne (by decide)).trans ip10, (getD_ne (by decide)).trans ip6, (getD_ne (by decide)).trans ip7, (getD_ne (by decide)).trans iw11, fun h => (getD_ne (by decide)).trans (iv0 ((set_listed h).resolve_left (by decide))), fun h => (getD_ne (by decide)).trans (iv1 ((set_listed h).resolve_left (by decide))), fun h => (getD_ne (by decide)).trans (iv2 ((set_listed h).resolve_left (by decide))), fun h => (getD_ne (by decide)).trans (iv3 ((set_listed h).resolve_left (by decide))), fun h => (getD_ne (by decide)).trans (iv4 ((set_listed h).resolve_left (by decide))), fun _ => getD_same hdz, fun h => (getD_ne (by decide)).trans (iv8 ((set_listed h).resolve_left (by decide))), irn, irm, irgp, ⟨csbx, ihbx, izbx, fun h => icbx ((set_listed h).resolve_left (by decide))⟩, ⟨csbp, ihbp, izbp, fun h => icbp ((set_listed h).resolve_left (by decide))⟩, iI⟩
      have HH := Lib.hid HN
      clear HN iI iv0 iv1 iv2 iv3 iv4 iv5 iv8 irn irm irgp ihbx icbx ihbp icbp
      refine wpOp_step rfl (fun K hK => ?_)
      go_simp
      exact hK _ _ HH.out
    · have j0 := iv0 (waited hi hw6_0)
      obtain ⟨c0, c1, c2, c3, c4, rfl⟩ := ar5 izbx
      have t0 := Lib.cell_of_heap ihbx 0
      have f0 := Lib.frozen_of_heap ihbx 0
      have t1 := Lib.cell_of_heap ihbx 1
      have f1 := Lib.frozen_of_heap ihbx 1
      have t2 := Lib.cell_of_heap ihbx 2
      have f2 := Lib.frozen_of_heap ihbx 2
      have t3 := Lib.cell_of_heap ihbx 3
      have f3 := Lib.frozen_of_heap ihbx 3
      have t4 := Lib.cell_of_heap ihbx 4
      have f4 := Lib.frozen_of_heap ihbx 4
      have HN : ∃ tm', (⟨tm, df⟩ : Act) = ⟨tm', df⟩ ∧ tm'.size = 111 ∧ tm'.getD 3 undef = .pointer (some ⟨n, 0, none⟩) ∧ tm'.getD 4 undef = .pointer (some ⟨m, 0, none⟩) ∧ tm'.getD 10 undef = .pointer (some ⟨gp, 0, none⟩) ∧ tm'.getD 6 undef = .pointer (some ⟨bx, 0, none⟩) ∧ tm'.getD 7 undef = .pointer (some ⟨bp, 0, none⟩) ∧ tm'.getD 11 undef = .slice y8 y9 y10 ∧ ((listed.setIfInBounds 6 true).getD 0 true = true → tm'.getD 105 undef = .agg #[.int .i64 x0, .int .i64 x1, .int .i64 x2, .string x3, .slice xa xn xc]) ∧ ((listed.setIfInBounds 6 true).getD 1 true = true → tm'.getD 106 undef = .pointer (some ⟨n, 0, none⟩)) ∧ ((listed.setIfInBounds 6 true).getD 2 true = true → tm'.getD 107 undef = .int .i64 z0) ∧ ((listed.setIfInBounds 6 true).getD 3 true = true → tm'.getD 108 undef = .agg #[.int .i64 y1, .int .i64 y2, .int .i64 y3, .string y4, .slice y5 y6 y7]) ∧ ((listed.setIfInBounds 6 true).getD 4 true = true → tm'.getD 109 undef = .slice y8 y9 y10) ∧ ((listed.setIfInBounds 6 true).getD 5 true = true → tm'.getD 110 undef = .agg #[.int .i64 z0, .int .i64 y1, .int .i64 y2, .int .i64 y3, .string y4, .slice y5 y6 y7, .slice y8 y9 y10]) ∧ ((listed.setIfInBounds 6 true).getD 8 true = true → tm'.getD 8 undef = .int .i64 0) ∧ (putL W bx 0 [.int .i64 x0, .int .i64 x1, .int .i64 x2, .string x3, .slice xa xn xc]).heap[n]? = some (.cells #[.int .i64 z0, .int .i64 z1, .int .i64 z2, .string z3, .slice z4 z5 z6] 31 (0, 0)) ∧ (putL W bx 0 [.int .i64 x0, .int .i64 x1, .int .i64 x2, .string x3, .slice xa xn xc]).heap[m]? = some (.cells #[.int .i64 y1, .int .i64 y2, .int .i64 y3, .string y4, .slice y5 y6 y7] 31 (0, 0)) ∧ (putL W bx 0 [.int .i64 x0, .int .i64 x1, .int .i64 x2, .string x3, .slice xa xn xc]).heap[gp]? = some (.cells #[.int .i64 x0, .int .i64 x1, .int .i64 x2, .string x3, .slice xa xn xc] 31 (0, 0)) ∧ (∃ cs, (putL W bx 0 [.int .i64 x0, .int .i64 x1, .int .i64 x2, .string x3, .slice xa xn xc]).heap[bx]? = some (.cells cs 31 (0, 0)) ∧ cs.size = 5 ∧ ((listed.setIfInBounds 6 true).getD 6 true = true → cs = #[.int .i64 x0, .int .i64 x1, .int .i64 x2, .string x3, .slice xa xn xc])) ∧ (∃ cs, (putL W bx 0 [.int .i64 x0, .int .i64 x1, .int .i64 x2, .string x3, .slice xa xn xc]).heap[bp]? = some (.cells cs 36 (0, 0)) ∧ cs.size = 7 ∧ ((listed.setIfInBounds 6 true).getD 7 true = true → cs = #[.int .i64 z0, .int .i64 y1, .int .i64 y2, .int .i64 y3, .string y4, .slice y5 y6 y7, .slice y8 y9 y10])) ∧ Inv (putL W bx 0 [.int .i64 x0, .int .i64 x1, .int .i64 x2, .string x3, .slice xa xn xc]) := by
        exact ⟨_, rfl, is, ip3, ip4, ip10, ip6, ip7, iw11, fun h => iv0 ((set_listed h).resolve_left (by decide)), fun h => iv1 ((set_listed h).resolve_left (by decide)), fun h => iv2 ((set_listed h).resolve_left (by decide)), fun h => iv3 ((set_listed h).resolve_left (by decide)), fun h => iv4 ((set_listed h).resolve_left (by decide)), fun h => iv5 ((set_listed h).resolve_left (by decide)), fun h => iv8 ((set_listed h).resolve_left (by decide)), (putL_other _ _ _ _ nnbx).trans irn, (putL_other _ _ _ _ nmbx).trans irm, (putL_other _ _ _ _ ngpbx).trans irgp, ⟨_, putL_all _ W bx _ _ ihbx rfl, rfl, fun _ => rfl⟩, ⟨csbp, (putL_other _ _ _ _ (Ne.symm nbxbp)).trans ihbp, izbp, fun h => icbp ((set_listed h).resolve_left (by decide))⟩, hIbx W _ _ ihbx iI⟩
      have HH := Lib.hid HN
      clear HN iI iv0 iv1 iv2 iv3 iv4 iv5 iv8 irn irm irgp ihbx icbx ihbp icbp
      refine wpOp_step rfl (fun K hK => ?_)
      go_simp
      exact hK _ _ HH.out
    · have j5 := iv5 (waited hi hw7_5)
      obtain ⟨c0, c1, c2, c3, c4, c5, c6, rfl⟩ := ar7 izbp
      have t0 := Lib.cell_of_heap ihbp 0
      have f0 := Lib.frozen_of_heap ihbp 0
      have t1 := Lib.cell_of_heap ihbp 1
      have f1 := Lib.frozen_of_heap ihbp 1
      have t2 := Lib.cell_of_heap ihbp 2
      have f2 := Lib.frozen_of_heap ihbp 2
      have t3 := Lib.cell_of_heap ihbp 3
      have f3 := Lib.frozen_of_heap ihbp 3
      have t4 := Lib.cell_of_heap ihbp 4
      have f4 := Lib.frozen_of_heap ihbp 4
      have t5 := Lib.cell_of_heap ihbp 5
      have f5 := Lib.frozen_of_heap ihbp 5
      have t6 := Lib.cell_of_heap ihbp 6
      have f6 := Lib.frozen_of_heap ihbp 6
      have HN : ∃ tm', (⟨tm, df⟩ : Act) = ⟨tm', df⟩ ∧ tm'.size = 111 ∧ tm'.getD 3 undef = .pointer (some ⟨n, 0, none⟩) ∧ tm'.getD 4 undef = .pointer (some ⟨m, 0, none⟩) ∧ tm'.getD 10 undef = .pointer (some ⟨gp, 0, none⟩) ∧ tm'.getD 6 undef = .pointer (some ⟨bx, 0, none⟩) ∧ tm'.getD 7 undef = .pointer (some ⟨bp, 0, none⟩) ∧ tm'.getD 11 undef = .slice y8 y9 y10 ∧ ((listed.setIfInBounds 7 true).getD 0 true = true → tm'.getD 105 undef = .agg #[.int .i64 x0, .int .i64 x1, .int .i64 x2, .string x3, .slice xa xn xc]) ∧ ((listed.setIfInBounds 7 true).getD 1 true = true → tm'.getD 106 undef = .pointer (some ⟨n, 0, none⟩)) ∧ ((listed.setIfInBounds 7 true).getD 2 true = true → tm'.getD 107 undef = .int .i64 z0) ∧ ((listed.setIfInBounds 7 true).getD 3 true = true → tm'.getD 108 undef = .agg #[.int .i64 y1, .int .i64 y2, .int .i64 y3, .string y4, .slice y5 y6 y7]) ∧ ((listed.setIfInBounds 7 true).getD 4 true = true → tm'.getD 109 undef = .slice y8 y9 y10) ∧ ((listed.setIfInBounds 7 true).getD 5 true = true → tm'.getD 110 undef = .agg #[.int .i64 z0, .int .i64 y1, .int .i64 y2, .int .i64 y3, .string y4, .slice y5 y6 y7, .slice y8 y9 y10]) ∧ ((listed.setIfInBounds 7 true).getD 8 true = true → tm'.getD 8 undef = .int .i64 0) ∧ (putL W bp 0 [.int .i64 z0, .int .i64 y1, .int .i64 y2, .int .i64 y3, .string y4, .slice y5 y6 y7, .slice y8 y9 y10]).heap[n]? = some (.cells #[.int .i64 z0, .int .i64 z1, .int .i64 z2, .string z3, .slice z4 z5 z6] 31 (0, 0)) ∧ (putL W bp 0 [.int .i64 z0, .int .i64 y1, .int .i64 y2, .int .i64 y3, .string y4, .slice y5 y6 y7, .slice y8 y9 y10]).heap[m]? = some (.cells #[.int .i64 y1, .int .i64 y2, .int .i64 y3, .string y4, .slice y5 y6 y7] 31 (0, 0)) ∧ (putL W bp 0 [.int .i64 z0, .int .i64 y1, .int .i64 y2, .int .i64 y3, .string y4, .slice y5 y6 y7, .slice y8 y9 y10]).heap[gp]? = some (.cells #[.int .i64 x0, .int .i64 x1, .int .i64 x2, .string x3, .slice xa xn xc] 31 (0, 0)) ∧ (∃ cs, (putL W bp 0 [.int .i64 z0, .int .i64 y1, .int .i64 y2, .int .i64 y3, .string y4, .slice y5 y6 y7, .slice y8 y9 y10]).heap[bx]? = some (.cells cs 31 (0, 0)) ∧ cs.size = 5 ∧ ((listed.setIfInBounds 7 true).getD 6 true = true → cs = #[.int .i64 x0, .int .i64 x1, .int .i64 x2, .string x3, .slice xa xn xc])) ∧ (∃ cs, (putL W bp 0 [.int .i64 z0, .int .i64 y1, .int .i64 y2, .int .i64 y3, .string y4, .slice y5 y6 y7, .slice y8 y9 y10]).heap[bp]? = some (.cells cs 36 (0, 0)) ∧ cs.size = 7 ∧ ((listed.setIfInBounds 7 true).getD 7 true = true → cs = #[.int .i64 z0, .int .i64 y1, .int .i64 y2, .int .i64 y3, .string y4, .slice y5 y6 y7, .slice y8 y9 y10])) ∧ Inv (putL W bp 0 [.int .i64 z0, .int .i64 y1, .int .i64 y2, .int .i64 y3, .string y4, .slice y5 y6 y7, .slice y8 y9 y10]) := by
        exact ⟨_, rfl, is, ip3, ip4, ip10, ip6, ip7, iw11, fun h => iv0 ((set_listed h).resolve_left (by decide)), fun h => iv1 ((set_listed h).resolve_left (by decide)), fun h => iv2 ((set_listed h).resolve_left (by decide)), fun h => iv3 ((set_listed h).resolve_left (by decide)), fun h => iv4 ((set_listed h).resolve_left (by decide)), fun h => iv5 ((set_listed h).resolve_left (by decide)), fun h => iv8 ((set_listed h).resolve_left (by decide)), (putL_other _ _ _ _ nnbp).trans irn, (putL_other _ _ _ _ nmbp).trans irm, (putL_other _ _ _ _ ngpbp).trans irgp, ⟨csbx, (putL_other _ _ _ _ nbxbp).trans ihbx, izbx, fun h => icbx ((set_listed h).resolve_left (by decide))⟩, ⟨_, putL_all _ W bp _ _ ihbp rfl, rfl, fun _ => rfl⟩, hIbp W _ _ ihbp iI⟩
      have HH := Lib.hid HN
      clear HN iI iv0 iv1 iv2 iv3 iv4 iv5 iv8 irn irm irgp ihbx icbx ihbp icbp
      refine wpOp_step rfl (fun K hK => ?_)
      go_simp
      exact hK _ _ HH.out
    · have hdz : 8 < tm.size := by rw [is]; decide
      have HN : ∃ tm', (⟨tm.setIfInBounds 8 (.int .i64 0), df⟩ : Act) = ⟨tm', df⟩ ∧ tm'.size = 111 ∧ tm'.getD 3 undef = .pointer (some ⟨n, 0, none⟩) ∧ tm'.getD 4 undef = .pointer (some ⟨m, 0, none⟩) ∧ tm'.getD 10 undef = .pointer (some ⟨gp, 0, none⟩) ∧ tm'.getD 6 undef = .pointer (some ⟨bx, 0, none⟩) ∧ tm'.getD 7 undef = .pointer (some ⟨bp, 0, none⟩) ∧ tm'.getD 11 undef = .slice y8 y9 y10 ∧ ((listed.setIfInBounds 8 true).getD 0 true = true → tm'.getD 105 undef = .agg #[.int .i64 x0, .int .i64 x1, .int .i64 x2, .string x3, .slice xa xn xc]) ∧ ((listed.setIfInBounds 8 true).getD 1 true = true → tm'.getD 106 undef = .pointer (some ⟨n, 0, none⟩)) ∧ ((listed.setIfInBounds 8 true).getD 2 true = true → tm'.getD 107 undef = .int .i64 z0) ∧ ((listed.setIfInBounds 8 true).getD 3 true = true → tm'.getD 108 undef = .agg #[.int .i64 y1, .int .i64 y2, .int .i64 y3, .string y4, .slice y5 y6 y7]) ∧ ((listed.setIfInBounds 8 true).getD 4 true = true → tm'.getD 109 undef = .slice y8 y9 y10) ∧ ((listed.setIfInBounds 8 true).getD 5 true = true → tm'.getD 110 undef = .agg #[.int .i64 z0, .int .i64 y1, .int .i64 y2, .int .i64 y3, .string y4, .slice y5 y6 y7, .slice y8 y9 y10]) ∧ ((listed.setIfInBounds 8 true).getD 8 true = true → tm'.getD 8 undef = .int .i64 0) ∧ W.heap[n]? = some (.cells #[.int .i64 z0, .int .i64 z1, .int .i64 z2, .string z3, .slice z4 z5 z6] 31 (0, 0)) ∧ W.heap[m]? = some (.cells #[.int .i64 y1, .int .i64 y2, .int .i64 y3, .string y4, .slice y5 y6 y7] 31 (0, 0)) ∧ W.heap[gp]? = some (.cells #[.int .i64 x0, .int .i64 x1, .int .i64 x2, .string x3, .slice xa xn xc] 31 (0, 0)) ∧ (∃ cs, W.heap[bx]? = some (.cells cs 31 (0, 0)) ∧ cs.size = 5 ∧ ((listed.setIfInBounds 8 true).getD 6 true = true → cs = #[.int .i64 x0, .int .i64 x1, .int .i64 x2, .string x3, .slice xa xn xc])) ∧ (∃ cs, W.heap[bp]? = some (.cells cs 36 (0, 0)) ∧ cs.size = 7 ∧ ((listed.setIfInBounds 8 true).getD 7 true = true → cs = #[.int .i64 z0, .int .i64 y1, .int .i64 y2, .int .i64 y3, .string y4, .slice y5 y6 y7, .slice y8 y9 y10])) ∧ Inv W := by
        exact ⟨_, rfl, by rw [Array.size_setIfInBounds]; exact is, (getD_ne (by decide)).trans ip3, (getD_ne (by decide)).trans ip4, (getD_ne (by decide)).trans ip10, (getD_ne (by decide)).trans ip6, (getD_ne (by decide)).trans ip7, (getD_ne (by decide)).trans iw11, fun h => (getD_ne (by decide)).trans (iv0 ((set_listed h).resolve_left (by decide))), fun h => (getD_ne (by decide)).trans (iv1 ((set_listed h).resolve_left (by decide))), fun h => (getD_ne (by decide)).trans (iv2 ((set_listed h).resolve_left (by decide))), fun h => (getD_ne (by decide)).trans (iv3 ((set_listed h).resolve_left (by decide))), fun h => (getD_ne (by decide)).trans (iv4 ((set_listed h).resolve_left (by decide))), fun h => (getD_ne (by decide)).trans (iv5 ((set_listed h).resolve_left (by decide))), fun _ => getD_same hdz, irn, irm, irgp, ⟨csbx, ihbx, izbx, fun h => icbx ((set_listed h).resolve_left (by decide))⟩, ⟨csbp, ihbp, izbp, fun h => icbp ((set_listed h).resolve_left (by decide))⟩, iI⟩
      have HH := Lib.hid HN
      clear HN iI iv0 iv1 iv2 iv3 iv4 iv5 iv8 irn irm irgp ihbx icbx ihbp icbp
      refine wpOp_step rfl (fun K hK => ?_)
      go_simp
      exact hK _ _ HH.out

set_option maxRecDepth 100000 in
set_option maxHeartbeats 4000000 in
theorem tailS {id : Nat} {ty0 : TypeId} {po0 : String} {af0 : Array Edge} {ty1 : TypeId} {po1 : String} {af1 : Array Edge} {ty2 : TypeId} {po2 : String} {af2 : Array Edge} {ty3 : TypeId} {po3 : String} {af3 : Array Edge} {ty4 : TypeId} {po4 : String} {af4 : Array Edge} {ty5 : TypeId} {po5 : String} {af5 : Array Edge} {Q : Exit → Act → World → Prop} {tm0 : Array Value} {df : _} {w0 : World} (Inv : World → Prop)
    (bp bx gp n : Nat) (x0 x1 x2 : Int) (x3 : ByteArray) (xa : Option Addr) (xn xc : Nat) (y0 y1 y2 y3 : Int) (y4 : ByteArray) (y5 : Option Addr) (y6 y7 : Nat) (y8 : Option Addr) (y9 y10 : Nat)
    (hsz : tm0.size = 25)
    (hp7 : tm0.getD 7 undef = .pointer (some ⟨gp, 0, none⟩))
    (hp3 : tm0.getD 3 undef = .pointer (some ⟨n, 0, none⟩))
    (hp4 : tm0.getD 4 undef = .pointer (some ⟨bx, 0, none⟩))
    (hp5 : tm0.getD 5 undef = .pointer (some ⟨bp, 0, none⟩))
    (hrgp : w0.heap[gp]? = some (.cells #[.int .i64 x0, .int .i64 x1, .int .i64 x2, .string x3, .slice xa xn xc] 31 (0, 0)))
    (hrn : w0.heap[n]? = some (.cells #[.int .i64 y0, .int .i64 y1, .int .i64 y2, .int .i64 y3, .string y4, .slice y5 y6 y7, .slice y8 y9 y10] 36 (0, 0)))
    (hdbx : ∃ cs, w0.heap[bx]? = some (.cells cs 31 (0, 0)) ∧ cs.size = 5)
    (hdbp : ∃ cs, w0.heap[bp]? = some (.cells cs 31 (0, 0)) ∧ cs.size = 5)
    (ngpbx : gp ≠ bx)
    (ngpbp : gp ≠ bp)
    (nnbx : n ≠ bx)
    (nnbp : n ≠ bp)
    (nbxbp : bx ≠ bp)
    (hI0 : Inv w0.drew)
    (hIbx : ∀ W vs cs, W.heap[bx]? = some (.cells cs 31 (0, 0)) → Inv W → Inv (putL W bx 0 vs))
    (hIbp : ∀ W vs cs, W.heap[bp]? = some (.cells cs 31 (0, 0)) → Inv W → Inv (putL W bp 0 vs))
    (hw2_1 : waits .any #[⟨some 22, .load 31 (.tmp 7), ty0, po0, af0, none⟩, ⟨some 23, .fieldAddr 36 (.tmp 3) 1, ty1, po1, af1, none⟩, ⟨some 24, .load 31 (.tmp 23), ty2, po2, af2, none⟩, ⟨none, .store 31 (.tmp 4) (.tmp 22), ty3, po3, af3, none⟩, ⟨none, .store 31 (.tmp 5) (.tmp 24), ty4, po4, af4, none⟩, ⟨some 6, .assign (.const (.int .i64 0)), ty5, po5, af5, none⟩] 2 1 = true)
    (hw3_0 : waits .any #[⟨some 22, .load 31 (.tmp 7), ty0, po0, af0, none⟩, ⟨some 23, .fieldAddr 36 (.tmp 3) 1, ty1, po1, af1, none⟩, ⟨some 24, .load 31 (.tmp 23), ty2, po2, af2, none⟩, ⟨none, .store 31 (.tmp 4) (.tmp 22), ty3, po3, af3, none⟩, ⟨none, .store 31 (.tmp 5) (.tmp 24), ty4, po4, af4, none⟩, ⟨some 6, .assign (.const (.int .i64 0)), ty5, po5, af5, none⟩] 3 0 = true)
    (hw4_2 : waits .any #[⟨some 22, .load 31 (.tmp 7), ty0, po0, af0, none⟩, ⟨some 23, .fieldAddr 36 (.tmp 3) 1, ty1, po1, af1, none⟩, ⟨some 24, .load 31 (.tmp 23), ty2, po2, af2, none⟩, ⟨none, .store 31 (.tmp 4) (.tmp 22), ty3, po3, af3, none⟩, ⟨none, .store 31 (.tmp 5) (.tmp 24), ty4, po4, af4, none⟩, ⟨some 6, .assign (.const (.int .i64 0)), ty5, po5, af5, none⟩] 4 2 = true)
    (hfw : forwardB .any #[⟨some 22, .load 31 (.tmp 7), ty0, po0, af0, none⟩, ⟨some 23, .fieldAddr 36 (.tmp 3) 1, ty1, po1, af1, none⟩, ⟨some 24, .load 31 (.tmp 23), ty2, po2, af2, none⟩, ⟨none, .store 31 (.tmp 4) (.tmp 22), ty3, po3, af3, none⟩, ⟨none, .store 31 (.tmp 5) (.tmp 24), ty4, po4, af4, none⟩, ⟨some 6, .assign (.const (.int .i64 0)), ty5, po5, af5, none⟩] = true)
    (hQ : ∀ tm W, tm.getD 4 undef = .pointer (some ⟨bx, 0, none⟩) → tm.getD 5 undef = .pointer (some ⟨bp, 0, none⟩) → tm.getD 6 undef = .int .i64 0 → W.heap[bx]? = some (.cells #[.int .i64 x0, .int .i64 x1, .int .i64 x2, .string x3, .slice xa xn xc] 31 (0, 0)) → W.heap[bp]? = some (.cells #[.int .i64 y1, .int .i64 y2, .int .i64 y3, .string y4, .slice y5 y6 y7] 31 (0, 0)) → Inv W → Q .normal ⟨tm, df⟩ W)
    : Code.wp Tryd.prog (.region id #[⟨some 22, .load 31 (.tmp 7), ty0, po0, af0, none⟩, ⟨some 23, .fieldAddr 36 (.tmp 3) 1, ty1, po1, af1, none⟩, ⟨some 24, .load 31 (.tmp 23), ty2, po2, af2, none⟩, ⟨none, .store 31 (.tmp 4) (.tmp 22), ty3, po3, af3, none⟩, ⟨none, .store 31 (.tmp 5) (.tmp 24), ty4, po4, af4, none⟩, ⟨some 6, .assign (.const (.int .i64 0)), ty5, po5, af5, none⟩] true) Q ⟨tm0, df⟩ w0 := by
  refine wp_region_inv (by kernel_rfl) (fun listed a W => ∃ tm, a = ⟨tm, df⟩ ∧ tm.size = 25 ∧ tm.getD 7 undef = .pointer (some ⟨gp, 0, none⟩) ∧ tm.getD 3 undef = .pointer (some ⟨n, 0, none⟩) ∧ tm.getD 4 undef = .pointer (some ⟨bx, 0, none⟩) ∧ tm.getD 5 undef = .pointer (some ⟨bp, 0, none⟩) ∧ (listed.getD 0 true = true → tm.getD 22 undef = .agg #[.int .i64 x0, .int .i64 x1, .int .i64 x2, .string x3, .slice xa xn xc]) ∧ (listed.getD 1 true = true → tm.getD 23 undef = .pointer (some ⟨n, 1, none⟩)) ∧ (listed.getD 2 true = true → tm.getD 24 undef = .agg #[.int .i64 y1, .int .i64 y2, .int .i64 y3, .string y4, .slice y5 y6 y7]) ∧ (listed.getD 5 true = true → tm.getD 6 undef = .int .i64 0) ∧ W.heap[gp]? = some (.cells #[.int .i64 x0, .int .i64 x1, .int .i64 x2, .string x3, .slice xa xn xc] 31 (0, 0)) ∧ W.heap[n]? = some (.cells #[.int .i64 y0, .int .i64 y1, .int .i64 y2, .int .i64 y3, .string y4, .slice y5 y6 y7, .slice y8 y9 y10] 36 (0, 0)) ∧ (∃ cs, W.heap[bx]? = some (.cells cs 31 (0, 0)) ∧ cs.size = 5 ∧ (listed.getD 3 true = true → cs = #[.int .i64 x0, .int .i64 x1, .int .i64 x2, .string x3, .slice xa xn xc])) ∧ (∃ cs, W.heap[bp]? = some (.cells cs 31 (0, 0)) ∧ cs.size = 5 ∧ (listed.getD 4 true = true → cs = #[.int .i64 y1, .int .i64 y2, .int .i64 y3, .string y4, .slice y5 y6 y7])) ∧ Inv W) ?start ?step ?done
  case start =>
    have no : ∀ m, m < 6 → (Array.replicate 6 false).getD m true = false := fun m hm => by simp [Array.getD, hm]
    obtain ⟨csbx, hhbx, hsbx⟩ := hdbx
    obtain ⟨csbp, hhbp, hsbp⟩ := hdbp
    exact ⟨tm0, rfl, hsz, hp7, hp3, hp4, hp5, fun h => Bool.noConfusion ((no 0 (by decide)).symm.trans h), fun h => Bool.noConfusion ((no 1 (by decide)).symm.trans h), fun h => Bool.noConfusion ((no 2 (by decide)).symm.trans h), fun h => Bool.noConfusion ((no 5 (by decide)).symm.trans h), hrgp, hrn, ⟨csbx, hhbx, hsbx, fun h => Bool.noConfusion ((no 3 (by decide)).symm.trans h)⟩, ⟨csbp, hhbp, hsbp, fun h => Bool.noConfusion ((no 4 (by decide)).symm.trans h)⟩, hI0⟩
  case done =>
    rintro listed a W hs ⟨tm, rfl, is, ip7, ip3, ip4, ip5, iv0, iv1, iv2, iv5, irgp, irn, ⟨csbx, ihbx, izbx, icbx⟩, ⟨csbp, ihbp, izbp, icbp⟩, iI⟩ h0
    have hall := all_listedB hfw hs h0
    have ebx := icbx (hall 3)
    subst ebx
    have ebp := icbp (hall 4)
    subst ebp
    exact hQ tm W ip4 ip5 (iv5 (hall 5)) ihbx ihbp iI
  case step =>
    rintro listed a W i hs ⟨tm, rfl, is, ip7, ip3, ip4, ip5, iv0, iv1, iv2, iv5, irgp, irn, ⟨csbx, ihbx, izbx, icbx⟩, ⟨csbp, ihbp, izbp, icbp⟩, iI⟩ hi
    have hin : i < 6 := by
      obtain ⟨-, o, ho, -⟩ := mem_ready.1 hi
      exact (Array.getElem?_eq_some_iff.1 ho).1
    have hcases : i = 0 ∨ i = 1 ∨ i = 2 ∨ i = 3 ∨ i = 4 ∨ i = 5 := by omega
    rcases hcases with rfl | rfl | rfl | rfl | rfl | rfl
    · have hdz : 22 < tm.size := by rw [is]; decide
      have t0 := Lib.cell_of_heap irgp 0
      have t1 := Lib.cell_of_heap irgp 1
      have t2 := Lib.cell_of_heap irgp 2
      have t3 := Lib.cell_of_heap irgp 3
      have t4 := Lib.cell_of_heap irgp 4
      have HN : ∃ tm', (⟨tm.setIfInBounds 22 (.agg #[.int .i64 x0, .int .i64 x1, .int .i64 x2, .string x3, .slice xa xn xc]), df⟩ : Act) = ⟨tm', df⟩ ∧ tm'.size = 25 ∧ tm'.getD 7 undef = .pointer (some ⟨gp, 0, none⟩) ∧ tm'.getD 3 undef = .pointer (some ⟨n, 0, none⟩) ∧ tm'.getD 4 undef = .pointer (some ⟨bx, 0, none⟩) ∧ tm'.getD 5 undef = .pointer (some ⟨bp, 0, none⟩) ∧ ((listed.setIfInBounds 0 true).getD 0 true = true → tm'.getD 22 undef = .agg #[.int .i64 x0, .int .i64 x1, .int .i64 x2, .string x3, .slice xa xn xc]) ∧ ((listed.setIfInBounds 0 true).getD 1 true = true → tm'.getD 23 undef = .pointer (some ⟨n, 1, none⟩)) ∧ ((listed.setIfInBounds 0 true).getD 2 true = true → tm'.getD 24 undef = .agg #[.int .i64 y1, .int .i64 y2, .int .i64 y3, .string y4, .slice y5 y6 y7]) ∧ ((listed.setIfInBounds 0 true).getD 5 true = true → tm'.getD 6 undef = .int .i64 0) ∧ W.heap[gp]? = some (.cells #[.int .i64 x0, .int .i64 x1, .int .i64 x2, .string x3, .slice xa xn xc] 31 (0, 0)) ∧ W.heap[n]? = some (.cells #[.int .i64 y0, .int .i64 y1, .int .i64 y2, .int .i64 y3, .string y4, .slice y5 y6 y7, .slice y8 y9 y10] 36 (0, 0)) ∧ (∃ cs, W.heap[bx]? = some (.cells cs 31 (0, 0)) ∧ cs.size = 5 ∧ ((listed.setIfInBounds 0 true).getD 3 true = true → cs = #[.int .i64 x0, .int .i64 x1, .int .i64 x2, .string x3, .slice xa xn xc])) ∧ (∃ cs, W.heap[bp]? = some (.cells cs 31 (0, 0)) ∧ cs.size = 5 ∧ ((listed.setIfInBounds 0 true).getD 4 true = true → cs = #[.int .i64 y1, .int .i64 y2, .int .i64 y3, .string y4, .slice y5 y6 y7])) ∧ Inv W := by
        exact ⟨_, rfl, by rw [Array.size_setIfInBounds]; exact is, (getD_ne (by decide)).trans ip7, (getD_ne (by decide)).trans ip3, (getD_ne (by decide)).trans ip4, (getD_ne (by decide)).trans ip5, fun _ => getD_same hdz, fun h => (getD_ne (by decide)).trans (iv1 ((set_listed h).resolve_left (by decide))), fun h => (getD_ne (by decide)).trans (iv2 ((set_listed h).resolve_left (by decide))), fun h => (getD_ne (by decide)).trans (iv5 ((set_listed h).resolve_left (by decide))), irgp, irn, ⟨csbx, ihbx, izbx, fun h => icbx ((set_listed h).resolve_left (by decide))⟩, ⟨csbp, ihbp, izbp, fun h => icbp ((set_listed h).resolve_left (by decide))⟩, iI⟩
      have HH := Lib.hid HN
      clear HN iI iv0 iv1 iv2 iv5 irgp irn ihbx icbx ihbp icbp
      refine wpOp_step rfl (fun K hK => ?_)
      go_simp
      exact hK _ _ HH.out
    · have hdz : 23 < tm.size := by rw [is]; decide
      have HN : ∃ tm', (⟨tm.setIfInBounds 23 (.pointer (some ⟨n, 1, none⟩)), df⟩ : Act) = ⟨tm', df⟩ ∧ tm'.size = 25 ∧ tm'.getD 7 undef = .pointer (some ⟨gp, 0, none⟩) ∧ tm'.getD 3 undef = .pointer (some ⟨n, 0, none⟩) ∧ tm'.getD 4 undef = .pointer (some ⟨bx, 0, none⟩) ∧ tm'.getD 5 undef = .pointer (some ⟨bp, 0, none⟩) ∧ ((listed.setIfInBounds 1 true).getD 0 true = true → tm'.getD 22 undef = .agg #[.int .i64 x0, .int .i64 x1, .int .i64 x2, .string x3, .slice xa xn xc]) ∧ ((listed.setIfInBounds 1 true).getD 1 true = true → tm'.getD 23 undef = .pointer (some ⟨n, 1, none⟩)) ∧ ((listed.setIfInBounds 1 true).getD 2 true = true → tm'.getD 24 undef = .agg #[.int .i64 y1, .int .i64 y2, .int .i64 y3, .string y4, .slice y5 y6 y7]) ∧ ((listed.setIfInBounds 1 true).getD 5 true = true → tm'.getD 6 undef = .int .i64 0) ∧ W.heap[gp]? = some (.cells #[.int .i64 x0, .int .i64 x1, .int .i64 x2, .string x3, .slice xa xn xc] 31 (0, 0)) ∧ W.heap[n]? = some (.cells #[.int .i64 y0, .int .i64 y1, .int .i64 y2, .int .i64 y3, .string y4, .slice y5 y6 y7, .slice y8 y9 y10] 36 (0, 0)) ∧ (∃ cs, W.heap[bx]? = some (.cells cs 31 (0, 0)) ∧ cs.size = 5 ∧ ((listed.setIfInBounds 1 true).getD 3 true = true → cs = #[.int .i64 x0, .int .i64 x1, .int .i64 x2, .string x3, .slice xa xn xc])) ∧ (∃ cs, W.heap[bp]? = some (.cells cs 31 (0, 0)) ∧ cs.size = 5 ∧ ((listed.setIfInBounds 1 true).getD 4 true = true → cs = #[.int .i64 y1, .int .i64 y2, .int .i64 y3, .string y4, .slice y5 y6 y7])) ∧ Inv W := by
        exact ⟨_, rfl, by rw [Array.size_setIfInBounds]; exact is, (getD_ne (by decide)).trans ip7, (getD_ne (by decide)).trans ip3, (getD_ne (by decide)).trans ip4, (getD_ne (by decide)).trans ip5, fun h => (getD_ne (by decide)).trans (iv0 ((set_listed h).resolve_left (by decide))), fun _ => getD_same hdz, fun h => (getD_ne (by decide)).trans (iv2 ((set_listed h).resolve_left (by decide))), fun h => (getD_ne (by decide)).trans (iv5 ((set_listed h).resolve_left (by decide))), irgp, irn, ⟨csbx, ihbx, izbx, fun h => icbx ((set_listed h).resolve_left (by decide))⟩, ⟨csbp, ihbp, izbp, fun h => icbp ((set_listed h).resolve_left (by decide))⟩, iI⟩
      have HH := Lib.hid HN
      clear HN iI iv0 iv1 iv2 iv5 irgp irn ihbx icbx ihbp icbp
      refine wpOp_step rfl (fun K hK => ?_)
      go_simp
      exact hK _ _ HH.out
    · have hdz : 24 < tm.size := by rw [is]; decide
      have j1 := iv1 (waited hi hw2_1)
      have t0 := Lib.cell_of_heap irn 0
      have t1 := Lib.cell_of_heap irn 1
      have t2 := Lib.cell_of_heap irn 2
      have t3 := Lib.cell_of_heap irn 3
      have t4 := Lib.cell_of_heap irn 4
      have t5 := Lib.cell_of_heap irn 5
      have t6 := Lib.cell_of_heap irn 6
      have HN : ∃ tm', (⟨tm.setIfInBounds 24 (.agg #[.int .i64 y1, .int .i64 y2, .int .i64 y3, .string y4, .slice y5 y6 y7]), df⟩ : Act) = ⟨tm', df⟩ ∧ tm'.size = 25 ∧ tm'.getD 7 undef = .pointer (some ⟨gp, 0, none⟩) ∧ tm'.getD 3 undef = .pointer (some ⟨n, 0, none⟩) ∧ tm'.getD 4 undef = .pointer (some ⟨bx, 0, none⟩) ∧ tm'.getD 5 undef = .pointer (some ⟨bp, 0, none⟩) ∧ ((listed.setIfInBounds 2 true).getD 0 true = true → tm'.getD 22 undef = .agg #[.int .i64 x0, .int .i64 x1, .int .i64 x2, .string x3, .slice xa xn xc]) ∧ ((listed.setIfInBounds 2 true).getD 1 true = true → tm'.getD 23 undef = .pointer (some ⟨n, 1, none⟩)) ∧ ((listed.setIfInBounds 2 true).getD 2 true = true → tm'.getD 24 undef = .agg #[.int .i64 y1, .int .i64 y2, .int .i64 y3, .string y4, .slice y5 y6 y7]) ∧ ((listed.setIfInBounds 2 true).getD 5 true = true → tm'.getD 6 undef = .int .i64 0) ∧ W.heap[gp]? = some (.cells #[.int .i64 x0, .int .i64 x1, .int .i64 x2, .string x3, .slice xa xn xc] 31 (0, 0)) ∧ W.heap[n]? = some (.cells #[.int .i64 y0, .int .i64 y1, .int .i64 y2, .int .i64 y3, .string y4, .slice y5 y6 y7, .slice y8 y9 y10] 36 (0, 0)) ∧ (∃ cs, W.heap[bx]? = some (.cells cs 31 (0, 0)) ∧ cs.size = 5 ∧ ((listed.setIfInBounds 2 true).getD 3 true = true → cs = #[.int .i64 x0, .int .i64 x1, .int .i64 x2, .string x3, .slice xa xn xc])) ∧ (∃ cs, W.heap[bp]? = some (.cells cs 31 (0, 0)) ∧ cs.size = 5 ∧ ((listed.setIfInBounds 2 true).getD 4 true = true → cs = #[.int .i64 y1, .int .i64 y2, .int .i64 y3, .string y4, .slice y5 y6 y7])) ∧ Inv W := by
        exact ⟨_, rfl, by rw [Array.size_setIfInBounds]; exact is, (getD_ne (by decide)).trans ip7, (getD_ne (by decide)).trans ip3, (getD_ne (by decide)).trans ip4, (getD_ne (by decide)).trans ip5, fun h => (getD_ne (by decide)).trans (iv0 ((set_listed h).resolve_left (by decide))), fun h => (getD_ne (by decide)).trans (iv1 ((set_listed h).resolve_left (by decide))), fun _ => getD_same hdz, fun h => (getD_ne (by decide)).trans (iv5 ((set_listed h).resolve_left (by decide))), irgp, irn, ⟨csbx, ihbx, izbx, fun h => icbx ((set_listed h).resolve_left (by decide))⟩, ⟨csbp, ihbp, izbp, fun h => icbp ((set_listed h).resolve_left (by decide))⟩, iI⟩
      have HH := Lib.hid HN
      clear HN iI iv0 iv1 iv2 iv5 irgp irn ihbx icbx ihbp icbp
      refine wpOp_step rfl (fun K hK => ?_)
      go_simp
      exact hK _ _ HH.out
    · have j0 := iv0 (waited hi hw3_0)
      obtain ⟨c0, c1, c2, c3, c4, rfl⟩ := ar5 izbx
      have t0 := Lib.cell_of_heap ihbx 0
      have f0 := Lib.frozen_of_heap ihbx 0
      have t1 := Lib.cell_of_heap ihbx 1
      have f1 := Lib.frozen_of_heap ihbx 1
      have t2 := Lib.cell_of_heap ihbx 2
      have f2 := Lib.frozen_of_heap ihbx 2
      have t3 := Lib.cell_of_heap ihbx 3
      have f3 := Lib.frozen_of_heap ihbx 3
      have t4 := Lib.cell_of_heap ihbx 4
      have f4 := Lib.frozen_of_heap ihbx 4
      have HN : ∃ tm', (⟨tm, df⟩ : Act) = ⟨tm', df⟩ ∧ tm'.size = 25 ∧ tm'.getD 7 undef = .pointer (some ⟨gp, 0, none⟩) ∧ tm'.getD 3 undef = .pointer (some ⟨n, 0, none⟩) ∧ tm'.getD 4 undef = .pointer (some ⟨bx, 0, none⟩) ∧ tm'.getD 5 undef = .pointer (some ⟨bp, 0, none⟩) ∧ ((listed.setIfInBounds 3 true).getD 0 true = true → tm'.getD 22 undef = .agg #[.int .i64 x0, .int .i64 x1, .int .i64 x2, .string x3, .slice xa xn xc]) ∧ ((listed.setIfInBounds 3 true).getD 1 true = true → tm'.getD 23 undef = .pointer (some ⟨n, 1, none⟩)) ∧ ((listed.setIfInBounds 3 true).getD 2 true = true → tm'.getD 24 undef = .agg #[.int .i64 y1, .int .i64 y2, .int .i64 y3, .string y4, .slice y5 y6 y7]) ∧ ((listed.setIfInBounds 3 true).getD 5 true = true → tm'.getD 6 undef = .int .i64 0) ∧ (putL W bx 0 [.int .i64 x0, .int .i64 x1, .int .i64 x2, .string x3, .slice xa xn xc]).heap[gp]? = some (.cells #[.int .i64 x0, .int .i64 x1, .int .i64 x2, .string x3, .slice xa xn xc] 31 (0, 0)) ∧ (putL W bx 0 [.int .i64 x0, .int .i64 x1, .int .i64 x2, .string x3, .slice xa xn xc]).heap[n]? = some (.cells #[.int .i64 y0, .int .i64 y1, .int .i64 y2, .int .i64 y3, .string y4, .slice y5 y6 y7, .slice y8 y9 y10] 36 (0, 0)) ∧ (∃ cs, (putL W bx 0 [.int .i64 x0, .int .i64 x1, .int .i64 x2, .string x3, .slice xa xn xc]).heap[bx]? = some (.cells cs 31 (0, 0)) ∧ cs.size = 5 ∧ ((listed.setIfInBounds 3 true).getD 3 true = true → cs = #[.int .i64 x0, .int .i64 x1, .int .i64 x2, .string x3, .slice xa xn xc])) ∧ (∃ cs, (putL W bx 0 [.int .i64 x0, .int .i64 x1, .int .i64 x2, .string x3, .slice xa xn xc]).heap[bp]? = some (.cells cs 31 (0, 0)) ∧ cs.size = 5 ∧ ((listed.setIfInBounds 3 true).getD 4 true = true → cs = #[.int .i64 y1, .int .i64 y2, .int .i64 y3, .string y4, .slice y5 y6 y7])) ∧ Inv (putL W bx 0 [.int .i64 x0, .int .i64 x1, .int .i64 x2, .string x3, .slice xa xn xc]) := by
        exact ⟨_, rfl, is, ip7, ip3, ip4, ip5, fun h => iv0 ((set_listed h).resolve_left (by decide)), fun h => iv1 ((set_listed h).resolve_left (by decide)), fun h => iv2 ((set_listed h).resolve_left (by decide)), fun h => iv5 ((set_listed h).resolve_left (by decide)), (putL_other _ _ _ _ ngpbx).trans irgp, (putL_other _ _ _ _ nnbx).trans irn, ⟨_, putL_all _ W bx _ _ ihbx rfl, rfl, fun _ => rfl⟩, ⟨csbp, (putL_other _ _ _ _ (Ne.symm nbxbp)).trans ihbp, izbp, fun h => icbp ((set_listed h).resolve_left (by decide))⟩, hIbx W _ _ ihbx iI⟩
      have HH := Lib.hid HN
      clear HN iI iv0 iv1 iv2 iv5 irgp irn ihbx icbx ihbp icbp
      refine wpOp_step rfl (fun K hK => ?_)
      go_simp
      exact hK _ _ HH.out
    · have j2 := iv2 (waited hi hw4_2)
      obtain ⟨c0, c1, c2, c3, c4, rfl⟩ := ar5 izbp
      have t0 := Lib.cell_of_heap ihbp 0
      have f0 := Lib.frozen_of_heap ihbp 0
      have t1 := Lib.cell_of_heap ihbp 1
      have f1 := Lib.frozen_of_heap ihbp 1
      have t2 := Lib.cell_of_heap ihbp 2
      have f2 := Lib.frozen_of_heap ihbp 2
      have t3 := Lib.cell_of_heap ihbp 3
      have f3 := Lib.frozen_of_heap ihbp 3
      have t4 := Lib.cell_of_heap ihbp 4
      have f4 := Lib.frozen_of_heap ihbp 4
      have HN : ∃ tm', (⟨tm, df⟩ : Act) = ⟨tm', df⟩ ∧ tm'.size = 25 ∧ tm'.getD 7 undef = .pointer (some ⟨gp, 0, none⟩) ∧ tm'.getD 3 undef = .pointer (some ⟨n, 0, none⟩) ∧ tm'.getD 4 undef = .pointer (some ⟨bx, 0, none⟩) ∧ tm'.getD 5 undef = .pointer (some ⟨bp, 0, none⟩) ∧ ((listed.setIfInBounds 4 true).getD 0 true = true → tm'.getD 22 undef = .agg #[.int .i64 x0, .int .i64 x1, .int .i64 x2, .string x3, .slice xa xn xc]) ∧ ((listed.setIfInBounds 4 true).getD 1 true = true → tm'.getD 23 undef = .pointer (some ⟨n, 1, none⟩)) ∧ ((listed.setIfInBounds 4 true).getD 2 true = true → tm'.getD 24 undef = .agg #[.int .i64 y1, .int .i64 y2, .int .i64 y3, .string y4, .slice y5 y6 y7]) ∧ ((listed.setIfInBounds 4 true).getD 5 true = true → tm'.getD 6 undef = .int .i64 0) ∧ (putL W bp 0 [.int .i64 y1, .int .i64 y2, .int .i64 y3, .string y4, .slice y5 y6 y7]).heap[gp]? = some (.cells #[.int .i64 x0, .int .i64 x1, .int .i64 x2, .string x3, .slice xa xn xc] 31 (0, 0)) ∧ (putL W bp 0 [.int .i64 y1, .int .i64 y2, .int .i64 y3, .string y4, .slice y5 y6 y7]).heap[n]? = some (.cells #[.int .i64 y0, .int .i64 y1, .int .i64 y2, .int .i64 y3, .string y4, .slice y5 y6 y7, .slice y8 y9 y10] 36 (0, 0)) ∧ (∃ cs, (putL W bp 0 [.int .i64 y1, .int .i64 y2, .int .i64 y3, .string y4, .slice y5 y6 y7]).heap[bx]? = some (.cells cs 31 (0, 0)) ∧ cs.size = 5 ∧ ((listed.setIfInBounds 4 true).getD 3 true = true → cs = #[.int .i64 x0, .int .i64 x1, .int .i64 x2, .string x3, .slice xa xn xc])) ∧ (∃ cs, (putL W bp 0 [.int .i64 y1, .int .i64 y2, .int .i64 y3, .string y4, .slice y5 y6 y7]).heap[bp]? = some (.cells cs 31 (0, 0)) ∧ cs.size = 5 ∧ ((listed.setIfInBounds 4 true).getD 4 true = true → cs = #[.int .i64 y1, .int .i64 y2, .int .i64 y3, .string y4, .slice y5 y6 y7])) ∧ Inv (putL W bp 0 [.int .i64 y1, .int .i64 y2, .int .i64 y3, .string y4, .slice y5 y6 y7]) := by
        exact ⟨_, rfl, is, ip7, ip3, ip4, ip5, fun h => iv0 ((set_listed h).resolve_left (by decide)), fun h => iv1 ((set_listed h).resolve_left (by decide)), fun h => iv2 ((set_listed h).resolve_left (by decide)), fun h => iv5 ((set_listed h).resolve_left (by decide)), (putL_other _ _ _ _ ngpbp).trans irgp, (putL_other _ _ _ _ nnbp).trans irn, ⟨csbx, (putL_other _ _ _ _ nbxbp).trans ihbx, izbx, fun h => icbx ((set_listed h).resolve_left (by decide))⟩, ⟨_, putL_all _ W bp _ _ ihbp rfl, rfl, fun _ => rfl⟩, hIbp W _ _ ihbp iI⟩
      have HH := Lib.hid HN
      clear HN iI iv0 iv1 iv2 iv5 irgp irn ihbx icbx ihbp icbp
      refine wpOp_step rfl (fun K hK => ?_)
      go_simp
      exact hK _ _ HH.out
    · have hdz : 6 < tm.size := by rw [is]; decide
      have HN : ∃ tm', (⟨tm.setIfInBounds 6 (.int .i64 0), df⟩ : Act) = ⟨tm', df⟩ ∧ tm'.size = 25 ∧ tm'.getD 7 undef = .pointer (some ⟨gp, 0, none⟩) ∧ tm'.getD 3 undef = .pointer (some ⟨n, 0, none⟩) ∧ tm'.getD 4 undef = .pointer (some ⟨bx, 0, none⟩) ∧ tm'.getD 5 undef = .pointer (some ⟨bp, 0, none⟩) ∧ ((listed.setIfInBounds 5 true).getD 0 true = true → tm'.getD 22 undef = .agg #[.int .i64 x0, .int .i64 x1, .int .i64 x2, .string x3, .slice xa xn xc]) ∧ ((listed.setIfInBounds 5 true).getD 1 true = true → tm'.getD 23 undef = .pointer (some ⟨n, 1, none⟩)) ∧ ((listed.setIfInBounds 5 true).getD 2 true = true → tm'.getD 24 undef = .agg #[.int .i64 y1, .int .i64 y2, .int .i64 y3, .string y4, .slice y5 y6 y7]) ∧ ((listed.setIfInBounds 5 true).getD 5 true = true → tm'.getD 6 undef = .int .i64 0) ∧ W.heap[gp]? = some (.cells #[.int .i64 x0, .int .i64 x1, .int .i64 x2, .string x3, .slice xa xn xc] 31 (0, 0)) ∧ W.heap[n]? = some (.cells #[.int .i64 y0, .int .i64 y1, .int .i64 y2, .int .i64 y3, .string y4, .slice y5 y6 y7, .slice y8 y9 y10] 36 (0, 0)) ∧ (∃ cs, W.heap[bx]? = some (.cells cs 31 (0, 0)) ∧ cs.size = 5 ∧ ((listed.setIfInBounds 5 true).getD 3 true = true → cs = #[.int .i64 x0, .int .i64 x1, .int .i64 x2, .string x3, .slice xa xn xc])) ∧ (∃ cs, W.heap[bp]? = some (.cells cs 31 (0, 0)) ∧ cs.size = 5 ∧ ((listed.setIfInBounds 5 true).getD 4 true = true → cs = #[.int .i64 y1, .int .i64 y2, .int .i64 y3, .string y4, .slice y5 y6 y7])) ∧ Inv W := by
        exact ⟨_, rfl, by rw [Array.size_setIfInBounds]; exact is, (getD_ne (by decide)).trans ip7, (getD_ne (by decide)).trans ip3, (getD_ne (by decide)).trans ip4, (getD_ne (by decide)).trans ip5, fun h => (getD_ne (by decide)).trans (iv0 ((set_listed h).resolve_left (by decide))), fun h => (getD_ne (by decide)).trans (iv1 ((set_listed h).resolve_left (by decide))), fun h => (getD_ne (by decide)).trans (iv2 ((set_listed h).resolve_left (by decide))), fun _ => getD_same hdz, irgp, irn, ⟨csbx, ihbx, izbx, fun h => icbx ((set_listed h).resolve_left (by decide))⟩, ⟨csbp, ihbp, izbp, fun h => icbp ((set_listed h).resolve_left (by decide))⟩, iI⟩
      have HH := Lib.hid HN
      clear HN iI iv0 iv1 iv2 iv5 irgp irn ihbx icbx ihbp icbp
      refine wpOp_step rfl (fun K hK => ?_)
      go_simp
      exact hK _ _ HH.out
end Go.Proofs.YtcdlgmncalmihaaDoor
