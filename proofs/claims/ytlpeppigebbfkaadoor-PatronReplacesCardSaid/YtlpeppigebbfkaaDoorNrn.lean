/- The walk of the reference's Remove (layer 28). -/
import Derived.Test.YtlpeppigebbfkaaDoorNrm
import Derived.Test.YtlpeppigebbfkaaDoorNrs
import Derived.Deep.RegionLaw
namespace Go.Proofs.YtlpeppigebbfkaaDoor
open Go Go.RowKit

/-- append to a row of one's own, as one step of a region that draws. -/
theorem step_append_own {P : Program} {ops : Array Oper} {o : Oper} {a : Act} {w : World} {K : Act → World → Prop} {Q : Exit → Act → World → Prop} {E : Prop}
    (hg : o.guard = none) (s x : Operand) (t : TypeId) (ho : o.op = Op.call { callee := Callee.builtin Builtin.append, args := #[s, x], argTypes := #[t, t] })
    (base : Nat) (e : TypeId) (i : TypeInfo) (z : Value) (size bytes : Nat) (ht : P.underlying t = some (.slice e)) (hi : P.info? e = some i) (hz : i.zero = some z)
    (hsize : i.size = size) (hby : i.bytes = bytes) (hzs : z.cells.size = size) (hsz : 0 < size)
    (v : Value) (n : Nat) (xs : List Value) (hs : a.eval s = v) (hown : w.ownsRow base e size v n xs)
    (ad : Addr) (m c : Nat) (news : List Value) (hx : a.eval x = .slice (some ad) m c) (hl : news.length = m * size) (hnews : ∀ j u, news[j]? = some u → w.cell? (ad.add j) = some u) (h1 : ∀ u ∈ news, u.oneCell' = true)
    (h63 : n + m ≤ maxLen) (hbytes : (n + m) * bytes ≤ 140737488355328) (hbase : base ≤ w.heap.size)
    (h : ∀ v' w', w'.ownsRow base e size v' (n + m) (xs ++ news) → w.grownBy w' v.ownBlock → (v' = .slice none 0 0 ↔ v = .slice none 0 0 ∧ m = 0) → K (a.put o.dst v') w') :
    if Region.wanted o (yielded ops a.tmps) = true then Oper.wp P o a w K Q else E := by
  have hw : Region.wanted o (yielded ops a.tmps) = true := by simp [Region.wanted, hg]
  rw [if_pos hw]
  exact wp_append_own w s x t ho base e i z size bytes ht hi hz hsize hby hzs hsz v n xs hs hown ad m c news hx hl hnews h1 h63 hbytes hbase h

set_option maxRecDepth 100000 in
set_option maxHeartbeats 2000000 in
theorem rRemove (v : Value) (l : List Pat) (x : Int) (w : World) (hv : Pats w v l) (hl : l.length ≤ 1000) :
    Calls Tryd.prog 30 #[v, .int .i64 x] w (RetPats w (removeL l x).1 (removeL l x).2) := by
  obtain ⟨i0, hi, hz0, hz1, hz2⟩ := info_parts infoPat
  have HI := Lib.hid hi; have HZ0 := Lib.hid hz0; have HZ1 := Lib.hid hz1; have HZ2 := Lib.hid hz2
  clear hi hz0 hz1 hz2
  have hpl := rAt v l x w hv (by omega)
  rcases at64_range l x with ⟨h1, -⟩ | ⟨i, q, h1, hq, -, -⟩
  · rw [h1] at hpl
    rw [remove_none h1]
    have HPL := Lib.hid hpl
    clear hpl h1 hv
    go_enter Tryd.func30, Tryd.ntmps30
    go_wp2_with fail
    refine HPL.out.mono ?_
    rintro e w1 ⟨rfl, rfl⟩
    go_wp2
    go_ret2
    exact ⟨_, rfl, pats_nil _, Below.refl _ _⟩
  · rw [h1] at hpl
    obtain ⟨-, hil⟩ := at64_some h1
    rw [remove_some h1]
    have hcl := fun W (hW : Below w.heap.size w W) => hv.below hW (Nat.le_refl _)
    obtain ⟨pa, pc, rfl, hpc, hcells⟩ := hv
    obtain ⟨b, o, rfl, hbl, -⟩ : ∃ b o, pa = some ⟨b, o, none⟩ ∧ b < w.heap.size ∧ ∀ j p, l[j]? = some p → ∀ i u, p.enc[i]? = some u → w.cell? ⟨b, o + j * 6 + i, none⟩ = some u := by
      rcases hcells with h0 | h
      · rw [h0] at hil; simp at hil
      · exact h
    have HPL := Lib.hid hpl
    have HT := Lib.hid (fun W (hW : Below w.heap.size w W) (j : Nat) (u : Value) (hj : (pcells (l.take i))[j]? = some u) => (hcl W hW).cells rfl j u (by
      have : pcells l = pcells (l.take i) ++ pcells (l.drop i) := by rw [← pcells_append, List.take_append_drop]
      rw [this, List.getElem?_append_left (List.getElem?_eq_some_iff.1 hj).1, hj]))
    have HD := Lib.hid (fun W (hW : Below w.heap.size w W) (j : Nat) (u : Value) (hj : (pcells (l.drop (i + 1)))[j]? = some u) => (hcl W hW).cells rfl ((i + 1) * 6 + j) u (by
      have : pcells l = pcells (l.take (i + 1)) ++ pcells (l.drop (i + 1)) := by rw [← pcells_append, List.take_append_drop]
      have h2 : (pcells (l.take (i + 1))).length = (i + 1) * 6 := by rw [pcells_len, List.length_take, Nat.min_eq_left hil]
      rw [this, List.getElem?_append_right (by omega), h2, Nat.add_sub_cancel_left, hj]))
    have HLT : (pcells (l.take i)).length = i * 6 := by rw [pcells_len, List.length_take, Nat.min_eq_left (by omega)]
    have HLD : (pcells (l.drop (i + 1))).length = (l.length - (i + 1)) * 6 := by rw [pcells_len, List.length_drop]
    have HER : pcells (l.take i) ++ pcells (l.drop (i + 1)) = pcells (l.eraseIdx i) := by rw [← pcells_append, List.eraseIdx_eq_take_drop_succ]
    have HEL : (l.eraseIdx i).length = i + (l.length - (i + 1)) := by rw [List.length_eraseIdx, if_pos hil]; omega
    obtain ⟨n, hnn⟩ : ∃ n, n = l.length := ⟨_, rfl⟩
    rw [← hnn] at hil hpc HPL hl HLD HEL ⊢
    obtain ⟨XT, hXT⟩ : ∃ XT, XT = pcells (l.take i) := ⟨_, rfl⟩
    obtain ⟨XD, hXD⟩ : ∃ XD, XD = pcells (l.drop (i + 1)) := ⟨_, rfl⟩
    have H1T : ∀ u ∈ XT, u.oneCell' = true := by rw [hXT]; exact pcells_one _
    have H1D : ∀ u ∈ XD, u.oneCell' = true := by rw [hXD]; exact pcells_one _
    rw [← hXT] at HT HLT HER
    rw [← hXD] at HD HLD HER
    have H1 := Lib.hid HLT
    have H2 := Lib.hid HLD
    have H3 := Lib.hid HER
    have H4 := Lib.hid HEL
    have H5 := Lib.hid H1T
    have H6 := Lib.hid H1D
    have hiz : (i : Int) < (n : Int) := by omega
    have hle : i ≤ pc := by omega
    clear hpl hcl hcells h1 hq hnn hXT hXD HLT HLD HER HEL H1T H1D
    have hwp : IntKind.i64.wrap ((i : Int) + 1) = ((i + 1 : Nat) : Int) := by rw [IntKind.wrap_i64]; omega
    have hcap : pc = i + 1 ∨ ¬ pc = i + 1 := Decidable.em _
    rcases hcap with hcap | hcap
    · obtain rfl : n = i + 1 := by omega
      subst hcap
      have H2 : Hid (XD.length = 0 * 6) := Lib.hid (by have := H2.out; omega)
      have H4 : Hid ((l.eraseIdx i).length = i + 0) := Lib.hid (by have := H4.out; omega)
      have hi2 : (i : Int) ≤ (i : Int) + 1 := by omega
      have hi0 : (0 : Int) ≤ (i : Int) + 1 := by omega
      go_enter Tryd.func30, Tryd.ntmps30
      go_wp2_with fail
      refine HPL.out.mono ?_
      rintro e w1 ⟨rfl, rfl⟩
      go_wp2_with fail
      go_region_law (first
        | (refine step_append_own rfl (.tmp 12) (.tmp 15) 22 rfl w1.heap.size 28 i0 (.agg #[.int .i64 0, .int .i64 0, .int .i64 0, .int .i64 0, .bool false, .string ⟨#[]⟩]) 6 56 Tryd.underlying22 HI.out HZ0.out HZ1.out HZ2.out rfl (by decide) (.slice (some ⟨w1.heap.size, 0, none⟩) 0 0) 0 [] ?_ (World.ownsRow_made w1.drew #[] 0 (Nat.le_refl _) (Nat.zero_le _) (by simp)) ⟨b, o, none⟩ i (i + 1) XT ?_ H1.out ?_ H5.out ?_ ?_ ?_ ?_
           rfl
           rfl
           (exact fun j u hj => Lib.cell?_alloc_some _ (HT.out _ (Below.refl _ _).drew j u hj))
           (unfold maxLen; omega)
           omega
           (simp; try omega)
           intro v2 w2 hown hgrow hnil
           have hb12 : Below w1.heap.size w1 w2 := (((Below.refl _ w1).drew).alloc (Nat.le_refl _) _).grown hgrow (by simp) (by intro k hk; simp [Value.ownBlock] at hk; first | exact Nat.le_of_eq hk | exact Nat.le_of_eq hk.symm)
           have HO2 : Hid (w2.ownsRow w1.heap.size 28 6 v2 i XT) := Lib.hid (by simpa using hown)
           have HB2 := Lib.hid hb12
           clear hown hgrow hnil hb12)
        | (refine step_append_own rfl (.tmp 16) (.tmp 20) 22 rfl w1.heap.size 28 i0 (.agg #[.int .i64 0, .int .i64 0, .int .i64 0, .int .i64 0, .bool false, .string ⟨#[]⟩]) 6 56 Tryd.underlying22 HI.out HZ0.out HZ1.out HZ2.out rfl (by decide) v2 i XT ?_ HO2.out ⟨b, o, none⟩ 0 0 XD ?_ H2.out ?_ H6.out ?_ ?_ ?_ ?_
           rfl
           rfl
           (exact fun j u hj => by (have h9 : XD.length = 0 := by have := H2.out; omega); rw [List.eq_nil_of_length_eq_zero h9] at hj; cases hj)
           (unfold maxLen; omega)
           omega
           exact HB2.out.size
           intro v3 w3 hown3 hgrow3 hnil3
           have HO3 : Hid (w3.ownsRow w1.heap.size 28 6 v3 (l.eraseIdx i).length (pcells (l.eraseIdx i))) := Lib.hid (by rw [H4.out, ← H3.out]; exact hown3)
           have HB3 : Hid (Below w1.heap.size w1 w3) := Lib.hid (HB2.out.grown hgrow3 HB2.out.size (fun k hk => (HO2.out.lt k hk).1))
           clear hown3 hgrow3 hnil3))
      all_goals (try go_wp2)
      all_goals go_ret2
      all_goals exact ⟨_, rfl, Pats.of_own HO3.out rfl, HB3.out⟩
    · have hi1 : (i : Int) + 1 ≤ (n : Int) := by omega
      have hi0 : (0 : Int) ≤ (i : Int) + 1 := by omega
      have hi2 : (i : Int) ≤ (pc : Int) := by omega
      go_enter Tryd.func30, Tryd.ntmps30
      go_wp2_with fail
      refine HPL.out.mono ?_
      rintro e w1 ⟨rfl, rfl⟩
      go_wp2_with fail
      go_region_law (first
        | (refine step_append_own rfl (.tmp 12) (.tmp 15) 22 rfl w1.heap.size 28 i0 (.agg #[.int .i64 0, .int .i64 0, .int .i64 0, .int .i64 0, .bool false, .string ⟨#[]⟩]) 6 56 Tryd.underlying22 HI.out HZ0.out HZ1.out HZ2.out rfl (by decide) (.slice (some ⟨w1.heap.size, 0, none⟩) 0 0) 0 [] ?_ (World.ownsRow_made w1.drew #[] 0 (Nat.le_refl _) (Nat.zero_le _) (by simp)) ⟨b, o, none⟩ i pc XT ?_ H1.out ?_ H5.out ?_ ?_ ?_ ?_
           rfl
           rfl
           (exact fun j u hj => Lib.cell?_alloc_some _ (HT.out _ (Below.refl _ _).drew j u hj))
           (unfold maxLen; omega)
           omega
           (simp; try omega)
           intro v2 w2 hown hgrow hnil
           have hb12 : Below w1.heap.size w1 w2 := (((Below.refl _ w1).drew).alloc (Nat.le_refl _) _).grown hgrow (by simp) (by intro k hk; simp [Value.ownBlock] at hk; first | exact Nat.le_of_eq hk | exact Nat.le_of_eq hk.symm)
           have HO2 : Hid (w2.ownsRow w1.heap.size 28 6 v2 i XT) := Lib.hid (by simpa using hown)
           have HB2 := Lib.hid hb12
           clear hown hgrow hnil hb12)
        | (refine step_append_own rfl (.tmp 16) (.tmp 20) 22 rfl w1.heap.size 28 i0 (.agg #[.int .i64 0, .int .i64 0, .int .i64 0, .int .i64 0, .bool false, .string ⟨#[]⟩]) 6 56 Tryd.underlying22 HI.out HZ0.out HZ1.out HZ2.out rfl (by decide) v2 i XT ?_ HO2.out ⟨b, o + (i + 1) * 6, none⟩ (n - (i + 1)) (pc - (i + 1)) XD ?_ H2.out ?_ H6.out ?_ ?_ ?_ ?_
           rfl
           rfl
           (exact fun j u hj => by have := HD.out _ HB2.out j u hj; rw [Addr.add_lit] at this ⊢; rw [Nat.add_assoc]; exact this)
           (unfold maxLen; omega)
           omega
           exact HB2.out.size
           intro v3 w3 hown3 hgrow3 hnil3
           have HO3 : Hid (w3.ownsRow w1.heap.size 28 6 v3 (l.eraseIdx i).length (pcells (l.eraseIdx i))) := Lib.hid (by rw [H4.out, ← H3.out]; exact hown3)
           have HB3 : Hid (Below w1.heap.size w1 w3) := Lib.hid (HB2.out.grown hgrow3 HB2.out.size (fun k hk => (HO2.out.lt k hk).1))
           clear hown3 hgrow3 hnil3))
      all_goals (try go_wp2)
      all_goals go_ret2
      all_goals exact ⟨_, rfl, Pats.of_own HO3.out rfl, HB3.out⟩
end Go.Proofs.YtlpeppigebbfkaaDoor
