/- Slices of patrons in memory, and the walk of the program's Right (layer 28). -/
import Derived.Test.YtlpeppigebbfkaaDoorNck
namespace Go.Proofs.YtlpeppigebbfkaaDoor
open Go Go.RowKit

/-- The value is a slice whose cells hold these patrons. -/
def Pats (w : World) (v : Value) (l : List Pat) : Prop :=
  ∃ (a : Option Addr) (c : Nat), v = .slice a l.length c ∧ l.length ≤ c ∧
    (l = [] ∨ ∃ b o, a = some ⟨b, o, none⟩ ∧ b < w.heap.size ∧ ∀ j p, l[j]? = some p → ∀ i u, p.enc[i]? = some u → w.cell? ⟨b, o + j * 6 + i, none⟩ = some u)
theorem Pats.below {w w' : World} {v : Value} {l : List Pat} (h : Pats w v l) {B : Nat} (hb : Below B w w') (hB : w.heap.size ≤ B) : Pats w' v l := by
  obtain ⟨a, c, rfl, hc, h⟩ := h
  refine ⟨a, c, rfl, hc, ?_⟩
  rcases h with h | ⟨b, o, ha, hlt, hx⟩
  · exact .inl h
  · exact .inr ⟨b, o, ha, Nat.lt_of_lt_of_le hlt hb.size, fun j p hj i u hi => (hb.cell (p := ⟨b, o + j * 6 + i, none⟩) (by show b < B; omega)).trans (hx j p hj i u hi)⟩
/-- The six cells of a patron. -/
structure Six (w : World) (b o : Nat) (p : Pat) : Prop where
  c0 : w.cell? ⟨b, o, none⟩ = some (.int .i64 p.id)
  c1 : w.cell? ⟨b, o + 1, none⟩ = some (.int .i64 p.kind)
  c2 : w.cell? ⟨b, o + 2, none⟩ = some (.int .i64 p.branch)
  c3 : w.cell? ⟨b, o + 3, none⟩ = some (.int .i64 p.till)
  c4 : w.cell? ⟨b, o + 4, none⟩ = some (.bool p.stop)
  c5 : w.cell? ⟨b, o + 5, none⟩ = some (.string p.name)
theorem six_of {w : World} {b o : Nat} {p : Pat} (h : ∀ i u, p.enc[i]? = some u → w.cell? ⟨b, o + i, none⟩ = some u) : Six w b o p :=
  ⟨h 0 _ rfl, h 1 _ rfl, h 2 _ rfl, h 3 _ rfl, h 4 _ rfl, h 5 _ rfl⟩
theorem Six.below {w w' : World} {b o : Nat} {p : Pat} (h : Six w b o p) {B : Nat} (hb : Below B w w') (hB : b < B) : Six w' b o p :=
  ⟨(hb.cell (p := ⟨b, o, none⟩) hB).trans h.c0, (hb.cell (p := ⟨b, o + 1, none⟩) hB).trans h.c1, (hb.cell (p := ⟨b, o + 2, none⟩) hB).trans h.c2, (hb.cell (p := ⟨b, o + 3, none⟩) hB).trans h.c3, (hb.cell (p := ⟨b, o + 4, none⟩) hB).trans h.c4, (hb.cell (p := ⟨b, o + 5, none⟩) hB).trans h.c5⟩
theorem right_step (F : ByteArray → Bool) (last : Int) (l : List Pat) (k : Nat) (p : Pat) (h : l[k]? = some p) :
    rightFrom F last (l.drop k) = if p.id < 1 ∨ 9999 < p.id then 2 else if p.id ≤ last then 7 else if chk F p ≠ 0 then chk F p else rightFrom F p.id (l.drop (k + 1)) := by
  have hd : l.drop k = p :: l.drop (k + 1) := by
    obtain ⟨h', rfl⟩ := List.getElem?_eq_some_iff.1 h
    exact List.drop_eq_getElem_cons h'
  rw [hd]
  rfl

set_option maxRecDepth 100000 in
set_option maxHeartbeats 2000000 in
theorem pRight {F : ByteArray → Bool} (hF : ∀ n, F n = true ↔ formOk n) (v : Value) (l : List Pat) (w : World) (hE : Env w) (hv : Pats w v l) (hl : l.length ≤ 1000000) (hn : ∀ p ∈ l, p.name.size ≤ 1000000) :
    Calls Tryd.prog 12 #[v] w fun e w' => e = .returned (.int .i64 (right F l)) ∧ Below w.heap.size w w' := by
  obtain ⟨pa, pc, rfl, hpc, hcells⟩ := hv
  obtain ⟨R, hR⟩ : ∃ R, R = right F l := ⟨_, rfl⟩
  rw [← hR]
  unfold right at hR
  obtain ⟨n, hnn⟩ : ∃ n, n = l.length := ⟨_, rfl⟩
  rw [← hnn] at hl hpc hR ⊢
  have HN := Lib.hid hnn
  have HE := Lib.hid hE
  have HC := Lib.hid hcells
  have HS := Lib.hid hn
  clear hnn hE hcells hn
  by_cases h32 : 32 < n
  · rw [if_pos h32] at hR
    have HR := Lib.hid hR
    clear hR
    go_enter Tryd.func12, Tryd.ntmps12
    go_wp2
    go_ret
    exact ⟨by rw [HR.out]; rfl, Below.refl _ _⟩
  rw [if_neg h32] at hR
  have HR := Lib.hid hR
  clear hR
  go_enter Tryd.func12, Tryd.ntmps12
  go_wp2
  go_loopw [3, 12] (fun vl vk wr => ∃ (k : Nat) (last : Int), vk = .int .i64 k ∧ vl = .int .i64 last ∧ k ≤ n ∧ Hid (R = rightFrom F last (l.drop k)) ∧ Hid (Below w.heap.size w wr)) (fun _ vk _ => n - (intOf vk).toNat)
  case atStart => exact ⟨0, 0, rfl, rfl, by omega, Lib.hid (by simpa using HR.out), Lib.hid (Below.refl _ _)⟩
  case round =>
    obtain ⟨k, last, rfl, rfl, hk, HK, HB⟩ := hrel
    by_cases hlt : k < n
    · have hltz : (k : Int) < (n : Int) := by omega
      obtain ⟨p, hp⟩ : ∃ p, l[k]? = some p := ⟨_, List.getElem?_eq_getElem (by have := HN.out; omega)⟩
      rcases HC.out with h0 | ⟨b, o, rfl, hbl, hcl⟩
      · rw [h0] at hp; cases hp
      have hst := HK.out
      rw [right_step F last l k p hp] at hst
      have hsz := HS.out p (List.mem_of_getElem? hp)
      have h6 := (six_of (hcl k p hp)).below HB.out hbl
      have hck := fun W hW => pCheck hF p W hW hsz
      obtain ⟨c, hc⟩ : ∃ c, c = chk F p := ⟨_, rfl⟩
      rw [← hc] at hst hck
      have HCK := Lib.hid hck
      clear hck hc hsz hp hcl HK
      obtain ⟨id, kind, branch, till, stop, name⟩ := p
      obtain ⟨q0, q1, q2, q3, q4, q5⟩ := h6
      simp only at hst q0 q1 q2 q3 q4 q5
      have HB1 : Hid (Below w.heap.size w (wr.alloc (.cells #[.int .i64 id, .int .i64 kind, .int .i64 branch, .int .i64 till, .bool stop, .string name] 28))) := Lib.hid (HB.out.alloc HB.out.size _)
      by_cases h1 : id < 1 ∨ 9999 < id
      · rw [if_pos h1] at hst
        have HT := Lib.hid hst
        clear hst HR
        have hc : id < 1 ∨ (1 ≤ id ∧ 9999 < id) := by omega
        rcases hc with h | ⟨h, h'⟩
        all_goals
          clear h1
          go_wp2
          go_ret
          exact ⟨by rw [HT.out]; rfl, HB1.out⟩
      rw [if_neg h1] at hst
      obtain ⟨i1, i2⟩ : 1 ≤ id ∧ id ≤ 9999 := by omega
      clear h1
      by_cases h2 : id ≤ last
      · rw [if_pos h2] at hst
        have HT := Lib.hid hst
        clear hst HR
        go_wp2
        go_ret
        exact ⟨by rw [HT.out]; rfl, HB1.out⟩
      rw [if_neg h2] at hst
      have h2' : last < id := by omega
      clear h2
      by_cases h3 : c = 0
      · subst h3
        rw [if_neg (by simp)] at hst
        have HT := Lib.hid hst
        clear hst HR
        go_wp2_with fail
        refine (HCK.out _ (HE.out.below HB1.out)).mono ?_
        rintro e w2 ⟨rfl, b2⟩
        have HB2 : Hid (Below w.heap.size w w2) := Lib.hid (HB1.out.trans (b2.mono HB1.out.size))
        have c0 : w2.cell? ⟨wr.heap.size, 0, none⟩ = some (.int .i64 id) := by
          rw [b2.cell (by rw [World.size_alloc]; exact Nat.lt_succ_self _), Lib.cell_of_heap (heap_alloc_new wr _)]
          rfl
        clear b2
        go_wp2
        go_roundw
        case rel => exact ⟨k + 1, id, by go_num, rfl, by omega, HT, HB2⟩
        case measure => simp [intOf]; omega
      · rw [if_pos h3] at hst
        have HT := Lib.hid hst
        have h3' : (c != 0) = true := by simpa using h3
        clear hst HR
        go_wp2_with fail
        refine (HCK.out _ (HE.out.below HB1.out)).mono ?_
        rintro e w2 ⟨rfl, b2⟩
        have HB2 : Hid (Below w.heap.size w w2) := Lib.hid (HB1.out.trans (b2.mono HB1.out.size))
        clear b2
        go_wp2
        go_ret
        exact ⟨by rw [HT.out]; rfl, HB2.out⟩
    · have hltz : ¬ (k : Int) < (n : Int) := by omega
      have HT : Hid (R = 0) := Lib.hid (by rw [HK.out, List.drop_eq_nil_of_le (by have := HN.out; omega)]; rfl)
      clear HK HR
      go_wp2
      go_ret
      exact ⟨by rw [HT.out]; rfl, HB.out⟩
end Go.Proofs.YtlpeppigebbfkaaDoor
