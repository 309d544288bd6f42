/- The walks of checked and of the program's Replace (layer 28). -/
import Derived.Test.YtlpeppigebbfkaaDoorNcl
namespace Go.Proofs.YtlpeppigebbfkaaDoor
open Go Go.RowKit

/-- What a change hands back: the list, or nothing and the error. -/
def outV (e : Int) (v : Value) : Value := if e = 0 then v else .slice none 0 0
set_option maxRecDepth 100000 in
set_option maxHeartbeats 1000000 in
theorem pChecked {F : ByteArray → Bool} (hF : ∀ n, F n = true ↔ formOk n) (v : Value) (l : List Pat) (w : World) (hE : Env w) (hv : Pats w v l) (hl : l.length ≤ 1000000) (hn : ∀ p ∈ l, p.name.size ≤ 1000000) :
    Calls Tryd.prog 36 #[v] w fun e w' => e = .returned (.tuple #[outV (right F l) v, .int .i64 (right F l)]) ∧ Below w.heap.size w w' := by
  have hr := pRight hF v l w hE hv hl hn
  obtain ⟨R, hR⟩ : ∃ R, R = right F l := ⟨_, rfl⟩
  rw [← hR] at hr ⊢
  have HR := Lib.hid hr
  obtain ⟨pa, pc, rfl, hpc, -⟩ := hv
  clear hr hR hE
  unfold outV
  by_cases h0 : R = 0
  · subst h0
    rw [if_pos rfl]
    go_enter Tryd.func36, Tryd.ntmps36
    go_wp2_with fail
    refine HR.out.mono ?_
    rintro e w1 ⟨rfl, b1⟩
    go_wp2
    go_ret2
    exact ⟨rfl, b1⟩
  · have h0' : (R != 0) = true := by simpa using h0
    rw [if_neg h0]
    go_enter Tryd.func36, Tryd.ntmps36
    go_wp2_with fail
    refine HR.out.mono ?_
    rintro e w1 ⟨rfl, b1⟩
    go_wp2
    go_ret2
    exact ⟨rfl, b1⟩

/-- A list with another patron at a place, in the row that a call owns. -/
theorem own_put {w : World} {base n : Nat} {g cap : Nat} {l : List Pat} {T : TypeId} (h : w.ownsRow base T 6 (.slice (some ⟨g, 0, none⟩) n cap) n (pcells l)) {i : Nat} (hi : i < l.length) (p : Pat) :
    Pats (put6 w g (i * 6) p) (.slice (some ⟨g, 0, none⟩) n cap) (l.set i p) ∧ (∀ j, j < 6 → (w.cell? ⟨g, i * 6 + j, none⟩).isSome = true ∧ w.frozen? ⟨g, i * 6 + j, none⟩ = false) := by
  have hn : n = l.length := by have := h.1; rw [pcells_len] at this; omega
  have hp := Pats.of_own h hn
  have hc := hp.cells rfl
  have hl : ∀ j p', l[j]? = some p' → ∀ k u, p'.enc[k]? = some u → w.cell? ⟨g, j * 6 + k, none⟩ = some u := by
    intro j p' hj k u hk
    have hk6 : k < 6 := (List.getElem?_eq_some_iff.1 hk).1
    have := hc (j * 6 + k) u (by rw [pcells_at l j p' hj k hk6]; exact hk)
    rwa [Addr.add_lit, Nat.zero_add] at this
  have hsome : ∀ j, j < 6 → (w.cell? ⟨g, i * 6 + j, none⟩).isSome = true := by
    intro j hj
    obtain ⟨q, hq⟩ : ∃ q, l[i]? = some q := ⟨_, List.getElem?_eq_getElem hi⟩
    obtain ⟨u, hu⟩ : ∃ u, q.enc[j]? = some u := ⟨_, List.getElem?_eq_getElem (by rw [enc_len]; exact hj)⟩
    rw [hl i q hq j u hu]
    rfl
  rcases h.2 with ⟨h0, -⟩ | ⟨g', cap', cur, he, hb, hh, hcap, hmax, hsz, ht⟩
  · cases h0
  cases he
  refine ⟨⟨_, cap, by rw [List.length_set, hn], by rw [List.length_set]; omega, .inr ⟨g, 0, rfl, ?_, ?_⟩⟩, fun j hj => ⟨hsome j hj, by simp [World.frozen?, hh]⟩⟩
  · have := (Array.getElem?_eq_some_iff.1 hh).1
    unfold put6
    rw [World.size_setCell, World.size_setCell, World.size_setCell, World.size_setCell, World.size_setCell, World.size_setCell]
    exact this
  · intro j q hj k u hk
    have hk6 : k < 6 := (List.getElem?_eq_some_iff.1 hk).1
    rw [Nat.zero_add]
    by_cases hji : j = i
    · subst hji
      rw [List.getElem?_set_self hi] at hj
      cases hj
      have h6 := six_put (w := w) (b := g) (o := j * 6) (p := p) hsome
      have : k = 0 ∨ k = 1 ∨ k = 2 ∨ k = 3 ∨ k = 4 ∨ k = 5 := by omega
      rcases this with rfl | rfl | rfl | rfl | rfl | rfl <;> (cases hk)
      · exact h6.c0
      · exact h6.c1
      · exact h6.c2
      · exact h6.c3
      · exact h6.c4
      · exact h6.c5
    · rw [List.getElem?_set_ne (fun e => hji e.symm)] at hj
      rw [put6_away (.inr (by omega))]
      exact hl j q hj k u hk
end Go.Proofs.YtlpeppigebbfkaaDoor
