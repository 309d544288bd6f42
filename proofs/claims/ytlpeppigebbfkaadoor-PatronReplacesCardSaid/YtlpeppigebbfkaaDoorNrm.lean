/- Plain Lean: a patron that was added is found, and without it the list is as it was (layer 28). No program in sight. The walk of the program's Remove (layer 28). -/
import Derived.Test.YtlpeppigebbfkaaDoorNra
import Derived.Test.YtlpeppigebbfkaaDoorNse
import Derived.Test.YtlpeppigebbfkaaDoorNgt
import Derived.Test.YtlpeppigebbfkaaDoorNdl
import Derived.Test.YtlpeppigebbfkaaDoorNrq
namespace Go.Proofs.YtlpeppigebbfkaaDoor
open Go
/-- Without the first patron with an ID, or refused. -/
def removeL (l : List Pat) (x : Int) : List Pat × Int := match l.findIdx? (fun p => p.id == x) with | none => ([], 9) | some i => (l.eraseIdx i, 0)
theorem erase_insP (p : Pat) : ∀ l : List Pat, (∀ q ∈ l, q.id ≠ p.id) → ∃ i, (insP p l).findIdx? (fun q => q.id == p.id) = some i ∧ (insP p l).eraseIdx i = l
  | [], _ => ⟨0, by simp [insP], by simp [insP]⟩
  | q :: r, h => by
    have hq := h q List.mem_cons_self
    unfold insP
    by_cases hl : p.id < q.id
    · rw [if_pos hl]
      exact ⟨0, by simp [List.findIdx?_cons], by simp⟩
    · rw [if_neg hl]
      obtain ⟨i, h1, h2⟩ := erase_insP p r fun q hq => h q (List.mem_cons_of_mem _ hq)
      refine ⟨i + 1, ?_, by rw [List.eraseIdx_cons_succ, h2]⟩
      rw [List.findIdx?_cons, h1, if_neg (by simpa using hq)]
      rfl
theorem remove_insP {p : Pat} {l : List Pat} (h : ∀ q ∈ l, q.id ≠ p.id) : removeL (insP p l) p.id = (l, 0) := by
  obtain ⟨i, h1, h2⟩ := erase_insP p l h
  unfold removeL
  rw [h1]
  simp only [h2]
theorem get_insP {p : Pat} : ∀ {l : List Pat}, (∀ q ∈ l, q.id ≠ p.id) → getPat (insP p l) p.id = (p, true)
  | [], _ => by simp [insP, getPat]
  | q :: r, h => by
    have hq := h q List.mem_cons_self
    have hr := get_insP (p := p) (l := r) fun q hq => h q (List.mem_cons_of_mem _ hq)
    unfold insP
    by_cases hl : p.id < q.id
    · rw [if_pos hl]
      simp [getPat]
    · rw [if_neg hl]
      unfold getPat at hr ⊢
      rw [List.find?_cons_of_neg (by simpa using hq)]
      exact hr
theorem mem_insP (p : Pat) : ∀ l : List Pat, p ∈ insP p l
  | [] => by simp [insP]
  | q :: r => by
    unfold insP
    by_cases hl : p.id < q.id
    · rw [if_pos hl]; exact List.mem_cons_self
    · rw [if_neg hl]; exact List.mem_cons_of_mem _ (mem_insP p r)
theorem at64_notin {l : List Pat} {x : Int} (h : at64 l x = -1) : ∀ q ∈ l, q.id ≠ x := by
  rcases at64_range l x with ⟨-, h1⟩ | ⟨i, q, h1, -⟩
  · exact h1
  · rw [h] at h1; omega
theorem add_ok {F : ByteArray → Bool} {l : List Pat} {p : Pat} (h : (addL F l p).2 = 0) : at64 l p.id = -1 ∧ (addL F l p).1 = insP p l ∧ right F (insP p l) = 0 := by
  rcases at64_range l p.id with ⟨h1, -⟩ | ⟨i, q, h1, -⟩
  · have hr : addL F l p = if right F (insP p l) = 0 then (insP p l, 0) else ([], right F (insP p l)) := by unfold addL; rw [at64_none h1]; rfl
    rw [hr] at h ⊢
    by_cases h0 : right F (insP p l) = 0
    · rw [if_pos h0]; exact ⟨h1, rfl, h0⟩
    · rw [if_neg h0] at h; exact absurd h h0
  · have hr : addL F l p = ([], 7) := by unfold addL; rw [(at64_some h1).1]; rfl
    rw [hr] at h; cases h
theorem add_bad {F : ByteArray → Bool} {l : List Pat} {p : Pat} (h : (addL F l p).2 ≠ 0) : (addL F l p).1 = [] := by
  rcases at64_range l p.id with ⟨h1, -⟩ | ⟨i, q, h1, -⟩
  · have hr : addL F l p = if right F (insP p l) = 0 then (insP p l, 0) else ([], right F (insP p l)) := by unfold addL; rw [at64_none h1]; rfl
    rw [hr] at h ⊢
    by_cases h0 : right F (insP p l) = 0
    · rw [if_pos h0] at h; exact absurd rfl h
    · rw [if_neg h0]
  · have hr : addL F l p = ([], 7) := by unfold addL; rw [(at64_some h1).1]; rfl
    rw [hr]
theorem preOf_self (x : ByteArray) : preOf x x = true := by
  unfold preOf Lib.hasPrefix
  rw [List.isPrefixOf_iff_prefix]
  exact List.prefix_refl _
theorem begW_mem {x : ByteArray} {xs : List ByteArray} (h : x ∈ xs) : begW x xs = true := by
  unfold begW; rw [List.any_eq_true]; exact ⟨x, h, preOf_self x⟩
theorem hit_self (G : ByteArray → List ByteArray) (p : Pat) : hit G (G p.name) p = !(G p.name).isEmpty := by
  unfold hit
  have : ((G p.name).any fun word => !begW word (G p.name)) = false := by
    rw [List.any_eq_false]
    intro x hx
    simp [begW_mem hx]
  rw [this]; simp
/-- A patron's own words find it, if there are any. -/
theorem found_self (G : ByteArray → List ByteArray) (p : Pat) (m : List Pat) (h : p ∈ m) : (searchL G (G p.name) m).any (fun x => decide (x = p.id)) = !(G p.name).isEmpty := by
  cases hG : G p.name with
  | nil => unfold searchL; simp [hit]
  | cons x xs =>
    have hh := hit_self G p
    rw [hG] at hh
    have : p.id ∈ searchL G (x :: xs) m := by
      unfold searchL
      exact List.mem_map.2 ⟨p, List.mem_filter.2 ⟨h, by rw [hh]; rfl⟩, rfl⟩
    rw [List.any_eq_true.2 ⟨p.id, this, by simp⟩]
    rfl
theorem search_len (G : ByteArray → List ByteArray) (W : List ByteArray) (m : List Pat) : (searchL G W m).length ≤ m.length := by
  unfold searchL; rw [List.length_map]; exact List.length_filter_le _ _
theorem right_len {F : ByteArray → Bool} {l : List Pat} (h : right F l = 0) : l.length ≤ 32 := by
  unfold right at h
  split at h
  · cases h
  · omega
theorem rightFrom_names {F : ByteArray → Bool} : ∀ {l : List Pat} {x : Int}, rightFrom F x l = 0 → ∀ p ∈ l, F p.name = true ∧ p.name.size ≤ 200
  | [], _, _, p, hp => by cases hp
  | q :: r, x, h, p, hp => by
    unfold rightFrom at h
    split at h
    · cases h
    split at h
    · cases h
    split at h
    · rename_i h1; exact absurd h h1
    rename_i h1
    have h2 : chk F q = 0 := Decidable.not_not.1 h1
    rcases List.mem_cons.1 hp with rfl | hp
    · unfold chk at h2
      split at h2
      · cases h2
      split at h2
      · cases h2
      split at h2
      · cases h2
      split at h2
      · cases h2
      rename_i h3 h4
      exact ⟨by simpa using h3, by omega⟩
    · exact rightFrom_names h p hp
theorem right_names {F : ByteArray → Bool} {l : List Pat} (h : right F l = 0) : ∀ p ∈ l, F p.name = true ∧ p.name.size ≤ 200 := by
  unfold right at h
  split at h
  · cases h
  · exact rightFrom_names h
end Go.Proofs.YtlpeppigebbfkaaDoor
namespace Go.Proofs.YtlpeppigebbfkaaDoor
open Go Go.RowKit

theorem remove_none {l : List Pat} {x : Int} (h : at64 l x = -1) : removeL l x = ([], 9) := by unfold removeL; rw [at64_none h]
theorem remove_some {l : List Pat} {x : Int} {i : Nat} (h : at64 l x = (i : Int)) : removeL l x = (l.eraseIdx i, 0) := by unfold removeL; rw [(at64_some h).1]

set_option maxRecDepth 100000 in
set_option maxHeartbeats 2000000 in
theorem pRemove (v : Value) (l : List Pat) (x : Int) (w : World) (hv : Pats w v l) (hl : l.length ≤ 1000) :
    Calls Tryd.prog 26 #[v, .int .i64 x] w (RetPats w (removeL l x).1 (removeL l x).2) := by
  have hpl := pPlace v l x w hv (by omega)
  rcases at64_range l x with ⟨h1, -⟩ | ⟨i, q, h1, hq, -, -⟩
  · rw [h1] at hpl
    rw [remove_none h1]
    have HPL := Lib.hid hpl
    clear hpl h1 hv
    go_enter Tryd.func26, Tryd.ntmps26
    go_wp2_with fail
    refine HPL.out.mono ?_
    rintro e w1 ⟨rfl, b1⟩
    have HB1 := Lib.hid b1
    clear b1
    go_wp2
    go_ret2
    exact ⟨_, rfl, pats_nil _, HB1.out⟩
  · rw [h1] at hpl
    obtain ⟨-, hil⟩ := at64_some h1
    rw [remove_some h1]
    have hcl := fun W (hW : Below w.heap.size w W) => hv.below hW (Nat.le_refl _)
    obtain ⟨pa, pc, rfl, hpc, hcells⟩ := hv
    obtain ⟨b, o, rfl, -, -⟩ : ∃ b o, pa = some ⟨b, o, none⟩ ∧ b < w.heap.size ∧ ∀ j p, l[j]? = some p → ∀ i u, p.enc[i]? = some u → w.cell? ⟨b, o + j * 6 + i, none⟩ = some u := by
      rcases hcells with h0 | h
      · rw [h0] at hil; simp at hil
      · exact h
    have hclone := fun W (hW : Below w.heap.size w W) => pClone ⟨b, o, none⟩ pc l W hl (hcl W hW)
    have HPL := Lib.hid hpl
    have HCL := Lib.hid hclone
    obtain ⟨n, hnn⟩ : ∃ n, n = l.length := ⟨_, rfl⟩
    rw [← hnn] at hil hpc HCL HPL hl ⊢
    have hiz : (i : Int) < (n : Int) := by omega
    have HDEL := Lib.hid (fun (W : World) (g cap : Nat) (h : W.ownsRow w.heap.size 28 6 (.slice (some ⟨g, 0, none⟩) n cap) n (pcells l)) => pDelete h hl i (i + 1) hil rfl)
    clear hpl hclone hcl hcells h1 hq hnn
    go_enter Tryd.func26, Tryd.ntmps26
    go_wp2_with fail
    refine HPL.out.mono ?_
    rintro e w1 ⟨rfl, b1⟩
    have HB1 := Lib.hid b1
    clear b1
    go_wp2_with fail
    refine (HCL.out w1 HB1.out).mono ?_
    rintro e w2 ⟨v2, rfl, hown, hnil, b2⟩
    have hb2 : Below w.heap.size w w2 := HB1.out.bt b2
    obtain ⟨g, cap, rfl⟩ : ∃ g cap, v2 = .slice (some ⟨g, 0, none⟩) n cap := by
      rcases hown.2 with ⟨h0, -⟩ | ⟨g, cap, cur, hv, -⟩
      · exact absurd h0 hnil
      · exact ⟨g, cap, hv⟩
    have hgb : w.heap.size ≤ g := by
      have := hown.lt g rfl
      have := HB1.out.size
      omega
    have hown2 : w2.ownsRow w.heap.size 28 6 (.slice (some ⟨g, 0, none⟩) n cap) n (pcells l) := by
      refine ⟨hown.1, ?_⟩
      rcases hown.2 with ⟨h0, -⟩ | ⟨g', cap', cur, hv, -, rest⟩
      · exact absurd h0 hnil
      · cases hv
        exact .inr ⟨g, cap, cur, rfl, hgb, rest⟩
    have HO := Lib.hid hown2
    have HB2 := Lib.hid hb2
    clear hown hown2 hnil b2 hb2
    go_wp2_with fail
    refine (HDEL.out w2 g cap HO.out).mono ?_
    rintro e w3 ⟨rfl, hp3, hb3⟩
    have HP := Lib.hid hp3
    have HB3 := Lib.hid (hb3 _ _ HB2.out hgb)
    clear hp3 hb3
    go_wp2
    go_ret2
    exact ⟨_, rfl, HP.out, HB3.out⟩
end Go.Proofs.YtlpeppigebbfkaaDoor
