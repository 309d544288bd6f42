/- The walks of place, At and Get, the program's and the reference's (layer 28). -/
import Derived.Test.YtlpeppigebbfkaaDoorNrw
namespace Go.Proofs.YtlpeppigebbfkaaDoor
open Go Go.RowKit

/-- The place of an ID, as a number: -1 where there is none. -/
def at64 (l : List Pat) (id : Int) : Int := match l.findIdx? (fun p => p.id == id) with | some i => (i : Int) | none => -1
theorem at64_range (l : List Pat) (id : Int) : (at64 l id = -1 ∧ ∀ p ∈ l, p.id ≠ id) ∨ ∃ (i : Nat) (p : Pat), at64 l id = (i : Int) ∧ l[i]? = some p ∧ p.id = id ∧ ∀ j q, j < i → l[j]? = some q → q.id ≠ id := by
  unfold at64
  cases h : l.findIdx? (fun p => p.id == id) with
  | none =>
    left
    refine ⟨rfl, fun p hp e => ?_⟩
    have := List.findIdx?_eq_none_iff.1 h p hp
    simp [e] at this
  | some i =>
    right
    obtain ⟨hi, hp, hj⟩ := List.findIdx?_eq_some_iff_getElem.1 h
    refine ⟨i, l[i], rfl, List.getElem?_eq_getElem hi, by simpa using hp, fun j q hjl hq e => ?_⟩
    obtain ⟨h', rfl⟩ := List.getElem?_eq_some_iff.1 hq
    have := hj j hjl
    simp [e] at this
/-- From place k on: what a search that has found nothing so far returns. -/
def atFrom (l : List Pat) (id : Int) (k : Nat) : Int := match (l.drop k).findIdx? (fun p => p.id == id) with | some i => ((k + i : Nat) : Int) | none => -1
theorem atFrom_zero (l : List Pat) (id : Int) : atFrom l id 0 = at64 l id := by
  unfold atFrom at64
  rw [List.drop_zero]
  split <;> simp
theorem atFrom_step (l : List Pat) (id : Int) (k : Nat) (p : Pat) (h : l[k]? = some p) : atFrom l id k = if p.id = id then (k : Int) else atFrom l id (k + 1) := by
  have hd : l.drop k = p :: l.drop (k + 1) := by
    obtain ⟨h', rfl⟩ := List.getElem?_eq_some_iff.1 h
    exact List.drop_eq_getElem_cons h'
  unfold atFrom
  rw [hd, List.findIdx?_cons]
  by_cases e : p.id = id
  · simp [e]
  · rw [if_neg (by simpa using e), if_neg e]
    cases (l.drop (k + 1)).findIdx? (fun p => p.id == id) with
    | none => rfl
    | some i => simp; omega
theorem atFrom_end (l : List Pat) (id : Int) (k : Nat) (h : l.length ≤ k) : atFrom l id k = -1 := by
  unfold atFrom
  rw [List.drop_eq_nil_of_le h]
  rfl

set_option maxRecDepth 100000 in
set_option maxHeartbeats 2000000 in
theorem rAt (v : Value) (l : List Pat) (id : Int) (w : World) (hv : Pats w v l) (hl : l.length ≤ 1000000) :
    Calls Tryd.prog 39 #[v, .int .i64 id] w fun e w' => e = .returned (.int .i64 (at64 l id)) ∧ w' = w := by
  obtain ⟨pa, pc, rfl, hpc, hcells⟩ := hv
  obtain ⟨R, hR⟩ : ∃ R, R = at64 l id := ⟨_, rfl⟩
  rw [← hR]
  rw [← atFrom_zero] at hR
  obtain ⟨n, hnn⟩ : ∃ n, n = l.length := ⟨_, rfl⟩
  rw [← hnn] at hl hpc ⊢
  have HN := Lib.hid hnn
  have HC := Lib.hid hcells
  have HR := Lib.hid hR
  clear hnn hcells hR
  go_enter Tryd.func39, Tryd.ntmps39
  go_wp2
  go_loop [5] (fun vk => ∃ k : Nat, vk = .int .i64 k ∧ k ≤ n ∧ Hid (R = atFrom l id k)) (fun vk => n - (intOf vk).toNat)
  case atStart => exact ⟨0, rfl, by omega, HR⟩
  case round =>
    obtain ⟨k, rfl, hk, HK⟩ := hrel
    by_cases hlt : k < n
    · have hltz : (k : Int) < (n : Int) := by omega
      obtain ⟨p, hp⟩ : ∃ p, l[k]? = some p := ⟨_, List.getElem?_eq_getElem (by have := HN.out; omega)⟩
      rcases HC.out with h0 | ⟨b, o, rfl, hbl, hcl⟩
      · rw [h0] at hp; cases hp
      have hst := HK.out
      rw [atFrom_step l id k p hp] at hst
      have c0 := (six_of (hcl k p hp)).c0
      obtain ⟨pid, hpid⟩ : ∃ pid, pid = p.id := ⟨_, rfl⟩
      rw [← hpid] at hst c0
      clear HK hcl hp hpid
      by_cases e : pid = id
      · rw [if_pos e] at hst
        have HT := Lib.hid hst
        have heq : (pid == id) = true := by simpa using e
        clear hst HR e
        go_wp2
        go_ret
        exact ⟨by rw [HT.out]; rfl, rfl⟩
      · rw [if_neg e] at hst
        have HT := Lib.hid hst
        have heq : (pid == id) = false := by simpa using e
        clear hst HR
        go_wp2
        go_round
        case rel => exact ⟨k + 1, by go_num, by omega, HT⟩
        case measure => simp [intOf]; omega
    · have hltz : ¬ (k : Int) < (n : Int) := by omega
      have HT : Hid (R = -1) := Lib.hid (by rw [HK.out]; exact atFrom_end _ _ _ (by have := HN.out; omega))
      clear HK HR
      go_wp2
      go_ret
      exact ⟨by rw [HT.out]; rfl, rfl⟩
end Go.Proofs.YtlpeppigebbfkaaDoor
