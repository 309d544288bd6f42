/- Plain Lean: what tests on the bytes of a text say of its characters (layer 12). No program in sight. -/
import Derived.Test.YtbolkkpgahoeaaaDoorHpz
namespace Go.Proofs.YtbolkkpgahoeaaaDoor
open Go

theorem enc1_no {d c : Nat} (hd : okc d = true) (hc : c < 128) (h : d ≠ c) : UInt8.ofNat c ∉ enc1 d := by
  intro hm
  by_cases hlt : d < 128
  · rw [enc1_ascii hlt, List.mem_singleton] at hm
    have := congrArg UInt8.toNat hm
    rw [u8 _ (by omega), u8 _ (by omega)] at this
    exact h this.symm
  · have := enc1_high hlt hd _ hm
    rw [u8 _ (by omega)] at this
    omega
theorem mem_enc {c : Nat} (hc : c < 128) : ∀ p : List Nat, okt p = true → (UInt8.ofNat c ∈ enc p ↔ c ∈ p)
  | [], _ => by simp [enc]
  | d :: p, h => by
    have hd : okc d = true ∧ okt p = true := by simpa [okt] using h
    rw [enc_cons, List.mem_append, mem_enc hc p hd.2, List.mem_cons]
    by_cases e : d = c
    · subst e
      rw [enc1_ascii hc]; simp
    · have := enc1_no hd.1 hc e
      constructor
      · rintro (h | h)
        · exact absurd h this
        · exact .inr h
      · rintro (h | h)
        · exact absurd h.symm e
        · exact .inr h
theorem contains_enc {c : Nat} (hc : c < 128) (p : List Nat) (h : okt p = true) : (enc p).contains (UInt8.ofNat c) = p.contains c := by
  have := mem_enc hc p h
  rw [Bool.eq_iff_iff]
  simpa using this
theorem spl_single (c : UInt8) : ∀ (l cur : List UInt8), decide ((spl [c] cur l).length ≤ 1) = !l.contains c
  | [], cur => by rw [spl_nil]; simp
  | x :: t, cur => by
    rw [spl_cons (by simp)]
    by_cases e : c = x
    · subst e
      have h0 := spl_ne (sep := [c]) (by simp) [] ((c :: t).drop 1)
      have : 0 < (spl [c] [] ((c :: t).drop 1)).length := List.length_pos_iff.2 h0
      rw [if_pos (by simp [List.isPrefixOf])]
      have h2 : ¬ (cur :: spl [c] [] ((c :: t).drop [c].length)).length ≤ 1 := by
        rw [List.length_cons]
        have h3 : [c].length = 1 := rfl
        rw [h3]
        omega
      rw [decide_eq_false h2]
      simp
    · have hb : (c == x) = false := by simpa using e
      rw [if_neg (by simp [List.isPrefixOf, hb]), spl_single c t]
      have hb2 : (x == c) = false := by simpa using fun h : x = c => e h.symm
      rw [List.contains_cons, hb, Bool.false_or]
theorem split_single (c : UInt8) (l : List UInt8) : decide ((split [c] l).length ≤ 1) = !l.contains c := spl_single c l []
theorem split_contains {sep : List UInt8} (hs : sep ≠ []) (s : List UInt8) : decide ((split sep s).length ≤ 1) = !Lib.contains s sep := by
  have hge := Lib.index_ge s sep
  unfold split Lib.contains
  rw [spl_index hs]
  by_cases h : Lib.index s sep = -1
  · rw [if_pos h, h]; simp
  · rw [if_neg h]
    have h0 := spl_ne hs [] (s.drop ((Lib.index s sep).toNat + sep.length))
    have h1 : 0 < (spl sep [] (s.drop ((Lib.index s sep).toNat + sep.length))).length := List.length_pos_iff.2 h0
    have h2 : 0 ≤ Lib.index s sep := by omega
    simp only [List.length_cons, h2, decide_true, Bool.not_true, decide_eq_false_iff_not]
    omega
theorem enc_head (p : List Nat) (h : okt p = true) : ((enc p).head? == some 45) = (p.head? == some 45) := by
  cases p with
  | nil => rfl
  | cons c r =>
    have hc : okc c = true ∧ okt r = true := by simpa [okt] using h
    rw [enc_cons]
    by_cases hlt : c < 128
    · rw [enc1_ascii hlt]
      simp only [List.singleton_append, List.head?_cons]
      rw [Bool.eq_iff_iff]
      simp only [beq_iff_eq, Option.some.injEq]
      constructor
      · intro e
        have := congrArg UInt8.toNat e
        rw [u8 _ (by omega)] at this
        simpa using this
      · intro e; rw [e]; rfl
    · obtain ⟨b, t, hbt⟩ := List.exists_cons_of_ne_nil (enc1_ne c)
      have hb := enc1_high hlt hc.1 b (by rw [hbt]; exact List.mem_cons_self)
      rw [hbt, List.cons_append, List.head?_cons, List.head?_cons]
      have e1 : b ≠ 45 := fun e => by rw [e] at hb; revert hb; decide
      have e2 : c ≠ 45 := by omega
      rw [Bool.eq_iff_iff]
      simp [e1, e2]
theorem enc_last (p : List Nat) (h : okt p = true) : ((enc p).getLast? == some 45) = (p.getLast? == some 45) := by
  rcases List.eq_nil_or_concat p with rfl | ⟨q, c, rfl⟩
  · rfl
  · rw [List.concat_eq_append] at h ⊢
    have hc : okc c = true := by
      have : okt (q ++ [c]) = true := h
      rw [okt_append, Bool.and_eq_true] at this
      simpa [okt] using this.2
    have e0 : enc (q ++ [c]) = enc q ++ enc1 c := by rw [enc_append]; simp [enc]
    rw [e0, List.getLast?_append, List.getLast?_append]
    by_cases hlt : c < 128
    · rw [enc1_ascii hlt]
      simp only [List.getLast?_singleton, Option.some_or]
      rw [Bool.eq_iff_iff]
      simp only [beq_iff_eq, Option.some.injEq]
      constructor
      · intro e
        have := congrArg UInt8.toNat e
        rw [u8 _ (by omega)] at this
        simpa using this
      · intro e; rw [e]; rfl
    · have hne := enc1_ne c
      obtain ⟨b, hb⟩ : ∃ b, (enc1 c).getLast? = some b := ⟨_, List.getLast?_eq_some_getLast hne⟩
      have hbm := enc1_high hlt hc b (List.mem_of_getLast? hb)
      rw [hb]
      simp only [List.getLast?_singleton, Option.some_or]
      have e1 : b ≠ 45 := fun e => by rw [e] at hbm; revert hbm; decide
      have e2 : c ≠ 45 := by omega
      rw [Bool.eq_iff_iff]
      simp [e1, e2]
end Go.Proofs.YtbolkkpgahoeaaaDoor
