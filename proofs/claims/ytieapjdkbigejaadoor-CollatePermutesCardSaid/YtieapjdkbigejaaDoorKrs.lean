/- The walks of the reference's Known, articles and Article (layer 2). -/
import Derived.Test.YtieapjdkbigejaaDoorKln
import Derived.Test.YtieapjdkbigejaaDoorKsp
import Derived.Test.YtieapjdkbigejaaDoorRfd
namespace Go.Proofs.YtieapjdkbigejaaDoor
open Go Go.RowKit

theorem lang_five (lang : ByteArray) :
    (lcode lang = 1 ∧ (lang.toList == [101, 110, 103]) = true) ∨
    (lcode lang = 2 ∧ (lang.toList == [101, 110, 103]) = false ∧ (lang.toList == [103, 101, 114]) = true) ∨
    (lcode lang = 3 ∧ (lang.toList == [101, 110, 103]) = false ∧ (lang.toList == [103, 101, 114]) = false ∧ (lang.toList == [115, 119, 101]) = true) ∨
    (lcode lang = 4 ∧ (lang.toList == [101, 110, 103]) = false ∧ (lang.toList == [103, 101, 114]) = false ∧ (lang.toList == [115, 119, 101]) = false ∧ (lang.toList == [115, 112, 97]) = true) ∨
    (lcode lang = 0 ∧ (lang.toList == [101, 110, 103]) = false ∧ (lang.toList == [103, 101, 114]) = false ∧ (lang.toList == [115, 119, 101]) = false ∧ (lang.toList == [115, 112, 97]) = false) := by
  by_cases h1 : lang.toList = [101, 110, 103]
  · exact .inl ⟨lc1 h1, by simpa using h1⟩
  · have n1 : (lang.toList == [101, 110, 103]) = false := by simpa using h1
    have l2 : ¬ ([103, 101, 114] : List UInt8) = [101, 110, 103] := by decide
    rcases lang_cases lang with ⟨a, b⟩ | ⟨a, b, c⟩ | ⟨a, b, c, d⟩ | ⟨a, b, c, d⟩
    · exact .inr (.inl ⟨a, n1, b⟩)
    · exact .inr (.inr (.inl ⟨a, n1, b, c⟩))
    · exact .inr (.inr (.inr (.inl ⟨a, n1, b, c, d⟩)))
    · exact .inr (.inr (.inr (.inr ⟨lcz h1 a, n1, b, c, d⟩)))

set_option maxRecDepth 100000 in
theorem rKnown (lang : ByteArray) (w : World) :
    Calls Tryd.prog 14 #[.string lang] w fun e w' => e = .returned (.bool (decide (1 ≤ lcode lang))) ∧ w' = w := by
  rcases lang_five lang with ⟨a, h1⟩ | ⟨a, h1, h2⟩ | ⟨a, h1, h2, h3⟩ | ⟨a, h1, h2, h3, h4⟩ | ⟨a, h1, h2, h3, h4⟩
  all_goals
    rw [a]
    go_enter Tryd.func14, Tryd.ntmps14
    go_wp2
    go_ret
    first | exact ⟨rfl, rfl⟩ | exact ⟨by simp_all, rfl⟩

def artS (k : Nat) : List ByteArray := (artL k).map fun l => ⟨l.toArray⟩
theorem strs_new (w : World) (xs : List ByteArray) (T : TypeId) :
    Strs (w.alloc (.cells (xs.map Value.string).toArray T)) (.slice (some ⟨w.heap.size, 0, none⟩) xs.length xs.length) xs := by
  refine ⟨_, _, rfl, Nat.le_refl _, .inr ⟨w.heap.size, 0, rfl, by simp, fun j x hj => ?_⟩⟩
  rw [Lib.cell_of_heap (heap_alloc_new w _), Nat.zero_add]
  simp [hj]
set_option maxRecDepth 100000 in
theorem rarticles (lang : ByteArray) (w : World) :
    Calls Tryd.prog 54 #[.string lang] w (RetStrs w (artS (lcode lang))) := by
  rcases lang_five lang with ⟨a, h1⟩ | ⟨a, h1, h2⟩ | ⟨a, h1, h2, h3⟩ | ⟨a, h1, h2, h3, h4⟩ | ⟨a, h1, h2, h3, h4⟩
  all_goals
    rw [a]
    go_enter Tryd.func54, Tryd.ntmps54
    go_wp2
    go_ret
    first
      | exact ⟨_, rfl, strs_new w (artS 1) 9, (Below.refl _ _).alloc (Nat.le_refl _) _⟩
      | exact ⟨_, rfl, strs_new w (artS 2) 9, (Below.refl _ _).alloc (Nat.le_refl _) _⟩
      | exact ⟨_, rfl, strs_new w (artS 3) 9, (Below.refl _ _).alloc (Nat.le_refl _) _⟩
      | exact ⟨_, rfl, strs_new w (artS 4) 9, (Below.refl _ _).alloc (Nat.le_refl _) _⟩
      | exact ⟨_, rfl, ⟨none, 0, rfl, Nat.le_refl _, .inl rfl⟩, Below.refl _ _⟩

theorem artS_len (k : Nat) : (artS k).length ≤ 6 := by
  unfold artS artL
  repeat' split
  all_goals decide
theorem ba_toList {a b : ByteArray} (h : a.toList = b.toList) : a = b := ba_ext (by rw [← ByteArray.toList_eq, ← ByteArray.toList_eq]; exact h)

set_option maxRecDepth 100000 in
theorem rArticle (lang word : ByteArray) (w : World) :
    Calls Tryd.prog 32 #[.string lang, .string word] w fun e w' => e = .returned (.bool ((artS (lcode lang)).any fun x => x.toList == word.toList)) ∧ Below w.heap.size w w' := by
  have hlen := artS_len (lcode lang)
  have hra := rarticles lang
  obtain ⟨xs, hxs⟩ : ∃ xs, xs = artS (lcode lang) := ⟨_, rfl⟩
  rw [← hxs] at hlen hra ⊢
  obtain ⟨A, hA⟩ : ∃ A, A = xs.any fun x => x.toList == word.toList := ⟨_, rfl⟩
  rw [← hA]
  have HA := Lib.hid hA
  have HRA := Lib.hid hra
  clear hxs hA hra
  go_enter Tryd.func32, Tryd.ntmps32
  go_wp2_with fail
  refine (HRA.out _).mono ?_
  rintro e w1 ⟨v, rfl, ⟨p, c, rfl, hc, hx⟩, b1⟩
  have HX := Lib.hid hx
  clear hx
  obtain ⟨n, hn⟩ : ∃ n, n = xs.length := ⟨_, rfl⟩
  rw [← hn] at hlen hc ⊢
  have HN := Lib.hid hn
  clear hn
  go_wp2
  go_loop [6] (fun i => ∃ k : Nat, i = .int .i64 k ∧ k ≤ n ∧ Hid (A = (xs.drop k).any fun x => x.toList == word.toList)) (fun i => n - (intOf i).toNat)
  case atStart => exact ⟨0, rfl, by omega, HA⟩
  case round =>
    obtain ⟨k, rfl, hk, HK⟩ := hrel
    by_cases hlt : k < n
    · obtain ⟨x, hx⟩ : ∃ x, xs[k]? = some x := ⟨_, List.getElem?_eq_getElem (by have := HN.out; omega)⟩
      rcases HX.out with h0 | ⟨b, o, rfl, hblt, hcells⟩
      · rw [h0] at hx; cases hx
      have hcell := hcells k x hx
      have hd : xs.drop k = x :: xs.drop (k + 1) := by
        obtain ⟨h', rfl⟩ := List.getElem?_eq_some_iff.1 hx
        exact List.drop_eq_getElem_cons h'
      clear hcells hx
      have hcell0 : k = 0 → w1.cell? ⟨b, o, none⟩ = some (.string x) := fun h => by subst h; simpa using hcell
      cases hxw : (x.toList == word.toList) with
      | true =>
        have HT : Hid (A = true) := by
          refine Lib.hid (HK.out.trans ?_)
          rw [hd, List.any_cons, hxw]
          rfl
        clear hd HK HA
        go_wp2
        go_ret
        exact ⟨by rw [HT.out]; rfl, b1⟩
      | false =>
        have HT : Hid (A = (xs.drop (k + 1)).any fun x => x.toList == word.toList) := by
          refine Lib.hid (HK.out.trans ?_)
          rw [hd, List.any_cons, hxw]
          rfl
        clear hd HK HA
        go_wp2
        go_round
        case rel => exact ⟨k + 1, by go_num, by omega, HT⟩
        case measure => simp [intOf]; omega
    · have HT : Hid (A = false) := by
        refine Lib.hid (HK.out.trans ?_)
        rw [List.drop_eq_nil_of_le (by have := HN.out; omega)]
        simp
      clear HK HA
      go_wp2
      go_ret
      exact ⟨by rw [HT.out]; rfl, b1⟩
theorem isart_S (k : Nat) (w : List Nat) : ((artS k).any fun x => x.toList == (bs w).toList) = isart k w := by
  unfold isart artS
  rw [List.any_map, bs_toList, Bool.eq_iff_iff, List.any_eq_true, decide_eq_true_eq]
  constructor
  · rintro ⟨l, hl, he⟩
    simp only [Function.comp_apply, ByteArray.toList_eq, beq_iff_eq] at he
    rw [← he]
    exact hl
  · intro h
    exact ⟨_, h, by simp only [Function.comp_apply, ByteArray.toList_eq, beq_iff_eq]⟩
end Go.Proofs.YtieapjdkbigejaaDoor
