/- The walks of Compare, the program's and the reference's (layer 2). -/
import Derived.Test.YtieapjdkbigejaaDoorKky
import Derived.Test.YtieapjdkbigejaaDoorKrf
namespace Go.Proofs.YtieapjdkbigejaaDoor
open Go Go.RowKit

set_option maxRecDepth 100000 in
set_option maxHeartbeats 2000000 in
theorem pCompare (lang : ByteArray) (a b : List Nat) (w : World) (hE : Env w) (ha : okt a = true) (hb : okt b = true) (hsa : (bs a).size ≤ 1000000) (hsb : (bs b).size ≤ 1000000) :
    Calls Tryd.prog 19 #[.string lang, .string (bs a), .string (bs b)] w fun e w' => e = .returned (.int .i64 (kcmp (lcode lang) a b)) ∧ Below w.heap.size w w' := by
  have pa := fun W h => pKey lang a W h ha hsa
  have pb := fun W h => pKey lang b W h hb hsb
  obtain ⟨K, hK⟩ : ∃ K, K = kcmp (lcode lang) a b := ⟨_, rfl⟩
  rw [← hK]
  unfold kcmp at hK
  obtain ⟨ka, hka⟩ : ∃ ka, ka = key (lcode lang) a := ⟨_, rfl⟩
  obtain ⟨kb, hkb⟩ : ∃ kb, kb = key (lcode lang) b := ⟨_, rfl⟩
  rw [← hka] at pa hK
  rw [← hkb] at pb hK
  have c1 : ∀ W : World, Calls Tryd.prog 41 #[.string (bs ka), .string (bs kb)] W fun e w' => e = .returned (.int .i64 (Lib.compareBytes (enc ka) (enc kb))) ∧ w' = W := fun W => by
    have := Tryd.strings_Compare (bs ka) (bs kb) W
    rwa [show (bs ka).data.toList = enc ka by simp [bs], show (bs kb).data.toList = enc kb by simp [bs]] at this
  have c2 : ∀ W : World, Calls Tryd.prog 41 #[.string (bs a), .string (bs b)] W fun e w' => e = .returned (.int .i64 (Lib.compareBytes (enc a) (enc b))) ∧ w' = W := fun W => by
    have := Tryd.strings_Compare (bs a) (bs b) W
    rwa [show (bs a).data.toList = enc a by simp [bs], show (bs b).data.toList = enc b by simp [bs]] at this
  obtain ⟨x, hx⟩ : ∃ x, x = Lib.compareBytes (enc ka) (enc kb) := ⟨_, rfl⟩
  obtain ⟨y, hy⟩ : ∃ y, y = Lib.compareBytes (enc a) (enc b) := ⟨_, rfl⟩
  rw [← hx] at c1 hK
  rw [← hy] at c2 hK
  have PA := Lib.hid pa
  have PB := Lib.hid pb
  have C1 := Lib.hid c1
  have C2 := Lib.hid c2
  clear hx hy hka hkb pa pb c1 c2
  by_cases h0 : x = 0
  · subst h0
    rw [if_neg (by simp)] at hK
    subst hK
    go_enter Tryd.func19, Tryd.ntmps19
    go_wp2_with fail
    refine (PA.out _ hE).mono ?_
    rintro e w1 ⟨rfl, b1⟩
    go_wp2_with fail
    refine (PB.out _ (hE.below b1)).mono ?_
    rintro e w2 ⟨rfl, b2⟩
    go_wp2_with fail
    refine (C1.out _).mono ?_
    rintro e w3 ⟨rfl, rfl⟩
    go_wp2_with (go_at_call 41; refine (C2.out _).mono ?_; rintro e w3 ⟨rfl, rfl⟩)
    go_ret
    exact ⟨rfl, b1.bt b2⟩
  · rw [if_pos h0] at hK
    subst hK
    go_enter Tryd.func19, Tryd.ntmps19
    go_wp2_with fail
    refine (PA.out _ hE).mono ?_
    rintro e w1 ⟨rfl, b1⟩
    go_wp2_with fail
    refine (PB.out _ (hE.below b1)).mono ?_
    rintro e w2 ⟨rfl, b2⟩
    go_wp2_with fail
    refine (C1.out _).mono ?_
    rintro e w3 ⟨rfl, rfl⟩
    go_wp2
    go_ret
    exact ⟨rfl, b1.bt b2⟩

set_option maxRecDepth 100000 in
set_option maxHeartbeats 2000000 in
theorem rCompare (lang : ByteArray) (a b : List Nat) (w : World) (ha : okt a = true) (hb : okt b = true) (hsa : (bs a).size ≤ 1000000) (hsb : (bs b).size ≤ 1000000) :
    Calls Tryd.prog 20 #[.string lang, .string (bs a), .string (bs b)] w fun e w' => e = .returned (.int .i64 (kcmp (lcode lang) a b)) ∧ Below w.heap.size w w' := by
  have pa := fun W => rKey lang a W ha hsa
  have pb := fun W => rKey lang b W hb hsb
  obtain ⟨K, hK⟩ : ∃ K, K = kcmp (lcode lang) a b := ⟨_, rfl⟩
  rw [← hK]
  unfold kcmp at hK
  obtain ⟨ka, hka⟩ : ∃ ka, ka = key (lcode lang) a := ⟨_, rfl⟩
  obtain ⟨kb, hkb⟩ : ∃ kb, kb = key (lcode lang) b := ⟨_, rfl⟩
  rw [← hka] at pa hK
  rw [← hkb] at pb hK
  have PA := Lib.hid pa
  have PB := Lib.hid pb
  have el : ∀ c : List Nat, (bs c).toList = enc c := fun c => by rw [ByteArray.toList_eq]; simp [bs]
  have r1 := cmp_range (enc ka) (enc kb)
  have r2 := cmp_range (enc a) (enc b)
  have HKK := Lib.hid hK
  clear hka hkb pa pb hK
  go_enter Tryd.func20, Tryd.ntmps20
  go_wp2_with fail
  refine (PA.out _).mono ?_
  rintro e w1 ⟨rfl, b1⟩
  go_wp2_with fail
  refine (PB.out _).mono ?_
  rintro e w2 ⟨rfl, b2⟩
  go_wp2
  all_goals
    go_ret
    refine ⟨ret1i ?_, b1.bt b2⟩
    rw [HKK.out]
    simp only [el, less_cmp, beq_iff_eq, ← cmp_eq, decide_eq_true_eq, decide_eq_false_iff_not, Bool.not_eq_true', Bool.not_eq_false', beq_eq_false_iff_ne, ne_eq] at *
    split <;> omega
end Go.Proofs.YtieapjdkbigejaaDoor
