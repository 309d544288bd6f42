/- The walks of fields on the reference's side: digits, codes, tags, Right (layers 18, 16, 08). -/
import Derived.Test.YtkfjeolpbopcnaaGreatDoorMfp
import Derived.Test.YtkfjeolpbopcnaaGreatDoorRvl
namespace Go.Proofs.YtkfjeolpbopcnaaGreatDoor
open Go Go.RowKit

def dgN (c : Nat) : Bool := decide (48 ≤ c ∧ c ≤ 57)
theorem dgB_N (b : UInt8) : dgB b = dgN b.toNat := rfl
set_option maxRecDepth 100000 in
set_option maxHeartbeats 1000000 in
theorem rDigit (c : Nat) (w : World) :
    Calls Tryz.prog 76 #[.int .u8 (c : Int)] w fun e w' => e = .returned (.bool (dgN c)) ∧ w' = w := by
  unfold dgN
  by_cases h1 : 48 ≤ c
  · have a1 : (48 : Int) ≤ (c : Int) := by omega
    by_cases h2 : c ≤ 57
    · have a2 : (c : Int) ≤ 57 := by omega
      rw [decide_eq_true (And.intro h1 h2)]
      clear h1 h2
      go_enter Tryz.func76, Tryz.ntmps76
      go_wp2
      go_ret
      exact ⟨rfl, rfl⟩
    · have a2 : (57 : Int) < (c : Int) := by omega
      rw [decide_eq_false (fun h => h2 h.2)]
      clear h1 h2
      go_enter Tryz.func76, Tryz.ntmps76
      go_wp2
      go_ret
      exact ⟨retb (decide_eq_false (by omega)), rfl⟩
  · have a1 : (c : Int) < 48 := by omega
    rw [decide_eq_false (fun h => h1 h.1)]
    clear h1
    go_enter Tryz.func76, Tryz.ntmps76
    go_wp2
    go_ret
    exact ⟨rfl, rfl⟩
theorem codeB_cases (c : Nat) : (dgN c = true ∧ codeB c = true) ∨ (dgN c = false ∧ c < 97 ∧ codeB c = false) ∨ (dgN c = false ∧ 97 ≤ c ∧ c ≤ 122 ∧ codeB c = true) ∨ (dgN c = false ∧ 97 ≤ c ∧ 122 < c ∧ codeB c = false) := by
  unfold dgN codeB
  simp only [decide_eq_true_eq, decide_eq_false_iff_not]
  omega
set_option maxRecDepth 100000 in
set_option maxHeartbeats 1000000 in
theorem rCode (c : Nat) (w : World) :
    Calls Tryz.prog 77 #[.int .u8 (c : Int)] w fun e w' => e = .returned (.bool (codeB c)) ∧ w' = w := by
  have hd := rDigit c w
  obtain ⟨D, hD⟩ : ∃ D, D = dgN c := ⟨_, rfl⟩
  obtain ⟨C, hC⟩ : ∃ C, C = codeB c := ⟨_, rfl⟩
  have hcs := codeB_cases c
  rw [← hD, ← hC] at hcs
  rw [← hD] at hd
  rw [← hC]
  have HD := Lib.hid hd
  clear hd hD hC
  rcases hcs with ⟨rfl, rfl⟩ | ⟨rfl, h1, rfl⟩ | ⟨rfl, h1, h2, rfl⟩ | ⟨rfl, h1, h2, rfl⟩
  · go_enter Tryz.func77, Tryz.ntmps77
    go_wp2_with fail
    refine HD.out.mono ?_
    rintro e w1 ⟨rfl, rfl⟩
    go_wp2
    go_ret
    exact ⟨rfl, rfl⟩
  · have a1 : (c : Int) < 97 := by omega
    clear h1
    go_enter Tryz.func77, Tryz.ntmps77
    go_wp2_with fail
    refine HD.out.mono ?_
    rintro e w1 ⟨rfl, rfl⟩
    go_wp2
    go_ret
    exact ⟨rfl, rfl⟩
  · have a1 : (97 : Int) ≤ (c : Int) := by omega
    have a2 : (c : Int) ≤ 122 := by omega
    clear h1 h2
    go_enter Tryz.func77, Tryz.ntmps77
    go_wp2_with fail
    refine HD.out.mono ?_
    rintro e w1 ⟨rfl, rfl⟩
    go_wp2
    go_ret
    exact ⟨rfl, rfl⟩
  · have a1 : (97 : Int) ≤ (c : Int) := by omega
    have a2 : (122 : Int) < (c : Int) := by omega
    clear h1 h2
    go_enter Tryz.func77, Tryz.ntmps77
    go_wp2_with fail
    refine HD.out.mono ?_
    rintro e w1 ⟨rfl, rfl⟩
    go_wp2
    go_ret
    exact ⟨retb (decide_eq_false (by omega)), rfl⟩
theorem len_lst (s : ByteArray) : s.data.toList.length = s.size := (Lib.size_eq s).symm
theorem three_of (s : ByteArray) (h : s.size = 3) : s.data.toList = [s[0], s[1], s[2]] := by
  refine List.ext_getElem (by show s.data.toList.length = _; rw [len_lst]; exact h) fun i h1 h2 => ?_
  simp only [List.length_cons, List.length_nil] at h2
  match i, h2 with
  | 0, _ => rfl
  | 1, _ => rfl
  | 2, _ => rfl
theorem two_of (s : ByteArray) (h : s.size = 2) : s.data.toList = [s[0], s[1]] := by
  refine List.ext_getElem (by show s.data.toList.length = _; rw [len_lst]; exact h) fun i h1 h2 => ?_
  simp only [List.length_cons, List.length_nil] at h2
  match i, h2 with
  | 0, _ => rfl
  | 1, _ => rfl
set_option maxRecDepth 100000 in
set_option maxHeartbeats 1000000 in
theorem rTag (s : ByteArray) (w : World) :
    Calls Tryz.prog 75 #[.string s] w fun e w' => e = .returned (.bool (tagOk s.data.toList)) ∧ w' = w := by
  by_cases h3 : s.size = 3
  · have hb : (((s.size : Nat) : Int) == 3) = true := by have : ((s.size : Nat) : Int) = 3 := by omega
                                                         simpa using this
    have hl := three_of s h3
    have ht : tagOk s.data.toList = (dgN s[0].toNat && (dgN s[1].toNat && (dgN s[2].toNat && !(Op.bytesLess s.toList [48, 49, 48])))) := by
      rw [ByteArray.toList_eq]
      unfold tagOk
      rw [hl]
      simp only [List.length_cons, List.length_nil, List.all_cons, List.all_nil, dgB_N, Bool.and_true, beq_self_eq_true, Bool.true_and, Bool.and_assoc]
    rw [ht]
    have z0 : (0 : Int) < ((s.size : Nat) : Int) := by omega
    have z1 : (1 : Int) < ((s.size : Nat) : Int) := by omega
    have z2 : (2 : Int) < ((s.size : Nat) : Int) := by omega
    have y0 : 0 < s.size := by omega
    have y1 : 1 < s.size := by omega
    have y2 : 2 < s.size := by omega
    have c0 := rDigit s[0].toNat w
    have c1 := rDigit s[1].toNat w
    have c2 := rDigit s[2].toNat w
    obtain ⟨D0, h0⟩ : ∃ D, D = dgN s[0].toNat := ⟨_, rfl⟩
    obtain ⟨D1, h1⟩ : ∃ D, D = dgN s[1].toNat := ⟨_, rfl⟩
    obtain ⟨D2, h2⟩ : ∃ D, D = dgN s[2].toNat := ⟨_, rfl⟩
    obtain ⟨L, hL⟩ : ∃ L, L = Op.bytesLess s.toList [48, 49, 48] := ⟨_, rfl⟩
    rw [← h0] at c0
    rw [← h1] at c1
    rw [← h2] at c2
    rw [← h0, ← h1, ← h2, ← hL]
    have hL' := hL.symm
    have H0 := Lib.hid c0
    have H1 := Lib.hid c1
    have H2 := Lib.hid c2
    clear c0 c1 c2 h0 h1 h2 hL ht hl h3
    cases D0 with
    | false =>
      go_enter Tryz.func75, Tryz.ntmps75
      go_wp2_with fail
      refine H0.out.mono ?_
      rintro e w1 ⟨rfl, rfl⟩
      go_wp2
      go_ret
      exact ⟨rfl, rfl⟩
    | true =>
      cases D1 with
      | false =>
        go_enter Tryz.func75, Tryz.ntmps75
        go_wp2_with fail
        refine H0.out.mono ?_
        rintro e w1 ⟨rfl, rfl⟩
        go_wp2_with fail
        refine H1.out.mono ?_
        rintro e w1 ⟨rfl, rfl⟩
        go_wp2
        go_ret
        exact ⟨rfl, rfl⟩
      | true =>
        cases D2 with
        | false =>
          go_enter Tryz.func75, Tryz.ntmps75
          go_wp2_with fail
          refine H0.out.mono ?_
          rintro e w1 ⟨rfl, rfl⟩
          go_wp2_with fail
          refine H1.out.mono ?_
          rintro e w1 ⟨rfl, rfl⟩
          go_wp2_with fail
          refine H2.out.mono ?_
          rintro e w1 ⟨rfl, rfl⟩
          go_wp2
          go_ret
          exact ⟨rfl, rfl⟩
        | true =>
          cases L
          all_goals
            go_enter Tryz.func75, Tryz.ntmps75
            go_wp2_with fail
            refine H0.out.mono ?_
            rintro e w1 ⟨rfl, rfl⟩
            go_wp2_with fail
            refine H1.out.mono ?_
            rintro e w1 ⟨rfl, rfl⟩
            go_wp2_with fail
            refine H2.out.mono ?_
            rintro e w1 ⟨rfl, rfl⟩
            go_wp2
            go_ret
            exact ⟨rfl, rfl⟩
  · have hb : (((s.size : Nat) : Int) == 3) = false := by have : ((s.size : Nat) : Int) ≠ 3 := by omega
                                                          simpa using this
    have ht : tagOk s.data.toList = false := by
      unfold tagOk
      rw [len_lst]
      simp [h3]
    rw [ht]
    clear ht h3
    go_enter Tryz.func75, Tryz.ntmps75
    go_wp2
    go_ret
    exact ⟨rfl, rfl⟩

/-- The two cells of a subfield. -/
theorem sub_cells {w : World} {b o : Nat} {s : Nat × ByteArray} (h : ∀ i u, (subE s)[i]? = some u → w.cell? ⟨b, o + i, none⟩ = some u) : w.cell? ⟨b, o, none⟩ = some (.int .u8 (s.1 : Int)) ∧ w.cell? ⟨b, o + 1, none⟩ = some (.string s.2) := ⟨h 0 _ rfl, h 1 _ rfl⟩

/-- The cells of a block that was made, in a later world. -/
theorem block_cells {w : World} {cs : Array Value} {T : TypeId} {W2 : World} (h : Below (w.alloc (.cells cs T)).heap.size (w.alloc (.cells cs T)) W2) (i : Nat) (u : Value) (hu : cs[i]? = some u) : W2.cell? ⟨w.heap.size, i, none⟩ = some u := by
  rw [h.cell (p := ⟨w.heap.size, i, none⟩) (by rw [World.size_alloc]; exact Nat.lt_succ_self _), Lib.cell_of_heap (heap_alloc_new w _)]
  exact hu
theorem empty_of (v : ByteArray) : v.toList.isEmpty = decide (v.size = 0) := by
  rw [ByteArray.toList_eq, Bool.eq_iff_iff, List.isEmpty_iff_length_eq_zero, len_lst]
  simp

theorem subsErr_step {l : List (Nat × ByteArray)} {k : Nat} {s : Nat × ByteArray} (h : l[k]? = some s) : subsErr (l.drop k) = if subErr s ≠ 0 then subErr s else subsErr (l.drop (k + 1)) := by
  rw [drop_step h]; rfl
theorem fldsErr_step {l : List Fld} {k : Nat} {f : Fld} (h : l[k]? = some f) : fldsErr (l.drop k) = if fldErr f ≠ 0 then fldErr f else fldsErr (l.drop (k + 1)) := by
  rw [drop_step h]; rfl
def subsR (l : List (Nat × ByteArray)) (t : Int) : Int := if subsErr l ≠ 0 then subsErr l else t
theorem subsR_step {l : List (Nat × ByteArray)} {k : Nat} {s : Nat × ByteArray} (t : Int) (h : l[k]? = some s) : subsR (l.drop k) t = if subErr s ≠ 0 then subErr s else subsR (l.drop (k + 1)) t := by
  unfold subsR
  rw [subsErr_step h]
  by_cases h0 : subErr s = 0
  · rw [h0]; simp
  · rw [if_pos h0, if_pos h0, if_pos h0]
theorem subsR_end {l : List (Nat × ByteArray)} {k : Nat} (t : Int) (h : l.length ≤ k) : subsR (l.drop k) t = t := by
  rw [List.drop_eq_nil_of_le h]; rfl
def authE (a : Int) : Int := if a < 0 ∨ 9999 < a then 2 else 0
theorem fldErr_eq (f : Fld) : fldErr f = if tagOk f.tag = false then 6 else if indOk f.ind = false then 3 else if f.subs.length = 0 then 8 else if 16 < f.subs.length then 4 else subsR f.subs (authE f.auth) := rfl
theorem subErr_cases (s : Nat × ByteArray) : (codeB s.1 = false ∧ subErr s = 1) ∨ (codeB s.1 = true ∧ s.2.size = 0 ∧ subErr s = 8) ∨ (codeB s.1 = true ∧ s.2.size ≠ 0 ∧ isText s.2.data.toList = false ∧ subErr s = 3) ∨ (codeB s.1 = true ∧ s.2.size ≠ 0 ∧ isText s.2.data.toList = true ∧ 200 < s.2.size ∧ subErr s = 4) ∨ (codeB s.1 = true ∧ s.2.size ≠ 0 ∧ isText s.2.data.toList = true ∧ s.2.size ≤ 200 ∧ subErr s = 0) := by
  unfold subErr
  cases codeB s.1
  · exact .inl ⟨rfl, if_pos rfl⟩
  · rw [if_neg (by simp)]
    by_cases h0 : s.2.size = 0
    · exact .inr (.inl ⟨rfl, h0, if_pos h0⟩)
    · rw [if_neg h0]
      cases isText s.2.data.toList
      · exact .inr (.inr (.inl ⟨rfl, h0, rfl, if_pos rfl⟩))
      · rw [if_neg (by simp)]
        by_cases h4 : 200 < s.2.size
        · exact .inr (.inr (.inr (.inl ⟨rfl, h0, rfl, h4, if_pos h4⟩)))
        · exact .inr (.inr (.inr (.inr ⟨rfl, h0, rfl, by omega, if_neg h4⟩)))
theorem authE_cases (a : Int) : (a < 0 ∧ authE a = 2) ∨ (0 ≤ a ∧ 9999 < a ∧ authE a = 2) ∨ (0 ≤ a ∧ a ≤ 9999 ∧ authE a = 0) := by
  unfold authE
  by_cases h : a < 0 ∨ 9999 < a
  · rw [if_pos h]
    rcases h with h | h
    · exact .inl ⟨h, rfl⟩
    · by_cases h0 : a < 0
      · exact .inl ⟨h0, rfl⟩
      · exact .inr (.inl ⟨by omega, h, rfl⟩)
  · rw [if_neg h]
    exact .inr (.inr ⟨by omega, by omega, rfl⟩)
/-- The bytes of an indicator. -/
theorem ind_cases (I : ByteArray) : (I.size ≠ 2 ∧ indOk I.data.toList = false) ∨ (∃ h : I.size = 2, indOk I.data.toList = (indB I[0] && indB I[1])) := by
  by_cases h : I.size = 2
  · refine .inr ⟨h, ?_⟩
    unfold indOk
    rw [two_of I h]
    simp
  · refine .inl ⟨h, ?_⟩
    unfold indOk
    rw [len_lst]
    simp [h]
theorem indB_cases (b : UInt8) : (((b.toNat : Nat) : Int) = 32 ∧ indB b = true) ∨ (((b.toNat : Nat) : Int) ≠ 32 ∧ dgN b.toNat = true ∧ indB b = true) ∨ (((b.toNat : Nat) : Int) ≠ 32 ∧ dgN b.toNat = false ∧ indB b = false) := by
  unfold indB
  rw [dgB_N]
  by_cases h : b = 32
  · subst h
    exact .inl ⟨rfl, rfl⟩
  · have h1 : ((b.toNat : Nat) : Int) ≠ 32 := fun e => h (by
      have : b.toNat = 32 := by omega
      exact UInt8.toNat_inj.1 this)
    have h2 : (b == 32) = false := by simpa using h
    rw [h2]
    cases dgN b.toNat
    · exact .inr (.inr ⟨h1, rfl, rfl⟩)
    · exact .inr (.inl ⟨h1, rfl, rfl⟩)

/-- The world with a field's block; with a record's. -/
abbrev fldW (w : World) (T I : ByteArray) (sa : Option Addr) (n sc : Nat) (auth : Int) : World := w.alloc (.cells #[.string T, .string I, .slice sa n sc, .int .i64 auth] 35)
abbrev recW (w : World) (id ver kind : Int) (lang : ByteArray) (a : Option Addr) (n c : Nat) : World := w.alloc (.cells #[.int .i64 id, .int .i64 ver, .int .i64 kind, .string lang, .slice a n c] 24)

end Go.Proofs.YtkfjeolpbopcnaaGreatDoor
