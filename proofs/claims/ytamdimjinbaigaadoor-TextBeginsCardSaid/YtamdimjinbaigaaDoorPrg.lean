/- Walks of package text's functions at texts given by their characters: Valid (at every string), Runes, Clip, blank, Clean, Space, Words. -/
import Derived.Test.YtamdimjinbaigaaDoorStrs
import Derived.Test.YtamdimjinbaigaaDoorShelf
import Derived.Test.YtamdimjinbaigaaDoorBld
import Derived.Shelf.Unicode.ValidAny
import Derived.Shelf.Strings.FieldsFuncAny
import Derived.Deep.QuietTactic
import Derived.BigQuiet
import Derived.BigCall
namespace Go.Proofs.YtamdimjinbaigaaDoor
open Go Go.RowKit

/-- What the walks need of the world: the library's tables and its one variable. -/
structure Env (w : World) : Prop where
  tabs : Lib.Utf8Tabs 0 1 w
  max : ∃ m, w.cell? ⟨2, 0, none⟩ = some (.int .i64 m)
theorem lt_of_cell {w : World} {a : Addr} {v : Value} (h : w.cell? a = some v) : a.block < w.heap.size := by
  rcases Nat.lt_or_ge a.block w.heap.size with h' | h'
  · exact h'
  · unfold World.cell? at h
    rw [Array.getElem?_eq_none h'] at h
    simp at h
theorem Env.below {w w' : World} (h : Env w) (hb : Below w.heap.size w w') : Env w' := by
  obtain ⟨ht, m, hm⟩ := h
  exact ⟨Utf8Tabs_below ht hb, m, (hb.cell (p := ⟨_, 0, none⟩) (lt_of_cell hm)).trans hm⟩
theorem Env.dr {w w' : World} (h : Env w) (hd : Dr w w') : Env w' := h.below (hd.below _)

/-- The next character of a range over a text. -/
theorem next_char {cs : List Nat} {k c : Nat} {r : List Nat} (w : World) (hat : At cs k (c :: r)) (hok : okt cs = true) (ty : TypeId) :
    (Instr.next (.pointer (some ⟨w.heap.size, 0, none⟩)) true ty).run Tryd.prog (w.iter (bs cs) k) = .ok (.tuple #[.bool true, .int .i64 k, .int .i32 c]) (w.iter (bs cs) (k + (enc1 c).length)) := by
  rw [run_next_any w (bs cs) k ty hat.lt.2, hat.decode hok]
theorem next_end {cs : List Nat} {k : Nat} (w : World) (hat : At cs k []) (ty : TypeId) :
    (Instr.next (.pointer (some ⟨w.heap.size, 0, none⟩)) true ty).run Tryd.prog (w.iter (bs cs) k) = .ok (.tuple #[.bool false]) (w.iter (bs cs) k) :=
  Lib.run_next_end_at (w.iter (bs cs) k) w.heap.size (bs cs) k ty (World.iter_heap _ _ _) (by have := hat.fin; omega)
/-- The same, the iterator in whatever block. -/
theorem next_char_at {cs : List Nat} {k c : Nat} {r : List Nat} (w : World) (b : Nat) (hit : w.heap[b]? = some (.stringIter (bs cs) k)) (hat : At cs k (c :: r)) (hok : okt cs = true) (ty : TypeId) :
    (Instr.next (.pointer (some ⟨b, 0, none⟩)) true ty).run Tryd.prog w = .ok (.tuple #[.bool true, .int .i64 k, .int .i32 c]) (w.iterAt b (bs cs) (k + (enc1 c).length)) := by
  rw [Lib.run_next_any_at w b (bs cs) k ty hit hat.lt.2, hat.decode hok]
theorem next_end_at {cs : List Nat} {k : Nat} (w : World) (b : Nat) (hit : w.heap[b]? = some (.stringIter (bs cs) k)) (hat : At cs k []) (ty : TypeId) :
    (Instr.next (.pointer (some ⟨b, 0, none⟩)) true ty).run Tryd.prog w = .ok (.tuple #[.bool false]) w :=
  Lib.run_next_end_at w b (bs cs) k ty hit (by have := hat.fin; omega)

set_option maxRecDepth 100000 in
set_option maxHeartbeats 1000000 in
theorem pblank (c : Nat) (w : World) :
    Calls Tryd.prog 39 #[.int .i32 c] w fun e w' => e = .returned (.bool (blank c)) ∧ w = w' := by
  go_enter Tryd.func39, Tryd.ntmps39
  go_wp2
  all_goals
    go_ret
    refine ⟨retb ?_, rfl⟩
    rw [Bool.eq_iff_iff]
    simp [blank]
    omega

set_option maxRecDepth 100000 in
set_option maxHeartbeats 1000000 in
theorem pletter (c : Nat) (w : World) :
    Calls Tryd.prog 36 #[.int .i32 c] w fun e w' => e = .returned (.bool (noletter c)) ∧ w = w' := by
  go_enter Tryd.func36, Tryd.ntmps36
  go_wp2
  all_goals
    go_ret
    refine ⟨retb ?_, rfl⟩
    rw [Bool.eq_iff_iff]
    simp [noletter, letter]
    omega

theorem pred_blank (w : World) : PredAtRunes Tryd.prog 39 #[] blank w := fun W x _ _ => by
  unfold FnGives
  refine (pblank x W).mono ?_
  rintro e w' ⟨rfl, rfl⟩
  exact ⟨rfl, 0, rfl⟩
theorem pred_letter (w : World) : PredAtRunes Tryd.prog 36 #[] noletter w := fun W x _ _ => by
  unfold FnGives
  refine (pletter x W).mono ?_
  rintro e w' ⟨rfl, rfl⟩
  exact ⟨rfl, 0, rfl⟩

/-- strings.FieldsFunc at a text. -/
theorem fields_text (g : Nat) (p : Nat → Bool) (cs : List Nat) (w : World) (eg : ∀ args w, (callFunc g args).run Tryd.prog w = .ok (.enter g args) w) (hp : PredAtRunes Tryd.prog g #[] p w) (hok : okt cs = true) (hs : (bs cs).size ≤ 4000000000) :
    Calls Tryd.prog 35 #[.string (bs cs), .func (.func g) #[] #[]] w (RetStrs w ((fields p cs).map bs)) := by
  refine (Tryd.strings_FieldsFunc_runes g #[] eg p (bs cs) w (by omega) hp).mono ?_
  rintro e w' ⟨A, rfl, _, hown, hb⟩
  rw [goFields_eq p cs hok] at hown ⊢
  exact ⟨_, rfl, Strs.of_own hown rfl, hb⟩

theorem fields_sum (p : Nat → Bool) (cs : List Nat) : (bs (glue (fields p cs))).size ≤ (bs cs).size ∧ (fields p cs).length ≤ (bs cs).size := by
  constructor
  · have key : ∀ (r : List Nat) (q : List Nat) (gap : Bool), (enc (cgo p q gap r)).length ≤ (enc q).length + gap.toNat + (enc r).length := by
      intro r
      induction r with
      | nil => intro q gap; simp [cgo, enc_nil]
      | cons c r ih =>
        intro q gap
        have h3 := enc1_len c
        unfold cgo
        by_cases hc : p c = true
        · rw [if_pos hc]
          have := ih q true
          rw [enc_cons, List.length_append]
          simp only [Bool.toNat_true] at this
          omega
        · rw [if_neg hc]
          refine Nat.le_trans (ih _ false) ?_
          rw [enc_cons, List.length_append, enc_append, List.length_append, enc_cons, enc_nil, List.append_nil]
          simp only [Bool.toNat_false]
          split
          · rename_i h
            rw [enc_append, List.length_append, h.1]
            have : (enc [32]).length = 1 := rfl
            simp only [Bool.toNat_true]; omega
          · omega
    have := key cs [] false
    rw [cgo_eq] at this
    rw [bs_size, bs_size]
    simpa [enc_nil] using this
  · have key : ∀ (r cur : List Nat), (fgo p cur r).length ≤ r.length + (if cur = [] then 0 else 1) := by
      intro r
      induction r with
      | nil => intro cur; unfold fgo; split <;> simp
      | cons c r ih =>
        intro cur
        unfold fgo
        by_cases h : p c = true
        · rw [if_pos h, List.length_append]
          have := ih []
          simp at this ⊢
          split <;> simp <;> omega
        · rw [if_neg h]
          have := ih (cur ++ [c])
          simp at this ⊢
          split <;> omega
    have := key cs []
    have h2 := len_le_enc cs
    rw [bs_size]
    simp at this
    unfold fields
    omega

/-- strings.Join of strings in memory. -/
theorem join_any (xs : List ByteArray) (sep : ByteArray) (v : Value) (w : World) (hv : Strs w v xs) (hn : xs.length ≤ 4000000000) (hlen : (Lib.join (xs.map (·.data.toList)) sep.data.toList).length ≤ 140737488355328) :
    Calls Tryd.prog 38 #[v, .string sep] w fun e w' => e = .returned (.string ⟨(Lib.join (xs.map (·.data.toList)) sep.data.toList).toArray⟩) ∧ Below w.heap.size w w' := by
  obtain ⟨a, c, rfl, hc, h0 | ⟨b, o, rfl, hb, hx⟩⟩ := hv
  · subst h0
    refine (Tryd.strings_Join_none a c sep w).mono ?_
    rintro e w' ⟨rfl, rfl⟩
    exact ⟨rfl, Below.refl _ _⟩
  · exact Tryd.strings_Join b o c xs sep w hx hb (by omega) hc hlen
theorem join_text (ws : List (List Nat)) (v : Value) (w : World) (hv : Strs w v (ws.map bs)) (hn : ws.length ≤ 4000000000) (hs : (bs (glue ws)).size ≤ 4000000000) :
    Calls Tryd.prog 38 #[v, .string ⟨#[32]⟩] w fun e w' => e = .returned (.string (bs (glue ws))) ∧ Below w.heap.size w w' := by
  have hj := enc_glue ws
  have hm : (ws.map bs).map (·.data.toList) = ws.map enc := by
    rw [List.map_map]
    apply List.map_congr_left
    intro x _
    exact bs_data x
  have hd : (⟨#[32]⟩ : ByteArray).data.toList = [32] := rfl
  have := join_any (ws.map bs) ⟨#[32]⟩ v w hv (by rw [List.length_map]; exact hn) (by rw [hm, hd, ← hj, ← bs_size]; omega)
  rw [hm, hd, ← hj] at this
  exact this

set_option maxRecDepth 100000 in
set_option maxHeartbeats 1000000 in
theorem pClean (cs : List Nat) (w : World) (hok : okt cs = true) (hs : (bs cs).size ≤ 4000000000) :
    Calls Tryd.prog 21 #[.string (bs cs)] w fun e w' => e = .returned (.string (bs (clean cs))) ∧ Below w.heap.size w w' := by
  obtain ⟨hz, hn⟩ := fields_sum blank cs
  go_enter Tryd.func21, Tryd.ntmps21
  go_wp2_with (go_at_call 35; refine (fields_text 39 blank cs _ (enters_of Tryd.func39 (by kernel_rfl) rfl) (pred_blank _) hok hs).mono ?_)
  rintro e w1 ⟨v, rfl, hv, hb⟩
  go_wp2_with (go_at_call 38; refine (join_text (fields blank cs) v _ hv (by omega) (by omega)).mono ?_)
  rintro e w2 ⟨rfl, hb2⟩
  go_wp2
  go_ret
  exact ⟨rfl, hb.trans (hb2.mono hb.size)⟩

set_option maxRecDepth 100000 in
set_option maxHeartbeats 1000000 in
theorem pSpace (cs : List Nat) (w : World) (hok : okt cs = true) (hs : (bs cs).size ≤ 4000000000) :
    Calls Tryd.prog 24 #[.string (bs cs)] w fun e w' => e = .returned (.bool (clean cs).isEmpty) ∧ Below w.heap.size w w' := by
  have e : (bs (clean cs)).toList.isEmpty = (clean cs).isEmpty := by
    rw [ByteArray.toList_eq, bs_data]
    cases h : (clean cs) with
    | nil => rfl
    | cons c r =>
      cases he : enc (c :: r) with
      | nil => have := enc_eq_nil he; cases this
      | cons => rfl
  have HE := Lib.hid e
  clear e
  go_enter Tryd.func24, Tryd.ntmps24
  go_wp2_with (go_at_call 21; refine (pClean cs _ hok hs).mono ?_; rintro e w' ⟨rfl, hw⟩)
  go_ret
  exact ⟨retb HE.out, hw⟩

set_option maxRecDepth 100000 in
set_option maxHeartbeats 1000000 in
theorem pRunes (cs : List Nat) (w : World) (hok : okt cs = true) (hs : (bs cs).size ≤ 4000000000) :
    Calls Tryd.prog 12 #[.string (bs cs)] w fun e w' => e = .returned (.int .i64 cs.length) ∧ Below w.heap.size w w' := by
  have HR := Lib.hid (runeCount_eq cs hok)
  go_enter Tryd.func12, Tryd.ntmps12
  go_wp2_with (go_at_call 28; refine (Tryd.utf8_RuneCountInString (bs cs) _ (by omega)).mono ?_; rw [HR.out]; rintro e w' ⟨rfl, pos, rfl⟩)
  go_ret
  exact ⟨rfl, (Below.refl _ _).alloc (Nat.le_refl _) _⟩

set_option maxRecDepth 100000 in
set_option maxHeartbeats 1000000 in
theorem pClip (cs : List Nat) (n : Int) (w : World) (hn : -9223372036854775808 ≤ n) (hn2 : n ≤ 9223372036854775807) (hok : okt cs = true) (_hs : (bs cs).size ≤ 4000000000) :
    Calls Tryd.prog 14 #[.string (bs cs), .int .i64 n] w fun e w' => e = .returned (.string (bs (cs.take n.toNat))) ∧ Below w.heap.size w w' := by
  obtain ⟨A, hA⟩ : ∃ A, A = bs (cs.take n.toNat) := ⟨_, rfl⟩
  rw [← hA]
  have HA := Lib.hid hA; clear hA
  go_enter Tryd.func14, Tryd.ntmps14
  go_wp2
  go_loopw [1] (fun v wr => ∃ (k : Nat) (r : List Nat) (m : Int), wr = w.iter (bs cs) k ∧ At cs k r ∧ v = .int .i64 m ∧ m ≤ n ∧ (m = n ∨ 0 ≤ m) ∧ Hid ((cs.length - r.length) + m.toNat = n.toNat) ∧ r.length ≤ cs.length) (fun _ wr => (bs cs).size - wr.iterPos w.heap.size)
  case atStart => exact ⟨0, cs, n, rfl, At.start cs, rfl, by omega, .inl rfl, Lib.hid (by omega), by omega⟩
  case round =>
    obtain ⟨k, r, m, rfl, hat, rfl, hm, hm2, HM, hr⟩ := hrel
    cases r with
    | nil =>
      have hnx := fun ty => next_end w hat ty
      have H : Hid (A = bs cs) := Lib.hid (by
        rw [HA.out, List.take_of_length_le (by have := HM.out; simp at this; omega)])
      clear HM HA
      go_wp2
      go_ret
      exact ⟨by rw [H.out]; rfl, (Below.refl _ _).alloc (Nat.le_refl _) _⟩
    | cons c r =>
      obtain ⟨h1, h2⟩ := hat.lt
      have h3 := enc1_len c
      have hnx := fun ty => next_char w hat hok ty
      by_cases hpos : m < 1
      · have H : Hid (A = (bs cs).extract 0 k) := Lib.hid (by
          rw [hat.front, HA.out]
          congr 2
          have := HM.out
          omega)
        clear HM HA hm2
        go_wp2
        go_ret
        exact ⟨rets H.out.symm, (Below.refl _ _).alloc (Nat.le_refl _) _⟩
      · have hge : 1 ≤ m := by omega
        have hle : m ≤ 9223372036854775807 := by omega
        go_wp2
        go_roundw
        case rel => exact ⟨k + (enc1 c).length, r, m - 1, rfl, hat.next, rfl, by omega, .inr (by omega), Lib.hid (by have := HM.out; simp at this hr; omega), by simp at hr; omega⟩
        case measure => simp; omega
theorem decode_scalar (s : ByteArray) (k : Nat) : ((Utf8.decode s k).1 < 55296 ∨ 57344 ≤ (Utf8.decode s k).1) ∧ (Utf8.decode s k).1 ≤ 1114111 := by
  have hb : ∀ j, (s.get! (k + j)).toNat < 256 := fun j => (s.get! (k + j)).toNat_lt
  have h0 := hb 0; have h1 := hb 1; have h2 := hb 2; have h3 := hb 3
  simp only [Utf8.decode]
  repeat' split
  all_goals simp_all [Utf8.runeError, Utf8.valid]
  all_goals omega

set_option maxRecDepth 100000 in
set_option maxHeartbeats 1000000 in
theorem pValid (s : ByteArray) (w : World) (hE : Env w) (hs : s.size ≤ 4000000000) :
    Calls Tryd.prog 10 #[.string s] w fun e w' => e = .returned (.bool (isText s.data.toList)) ∧ Below w.heap.size w w' := by
  have hve := valid_eq s
  obtain ⟨A, hA⟩ : ∃ A, A = isText s.data.toList := ⟨_, rfl⟩
  rw [← hA] at hve ⊢
  have hT := hE.tabs
  clear hE hA
  cases hv : Lib.validD s.data.toList with
  | false =>
    rw [hv, Bool.false_and] at hve
    subst hve
    have HV := Lib.hid hv
    clear hv
    go_enter Tryd.func10, Tryd.ntmps10
    go_wp2_with (go_at_call 26; refine (Any.utf8_ValidString Tryd.lays196 s _ (by omega) hT).mono ?_; rw [HV.out]; rintro e w1 ⟨rfl, hb⟩)
    go_ret
    exact ⟨rfl, hb⟩
  | true =>
    rw [hv, Bool.true_and] at hve
    have HV := Lib.hid hv
    have HR := Lib.hid hve
    clear hv hve
    go_enter Tryd.func10, Tryd.ntmps10
    go_wp2_with (go_at_call 26; refine (Any.utf8_ValidString Tryd.lays196 s _ (by omega) hT).mono ?_; rw [HV.out]; rintro e w1 ⟨rfl, hb⟩)
    go_loopw [] (fun wr => ∃ (k f : Nat), wr = w1.iter s k ∧ s.size ≤ k + f ∧ Hid (rangeOk s f k = A)) (fun wr => s.size - wr.iterPos w1.heap.size)
    case atStart => exact ⟨0, s.size, rfl, by omega, HR⟩
    case round =>
      obtain ⟨k, f, rfl, hf, HK⟩ := hrel
      clear HR HV hT
      have hbw : Below w.heap.size w (w1.iter s k) := hb.alloc hb.size _
      by_cases hk : k < s.size
      · obtain ⟨f, rfl⟩ : ∃ g, f = g + 1 := ⟨f - 1, by omega⟩
        have hn := fun ty => run_next_any (P := Tryd.prog) w1 s k ty hk
        have hwp := Lib.decode_width_pos s k hk
        obtain ⟨hsc, hmx⟩ := decode_scalar s k
        have hstep : rangeOk s (f + 1) k = if okc (Utf8.decode s k).1 then rangeOk s f (k + (Utf8.decode s k).2) else false := by
          show (if k < s.size then _ else _) = _
          rw [if_pos hk]
        generalize (Utf8.decode s k).1 = c at hn hsc hmx hstep
        generalize (Utf8.decode s k).2 = d at hn hwp hstep
        have HK2 := Lib.hid (hstep.symm.trans HK.out)
        clear HK hstep
        by_cases hc : okc c = true
        · have H : Hid (rangeOk s f (k + d) = A) := Lib.hid (by have := HK2.out; rw [if_pos hc] at this; exact this)
          have h1 := (okc_iff c).1 hc
          have g1 : 32 ≤ c := by omega
          have g2 : c ≤ 65535 := by omega
          clear HK2 hc
          rcases Nat.lt_or_ge c 127 with h | h
          · go_wp2
            go_roundw
            case rel => exact ⟨k + d, f, rfl, by omega, H⟩
            case measure => simp; omega
          · have g3 : 160 ≤ c := by omega
            go_wp2
            go_roundw
            case rel => exact ⟨k + d, f, rfl, by omega, H⟩
            case measure => simp; omega
        · have H : Hid (A = false) := Lib.hid (by have := HK2.out; rw [if_neg hc] at this; exact this.symm)
          rw [okc_iff] at hc
          clear HK2
          rcases Nat.lt_or_ge c 32 with h | h
          · clear hc hsc
            go_wp2
            go_ret
            exact ⟨by rw [H.out]; rfl, hb.alloc hb.size _⟩
          · rcases Nat.lt_or_ge c 160 with h' | h'
            · have g1 : 127 ≤ c := by omega
              clear hc hsc
              go_wp2
              go_ret
              exact ⟨by rw [H.out]; rfl, hb.alloc hb.size _⟩
            · have g1 : 65535 < c := by omega
              clear hc hsc
              go_wp2
              go_ret
              exact ⟨by rw [H.out]; rfl, hb.alloc hb.size _⟩
      · have hn := fun ty => run_next_end (P := Tryd.prog) w1 s k ty hk
        have H : Hid (A = true) := Lib.hid (by
          rw [← HK.out]
          cases f with
          | zero => rfl
          | succ f => show (if k < s.size then _ else _) = _; rw [if_neg hk])
        clear HK
        go_wp2
        go_ret
        exact ⟨by rw [H.out]; rfl, hbw⟩
end Go.Proofs.YtamdimjinbaigaaDoor
