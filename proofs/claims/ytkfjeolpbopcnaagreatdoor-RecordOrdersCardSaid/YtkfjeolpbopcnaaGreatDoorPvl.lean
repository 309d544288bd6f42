/- The walk of package text's Valid, at every string. -/
import Derived.Test.YtkfjeolpbopcnaaGreatDoorEnv
import Derived.Test.YtkfjeolpbopcnaaGreatDoorShelf
import Derived.Shelf.Unicode.ValidAny
namespace Go.Proofs.YtkfjeolpbopcnaaGreatDoor
open Go Go.RowKit

theorem decode_scalar (s : ByteArray) (k : Nat) : ((Utf8.decode s k).1 < 55296 ∨ 57344 ≤ (Utf8.decode s k).1) ∧ (Utf8.decode s k).1 ≤ 1114111 := by
  have hb : ∀ j, (s.get! (k + j)).toNat < 256 := fun j => (s.get! (k + j)).toNat_lt
  have h0 := hb 0; have h1 := hb 1; have h2 := hb 2; have h3 := hb 3
  simp only [Utf8.decode]
  repeat' split
  all_goals simp_all [Utf8.runeError, Utf8.valid]
  all_goals omega
set_option maxRecDepth 100000 in
set_option maxHeartbeats 1000000 in
theorem pValid (s : ByteArray) (w : World) (hE : Env w) (hs : s.size ≤ 4000000000) :
    Calls Tryz.prog 104 #[.string s] w fun e w' => e = .returned (.bool (isText s.data.toList)) ∧ Below w.heap.size w w' := by
  have hve := valid_eq s
  obtain ⟨A, hA⟩ : ∃ A, A = isText s.data.toList := ⟨_, rfl⟩
  rw [← hA] at hve ⊢
  have hT := hE.tabs
  clear hE hA
  cases hv : Lib.validD s.data.toList with
  | false =>
    rw [hv, Bool.false_and] at hve
    subst hve
    have HV := Lib.hid hv
    clear hv
    go_enter Tryz.func104, Tryz.ntmps104
    go_wp2_with (go_at_call 117; refine (Any.utf8_ValidString Tryz.lays196 s _ (by omega) hT).mono ?_; rw [HV.out]; rintro e w1 ⟨rfl, hb⟩)
    go_ret
    exact ⟨rfl, hb⟩
  | true =>
    rw [hv, Bool.true_and] at hve
    have HV := Lib.hid hv
    have HR := Lib.hid hve
    clear hv hve
    go_enter Tryz.func104, Tryz.ntmps104
    go_wp2_with (go_at_call 117; refine (Any.utf8_ValidString Tryz.lays196 s _ (by omega) hT).mono ?_; rw [HV.out]; rintro e w1 ⟨rfl, hb⟩)
    go_loopw [] (fun wr => ∃ (k f : Nat), wr = w1.iter s k ∧ s.size ≤ k + f ∧ Hid (rangeOk s f k = A)) (fun wr => s.size - wr.iterPos w1.heap.size)
    case atStart => exact ⟨0, s.size, rfl, by omega, HR⟩
    case round =>
      obtain ⟨k, f, rfl, hf, HK⟩ := hrel
      clear HR HV hT
      have hbw : Below w.heap.size w (w1.iter s k) := hb.alloc hb.size _
      by_cases hk : k < s.size
      · obtain ⟨f, rfl⟩ : ∃ g, f = g + 1 := ⟨f - 1, by omega⟩
        have hn := fun ty => run_next_any (P := Tryz.prog) w1 s k ty hk
        have hwp := Lib.decode_width_pos s k hk
        obtain ⟨hsc, hmx⟩ := decode_scalar s k
        have hstep : rangeOk s (f + 1) k = if okc (Utf8.decode s k).1 then rangeOk s f (k + (Utf8.decode s k).2) else false := by
          show (if k < s.size then _ else _) = _
          rw [if_pos hk]
        generalize (Utf8.decode s k).1 = c at hn hsc hmx hstep
        generalize (Utf8.decode s k).2 = d at hn hwp hstep
        have HK2 := Lib.hid (hstep.symm.trans HK.out)
        clear HK hstep
        by_cases hc : okc c = true
        · have H : Hid (rangeOk s f (k + d) = A) := Lib.hid (by have := HK2.out; rw [if_pos hc] at this; exact this)
          have h1 := (okc_iff c).1 hc
          have g1 : 32 ≤ c := by omega
          have g2 : c ≤ 65535 := by omega
          clear HK2 hc
          rcases Nat.lt_or_ge c 127 with h | h
          · go_wp2
            go_roundw
            case rel => exact ⟨k + d, f, rfl, by omega, H⟩
            case measure => simp; omega
          · have g3 : 160 ≤ c := by omega
            go_wp2
            go_roundw
            case rel => exact ⟨k + d, f, rfl, by omega, H⟩
            case measure => simp; omega
        · have H : Hid (A = false) := Lib.hid (by have := HK2.out; rw [if_neg hc] at this; exact this.symm)
          rw [okc_iff] at hc
          clear HK2
          rcases Nat.lt_or_ge c 32 with h | h
          · clear hc hsc
            go_wp2
            go_ret
            exact ⟨by rw [H.out]; rfl, hb.alloc hb.size _⟩
          · rcases Nat.lt_or_ge c 160 with h' | h'
            · have g1 : 127 ≤ c := by omega
              clear hc hsc
              go_wp2
              go_ret
              exact ⟨by rw [H.out]; rfl, hb.alloc hb.size _⟩
            · have g1 : 65535 < c := by omega
              clear hc hsc
              go_wp2
              go_ret
              exact ⟨by rw [H.out]; rfl, hb.alloc hb.size _⟩
      · have hn := fun ty => run_next_end (P := Tryz.prog) w1 s k ty hk
        have H : Hid (A = true) := Lib.hid (by
          rw [← HK.out]
          cases f with
          | zero => rfl
          | succ f => show (if k < s.size then _ else _) = _; rw [if_neg hk])
        clear HK
        go_wp2
        go_ret
        exact ⟨by rw [H.out]; rfl, hbw⟩
theorem pValid_true (cs : List Nat) (w : World) (hE : Env w) (hok : okt cs = true) (hs : (bs cs).size ≤ 4000000000) :
    Calls Tryz.prog 104 #[.string (bs cs)] w fun e w' => e = .returned (.bool true) ∧ Below w.heap.size w w' := by
  have := pValid (bs cs) w hE hs
  rw [isText_bs cs hok] at this
  exact this
theorem pValid_false (s : ByteArray) (w : World) (hE : Env w) (hn : isText s.data.toList = false) (hs : s.size ≤ 4000000000) :
    Calls Tryz.prog 104 #[.string s] w fun e w' => e = .returned (.bool false) ∧ Below w.heap.size w w' := by
  have := pValid s w hE hs
  rw [hn] at this
  exact this
end Go.Proofs.YtkfjeolpbopcnaaGreatDoor
