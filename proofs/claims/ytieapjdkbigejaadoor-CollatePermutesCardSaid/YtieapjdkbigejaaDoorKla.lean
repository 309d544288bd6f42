/- Walks of the statements CollateSkips, CollateKeys, CollateCompares (layer 2): each returns true, and what was there before stays. -/
import Derived.Test.YtieapjdkbigejaaDoorKal
import Derived.OpenShut
namespace Go.Proofs.YtieapjdkbigejaaDoor
open Go Go.RowKit

/-- Small at a slice that the law has just made. -/
theorem small1 (s : ByteArray) (w : World) (hs : s.size ≤ 9223372036854775807) :
    Calls Tryd.prog 11 #[.slice (some ⟨w.heap.size, 0, none⟩) 1 1] (w.alloc (.cells #[.string s] 9)) fun e w' => e = .returned (.bool (decide (s.size ≤ 300) && isText s.data.toList)) ∧ Below w.heap.size w w' := by
  refine (rSmall _ [s] _ (strs_new w [s] 9) (by simp) (by intro x hx; rw [List.mem_singleton.1 hx]; exact hs)).mono ?_
  rintro e w' ⟨rfl, d⟩
  exact ⟨by simp [smalls], ((Below.refl _ _).alloc (Nat.le_refl _) _).trans (d.below _)⟩
theorem small2 (s t : ByteArray) (w : World) (hs : s.size ≤ 9223372036854775807) (ht : t.size ≤ 9223372036854775807) :
    Calls Tryd.prog 11 #[.slice (some ⟨w.heap.size, 0, none⟩) 2 2] (w.alloc (.cells #[.string s, .string t] 9)) fun e w' => e = .returned (.bool ((decide (s.size ≤ 300) && isText s.data.toList) && (decide (t.size ≤ 300) && isText t.data.toList))) ∧ Below w.heap.size w w' := by
  refine (rSmall _ [s, t] _ (strs_new w [s, t] 9) (by simp) (by intro x hx; simp at hx; rcases hx with rfl | rfl; exact hs; exact ht)).mono ?_
  rintro e w' ⟨rfl, d⟩
  exact ⟨by simp [smalls], ((Below.refl _ _).alloc (Nat.le_refl _) _).trans (d.below _)⟩

set_option maxRecDepth 100000 in
set_option maxHeartbeats 1000000 in
theorem law_CollateSkips (lang s : ByteArray) (w : World) (hE : Env w) (hl : lang.size ≤ 9223372036854775807) (hs : s.size ≤ 9223372036854775807) :
    Calls Tryd.prog 3 #[.string lang, .string s] w fun e w' => e = .returned (.bool true) ∧ Below w.heap.size w w' := by
  have h1 := small1 s w hs
  cases hv : (decide (s.size ≤ 300) && isText s.data.toList) with
  | false =>
    rw [hv] at h1
    have H1 := Lib.hid h1
    clear h1 hv
    go_enter Tryd.func3, Tryd.ntmps3
    go_wp2_with fail
    refine H1.out.mono ?_
    rintro e w1 ⟨rfl, b1⟩
    go_wp2_with fail
    refine (alive_any _ (hE.below b1)).mono ?_
    rintro e w2 ⟨rfl, b2⟩
    go_wp2
    go_ret
    exact ⟨rfl, b1.bt b2⟩
  | true =>
    rw [hv] at h1
    obtain ⟨cs, hok, rfl, hsz⟩ := small_text hv
    have H1 := Lib.hid h1
    clear h1 hv hs
    go_enter Tryd.func3, Tryd.ntmps3
    go_wp2_with fail
    refine H1.out.mono ?_
    rintro e w1 ⟨rfl, b1⟩
    go_wp2_with fail
    refine (pKnown lang _ hl).mono ?_
    rintro e w2 ⟨rfl, b2⟩
    have b12 := b1.bt b2
    go_wp2_with fail
    refine (rKnown lang _).mono ?_
    rintro e w3 ⟨rfl, rfl⟩
    go_wp2_with fail
    refine (pSkip lang cs _ (hE.below b12) hl hok (by omega)).mono ?_
    rintro e w4 ⟨rfl, b4⟩
    have b14 := b12.bt b4
    go_wp2_with fail
    refine (rSkip lang cs _ hok (by omega)).mono ?_
    rintro e w5 ⟨rfl, b5⟩
    have b15 := b14.bt b5
    go_wp2_with fail
    refine (alive_any _ (hE.below b15)).mono ?_
    rintro e w6 ⟨rfl, b6⟩
    go_wp2
    go_ret
    exact ⟨rfl, b15.bt b6⟩

set_option maxRecDepth 100000 in
set_option maxHeartbeats 1000000 in
theorem law_CollateKeys (lang s : ByteArray) (w : World) (hE : Env w) (_hl : lang.size ≤ 9223372036854775807) (hs : s.size ≤ 9223372036854775807) :
    Calls Tryd.prog 4 #[.string lang, .string s] w fun e w' => e = .returned (.bool true) ∧ Below w.heap.size w w' := by
  have h1 := small1 s w hs
  cases hv : (decide (s.size ≤ 300) && isText s.data.toList) with
  | false =>
    rw [hv] at h1
    have H1 := Lib.hid h1
    clear h1 hv
    go_enter Tryd.func4, Tryd.ntmps4
    go_wp2_with fail
    refine H1.out.mono ?_
    rintro e w1 ⟨rfl, b1⟩
    go_wp2_with fail
    refine (alive_any _ (hE.below b1)).mono ?_
    rintro e w2 ⟨rfl, b2⟩
    go_wp2
    go_ret
    exact ⟨rfl, b1.bt b2⟩
  | true =>
    rw [hv] at h1
    obtain ⟨cs, hok, rfl, hsz⟩ := small_text hv
    have H1 := Lib.hid h1
    clear h1 hv hs
    go_enter Tryd.func4, Tryd.ntmps4
    go_wp2_with fail
    refine H1.out.mono ?_
    rintro e w1 ⟨rfl, b1⟩
    go_wp2_with fail
    refine (pKey lang cs _ (hE.below b1) hok (by omega)).mono ?_
    rintro e w4 ⟨rfl, b4⟩
    have b14 := b1.bt b4
    go_wp2_with fail
    refine (rKey lang cs _ hok (by omega)).mono ?_
    rintro e w5 ⟨rfl, b5⟩
    have b15 := b14.bt b5
    go_wp2_with fail
    refine (alive_any _ (hE.below b15)).mono ?_
    rintro e w6 ⟨rfl, b6⟩
    go_wp2
    go_ret
    exact ⟨rfl, b15.bt b6⟩

set_option maxRecDepth 100000 in
set_option maxHeartbeats 1000000 in
theorem law_CollateCompares (lang s t : ByteArray) (w : World) (hE : Env w) (_hl : lang.size ≤ 9223372036854775807) (hs : s.size ≤ 9223372036854775807) (ht : t.size ≤ 9223372036854775807) :
    Calls Tryd.prog 5 #[.string lang, .string s, .string t] w fun e w' => e = .returned (.bool true) ∧ Below w.heap.size w w' := by
  have h1 := small2 s t w hs ht
  cases hv : ((decide (s.size ≤ 300) && isText s.data.toList) && (decide (t.size ≤ 300) && isText t.data.toList)) with
  | false =>
    rw [hv] at h1
    have H1 := Lib.hid h1
    clear h1 hv
    go_enter Tryd.func5, Tryd.ntmps5
    go_wp2_with fail
    refine H1.out.mono ?_
    rintro e w1 ⟨rfl, b1⟩
    go_wp2_with fail
    refine (alive_any _ (hE.below b1)).mono ?_
    rintro e w2 ⟨rfl, b2⟩
    go_wp2
    go_ret
    exact ⟨rfl, b1.bt b2⟩
  | true =>
    rw [hv] at h1
    rw [Bool.and_eq_true] at hv
    obtain ⟨cs, hok, rfl, hsz⟩ := small_text hv.1
    obtain ⟨ds, hok2, rfl, hsz2⟩ := small_text hv.2
    have H1 := Lib.hid h1
    clear h1 hv hs ht
    go_enter Tryd.func5, Tryd.ntmps5
    go_wp2_with fail
    refine H1.out.mono ?_
    rintro e w1 ⟨rfl, b1⟩
    go_wp2_with fail
    refine (pCompare lang cs ds _ (hE.below b1) hok hok2 (by omega) (by omega)).mono ?_
    rintro e w4 ⟨rfl, b4⟩
    have b14 := b1.bt b4
    go_wp2_with fail
    refine (rCompare lang cs ds _ hok hok2 (by omega) (by omega)).mono ?_
    rintro e w5 ⟨rfl, b5⟩
    have b15 := b14.bt b5
    go_wp2_with fail
    refine (alive_any _ (hE.below b15)).mono ?_
    rintro e w6 ⟨rfl, b6⟩
    go_wp2
    go_ret
    exact ⟨rfl, b15.bt b6⟩
end Go.Proofs.YtieapjdkbigejaaDoor
