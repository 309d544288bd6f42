/- Walks of package text's Words and of the examples (alive) of the statements about layer 1. -/
import Derived.Test.YtamdimjinbaigaaDoorPrgb
namespace Go.Proofs.YtamdimjinbaigaaDoor
open Go Go.RowKit

set_option maxRecDepth 100000 in
set_option maxHeartbeats 1000000 in
theorem pWords (cs : List Nat) (w : World) (hE : Env w) (hok : okt cs = true) (hs : (bs cs).size ≤ 4000000000) :
    Calls Tryd.prog 19 #[.string (bs cs)] w (RetStrs w ((words cs).map bs)) := by
  have hfl := fold_len cs hok
  have hfk := fold_okt cs hok
  go_enter Tryd.func19, Tryd.ntmps19
  go_wp2_with (go_at_call 16; refine (pFold cs _ hE hok hs).mono ?_; rintro e w1 ⟨rfl, hb1⟩)
  go_wp2_with (go_at_call 35; refine (fields_text 36 noletter (fold cs) _ (enters_of Tryd.func36 (by kernel_rfl) rfl) (pred_letter _) hfk (by omega)).mono ?_)
  rintro e w2 ⟨v, rfl, hv, hb2⟩
  go_wp2
  go_ret
  exact ⟨_, rfl, hv, hb1.trans (hb2.mono hb1.size)⟩

theorem al1 (w : World) (hE : Env w) : Calls Tryd.prog 10 #[.string ⟨#[97, 10]⟩] w fun e w' => e = .returned (.bool false) ∧ Below w.heap.size w w' :=
  pValid ⟨#[97, 10]⟩ w hE (by decide)
theorem al2 (w : World) (hE : Env w) : Calls Tryd.prog 10 #[.string ⟨#[195, 156, 110, 195, 175]⟩] w fun e w' => e = .returned (.bool true) ∧ Below w.heap.size w w' :=
  pValid ⟨#[195, 156, 110, 195, 175]⟩ w hE (by decide)
theorem al3 (w : World) : Calls Tryd.prog 12 #[.string ⟨#[195, 156, 110, 195, 175]⟩] w fun e w' => e = .returned (.int .i64 3) ∧ Below w.heap.size w w' :=
  pRunes [220, 110, 239] w (by decide) (by decide)
theorem al4 (w : World) : Calls Tryd.prog 14 #[.string ⟨#[195, 156, 110, 195, 175]⟩, .int .i64 2] w fun e w' => e = .returned (.string ⟨#[195, 156, 110]⟩) ∧ Below w.heap.size w w' :=
  pClip [220, 110, 239] 2 w (by decide) (by decide) (by decide) (by decide)
theorem al5 (w : World) : Calls Tryd.prog 21 #[.string ⟨#[32, 32, 97, 32, 32, 98, 32]⟩] w fun e w' => e = .returned (.string ⟨#[97, 32, 98]⟩) ∧ Below w.heap.size w w' :=
  pClean [32, 32, 97, 32, 32, 98, 32] w (by decide) (by decide)
theorem al6 (w : World) (hE : Env w) : Calls Tryd.prog 16 #[.string ⟨#[195, 134, 103, 105, 114, 32, 83, 116, 114, 97, 195, 159, 101]⟩] w fun e w' => e = .returned (.string ⟨#[97, 101, 103, 105, 114, 32, 115, 116, 114, 97, 115, 115, 101]⟩) ∧ Below w.heap.size w w' :=
  pFold [198, 103, 105, 114, 32, 83, 116, 114, 97, 223, 101] w hE (by decide) (by decide)
theorem al7 (w : World) (hE : Env w) : Calls Tryd.prog 19 #[.string ⟨#[76, 39, 195, 169, 116, 195, 169, 32, 49, 57, 57, 48, 33]⟩] w (RetStrs w [⟨#[108]⟩, ⟨#[101, 116, 101]⟩, ⟨#[49, 57, 57, 48]⟩]) :=
  pWords [76, 39, 233, 116, 233, 32, 49, 57, 57, 48, 33] w hE (by decide) (by decide)

set_option maxRecDepth 100000 in
set_option maxHeartbeats 2000000 in
theorem alive_any (w : World) (hE : Env w) :
    Calls Tryd.prog 9 #[] w fun e w' => e = .returned (.bool true) ∧ Below w.heap.size w w' := by
  go_enter Tryd.func9, Tryd.ntmps9
  go_wp2_with fail
  refine (al1 _ hE).mono ?_
  rintro e w1 ⟨rfl, b1⟩
  have E1 := hE.below b1
  go_wp2_with fail
  refine (al2 _ E1).mono ?_
  rintro e w2 ⟨rfl, b2⟩
  have E2 := E1.below b2
  go_wp2_with fail
  refine (al3 _).mono ?_
  rintro e w3 ⟨rfl, b3⟩
  have E3 := E2.below b3
  go_wp2_with fail
  refine (al4 _).mono ?_
  rintro e w4 ⟨rfl, b4⟩
  have E4 := E3.below b4
  go_wp2_with fail
  refine (al5 _).mono ?_
  rintro e w5 ⟨rfl, b5⟩
  have E5 := E4.below b5
  go_wp2_with fail
  refine (al6 _ E5).mono ?_
  rintro e w6 ⟨rfl, b6⟩
  have E6 := E5.below b6
  go_wp2_with fail
  refine (al7 _ E6).mono ?_
  rintro e w7 ⟨v, rfl, ⟨a, c, rfl, hc, h0 | ⟨b, o, rfl, hb, hx⟩⟩, b7⟩
  · cases h0
  have x0 : w7.cell? ⟨b, o, none⟩ = some (.string ⟨#[108]⟩) := by simpa using hx 0 _ rfl
  have x1 : w7.cell? ⟨b, o + 1, none⟩ = some (.string ⟨#[101, 116, 101]⟩) := hx 1 _ rfl
  have x2 : w7.cell? ⟨b, o + 2, none⟩ = some (.string ⟨#[49, 57, 57, 48]⟩) := hx 2 _ rfl
  clear hx
  go_wp2
  go_ret
  exact ⟨rfl, (((((b1.bt b2).bt b3).bt b4).bt b5).bt b6).bt b7⟩
end Go.Proofs.YtamdimjinbaigaaDoor
