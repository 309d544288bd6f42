/- The walk of the statement MigrateBack (layer 18): it returns true, and what was there before stays. -/
import Derived.Test.YtimecccphbgdeaaDoorMlw
import Derived.Test.YtimecccphbgdeaaDoorMke
namespace Go.Proofs.YtimecccphbgdeaaDoor
open Go Go.RowKit

theorem ret_rec {W : World} {p : Rec × Int} {e : Ending} {w' : World} (h : RetRec W p e w') : ∃ (a' : Option Addr) (n' c' : Nat), e = .returned (.tuple #[.agg #[.int .i64 p.1.id, .int .i64 p.1.ver, .int .i64 p.1.kind, .string p.1.lang, .slice a' n' c'], .int .i64 p.2]) ∧ Flds w' (.slice a' n' c') p.1.fields ∧ Below W.heap.size W w' := by
  obtain ⟨v, h1, ⟨a', n', c', rfl, hf⟩, hb⟩ := h
  exact ⟨a', n', c', h1, hf, hb⟩
theorem five_new (w : World) (id ver kind : Int) (lang : ByteArray) (s : Value) (T : TypeId) : Five (w.alloc (.cells #[.int .i64 id, .int .i64 ver, .int .i64 kind, .string lang, s] T)) w.heap.size id ver kind lang s :=
  ⟨Lib.cell_of_heap (heap_alloc_new w _) 0, Lib.cell_of_heap (heap_alloc_new w _) 1, Lib.cell_of_heap (heap_alloc_new w _) 2, Lib.cell_of_heap (heap_alloc_new w _) 3, Lib.cell_of_heap (heap_alloc_new w _) 4⟩

/-- What the statement calls, where the record is changed up. -/
structure UpF (w : World) (id ver kind : Int) (lang : ByteArray) (a : Option Addr) (n c : Nat) (l lA : List Fld) : Prop where
  up : ∀ W, Below w.heap.size w W → Calls Tryd.prog 13 #[.agg #[.int .i64 id, .int .i64 ver, .int .i64 kind, .string lang, .slice a n c]] W fun e w' => ∃ (a' : Option Addr) (n' c' : Nat), e = .returned (.tuple #[.agg #[.int .i64 id, .int .i64 (ver + 1), .int .i64 kind, .string lang, .slice a' n' c'], .int .i64 0]) ∧ Flds w' (.slice a' n' c') lA ∧ Below W.heap.size W w'
  down : ∀ (W : World) (a' : Option Addr) (n' c' : Nat), Below w.heap.size w W → Flds W (.slice a' n' c') lA → Calls Tryd.prog 16 #[.agg #[.int .i64 id, .int .i64 (ver + 1), .int .i64 kind, .string lang, .slice a' n' c']] W fun e w' => ∃ (a' : Option Addr) (n' c' : Nat), e = .returned (.tuple #[.agg #[.int .i64 id, .int .i64 ver, .int .i64 kind, .string lang, .slice a' n' c'], .int .i64 0]) ∧ Flds w' (.slice a' n' c') l ∧ Below W.heap.size W w'
  kept : ∀ (W : World) (a' : Option Addr) (n' c' : Nat), Below w.heap.size w W → Flds W (.slice a' n' c') lA → Calls Tryd.prog 20 #[.agg #[.int .i64 id, .int .i64 (ver + 1), .int .i64 kind, .string lang, .slice a' n' c'], .agg #[.int .i64 id, .int .i64 ver, .int .i64 kind, .string lang, .slice a n c]] W fun e w' => e = .returned (.bool true) ∧ Below W.heap.size W w'
  same : ∀ (W : World) (a' : Option Addr) (n' c' : Nat), Below w.heap.size w W → Flds W (.slice a' n' c') l → Calls Tryd.prog 15 #[.agg #[.int .i64 id, .int .i64 ver, .int .i64 kind, .string lang, .slice a' n' c'], .agg #[.int .i64 id, .int .i64 ver, .int .i64 kind, .string lang, .slice a n c]] W fun e w' => e = .returned (.bool true) ∧ Below W.heap.size W w'
  wrap : IntKind.i64.wrap (ver + 1) = ver + 1
/-- And down. -/
structure DownF (w : World) (id ver kind : Int) (lang : ByteArray) (a : Option Addr) (n c : Nat) (d l' : List Fld) : Prop where
  down : ∀ W, Below w.heap.size w W → Calls Tryd.prog 16 #[.agg #[.int .i64 id, .int .i64 ver, .int .i64 kind, .string lang, .slice a n c]] W fun e w' => ∃ (a' : Option Addr) (n' c' : Nat), e = .returned (.tuple #[.agg #[.int .i64 id, .int .i64 (ver - 1), .int .i64 kind, .string lang, .slice a' n' c'], .int .i64 0]) ∧ Flds w' (.slice a' n' c') d ∧ Below W.heap.size W w'
  up : ∀ (W : World) (a' : Option Addr) (n' c' : Nat), Below w.heap.size w W → Flds W (.slice a' n' c') d → Calls Tryd.prog 13 #[.agg #[.int .i64 id, .int .i64 (ver - 1), .int .i64 kind, .string lang, .slice a' n' c']] W fun e w' => ∃ (a' : Option Addr) (n' c' : Nat), e = .returned (.tuple #[.agg #[.int .i64 id, .int .i64 ver, .int .i64 kind, .string lang, .slice a' n' c'], .int .i64 0]) ∧ Flds w' (.slice a' n' c') l' ∧ Below W.heap.size W w'
  kept : ∀ (W : World) (a' : Option Addr) (n' c' : Nat), Below w.heap.size w W → Flds W (.slice a' n' c') d → Calls Tryd.prog 20 #[.agg #[.int .i64 id, .int .i64 (ver - 1), .int .i64 kind, .string lang, .slice a' n' c'], .agg #[.int .i64 id, .int .i64 ver, .int .i64 kind, .string lang, .slice a n c]] W fun e w' => e = .returned (.bool true) ∧ Below W.heap.size W w'
  same : ∀ (W : World) (a' : Option Addr) (n' c' : Nat), Below w.heap.size w W → Flds W (.slice a' n' c') l' → Calls Tryd.prog 15 #[.agg #[.int .i64 id, .int .i64 ver, .int .i64 kind, .string lang, .slice a' n' c'], .agg #[.int .i64 id, .int .i64 ver, .int .i64 kind, .string lang, .slice a n c]] W fun e w' => e = .returned (.bool true) ∧ Below W.heap.size W w'
  wrap : IntKind.i64.wrap (ver - 1) = ver - 1
/-- The record is refused. -/
def UpBad (w : World) (id ver kind : Int) (lang : ByteArray) (a : Option Addr) (n c : Nat) (x : Rec) (xe : Int) : Prop :=
  ∀ W, Below w.heap.size w W → Calls Tryd.prog 13 #[.agg #[.int .i64 id, .int .i64 ver, .int .i64 kind, .string lang, .slice a n c]] W fun e w' => ∃ (a' : Option Addr) (n' c' : Nat), e = .returned (.tuple #[.agg #[.int .i64 x.id, .int .i64 x.ver, .int .i64 x.kind, .string x.lang, .slice a' n' c'], .int .i64 xe]) ∧ Flds w' (.slice a' n' c') x.fields ∧ Below W.heap.size W w'
def DownBad (w : World) (id ver kind : Int) (lang : ByteArray) (a : Option Addr) (n c : Nat) (xe : Int) : Prop :=
  ∀ W, Below w.heap.size w W → Calls Tryd.prog 16 #[.agg #[.int .i64 id, .int .i64 ver, .int .i64 kind, .string lang, .slice a n c]] W fun e w' => ∃ (a' : Option Addr) (n' c' : Nat), e = .returned (.tuple #[.agg #[.int .i64 0, .int .i64 0, .int .i64 0, .string ⟨#[]⟩, .slice a' n' c'], .int .i64 xe]) ∧ Flds w' (.slice a' n' c') ([] : List Fld) ∧ Below W.heap.size W w'
theorem upF_of {r : Rec} {a : Option Addr} {n c : Nat} {w : World} (hE : Env w) (hv : Flds w (.slice a n c) r.fields) (hs : r.small) (h : (upP r).2 = 0) : ∃ lA, UpF w r.id r.ver r.kind r.lang a n c r.fields lA := by
  obtain ⟨hk, hkv, hd⟩ := back_up h
  have hsm := upP_small hs
  obtain ⟨h1, h2, h3, -⟩ := upP_ok h
  have hvv := rightM_ver h1
  have hup : upP r = ((upP r).1, 0) := by rw [← h]
  rw [h3] at hk hd hsm hup
  refine ⟨upL r.ver r.fields, ⟨fun W hW => ?_, fun W a' n' c' hW hf => ?_, fun W a' n' c' hW hf => ?_, fun W a' n' c' hW hf => ?_, ?_⟩⟩
  · refine (pUp r a n c W (hE.below hW) (hv.below hW (Nat.le_refl _)) hs).mono fun e w' h => ?_
    rw [hup] at h
    exact ret_rec h
  · refine (pDown ⟨r.id, r.ver + 1, r.kind, r.lang, upL r.ver r.fields⟩ a' n' c' W (hE.below hW) hf hsm).mono fun e w' h => ?_
    rw [hd] at h
    exact ret_rec h
  · exact sKept ⟨r.id, r.ver + 1, r.kind, r.lang, upL r.ver r.fields⟩ r a' a n' c' n c W (hE.below hW) hf (hv.below hW (Nat.le_refl _)) hsm hs hk
  · exact rSameRec r r a' a n' c' n c W hf (hv.below hW (Nat.le_refl _)) rfl rfl rfl rfl rfl hs hs
  · rw [IntKind.wrap_i64]; omega
theorem downF_of {r : Rec} {a : Option Addr} {n c : Nat} {w : World} (hE : Env w) (hv : Flds w (.slice a n c) r.fields) (hs : r.small) (h : (downP r).2 = 0) : ∃ d l', DownF w r.id r.ver r.kind r.lang a n c d l' := by
  obtain ⟨hk, hkv, l', hd, hl⟩ := back_down h
  have hsm := downP_small hs
  obtain ⟨h1, h2, d, hdd, h3⟩ := downP_ok h
  have hvv := rightM_ver h1
  have hdn : downP r = ((downP r).1, 0) := by rw [← h]
  have hsm2 := upP_small hsm
  rw [hd] at hsm2
  rw [h3] at hk hd hsm hdn
  refine ⟨d, l', ⟨fun W hW => ?_, fun W a' n' c' hW hf => ?_, fun W a' n' c' hW hf => ?_, fun W a' n' c' hW hf => ?_, ?_⟩⟩
  · refine (pDown r a n c W (hE.below hW) (hv.below hW (Nat.le_refl _)) hs).mono fun e w' h => ?_
    rw [hdn] at h
    exact ret_rec h
  · refine (pUp ⟨r.id, r.ver - 1, r.kind, r.lang, d⟩ a' n' c' W (hE.below hW) hf hsm).mono fun e w' h => ?_
    rw [hd] at h
    exact ret_rec h
  · exact sKept ⟨r.id, r.ver - 1, r.kind, r.lang, d⟩ r a' a n' c' n c W (hE.below hW) hf (hv.below hW (Nat.le_refl _)) hsm hs hk
  · exact rSameRec ⟨r.id, r.ver, r.kind, r.lang, l'⟩ r a' a n' c' n c W hf (hv.below hW (Nat.le_refl _)) rfl rfl rfl rfl hl hsm2 hs
  · rw [IntKind.wrap_i64]; omega
theorem upBad_of {r : Rec} {a : Option Addr} {n c : Nat} {w : World} (hE : Env w) (hv : Flds w (.slice a n c) r.fields) (hs : r.small) : UpBad w r.id r.ver r.kind r.lang a n c (upP r).1 (upP r).2 :=
  fun W hW => (pUp r a n c W (hE.below hW) (hv.below hW (Nat.le_refl _)) hs).mono fun _ _ h => ret_rec h
theorem downBad_of {r : Rec} {a : Option Addr} {n c : Nat} {w : World} (hE : Env w) (hv : Flds w (.slice a n c) r.fields) (hs : r.small) (h : (downP r).2 ≠ 0) : DownBad w r.id r.ver r.kind r.lang a n c (downP r).2 := fun W hW => by
  refine (pDown r a n c W (hE.below hW) (hv.below hW (Nat.le_refl _)) hs).mono fun e w' hh => ?_
  rw [show downP r = (rec0, (downP r).2) by rw [← down_refused h]] at hh
  exact ret_rec hh

set_option maxRecDepth 100000 in
set_option maxHeartbeats 8000000 in
theorem back_both {id ver kind : Int} {lang : ByteArray} {a : Option Addr} {n c : Nat} {w : World} {l lA : List Fld} {d l' : List Fld} (hal : ∀ W, Below w.heap.size w W → Calls Tryd.prog 9 #[] W fun e w' => e = .returned (.bool true) ∧ Below W.heap.size W w') (hsl : ∀ W, Below w.heap.size w W → Calls Tryd.prog 10 #[.agg #[.int .i64 id, .int .i64 ver, .int .i64 kind, .string lang, .slice a n c]] W fun e w' => e = .returned (.bool true) ∧ Below W.heap.size W w') (hu : UpF w id ver kind lang a n c l lA) (hd : DownF w id ver kind lang a n c d l') :
    Calls Tryd.prog 7 #[.agg #[.int .i64 id, .int .i64 ver, .int .i64 kind, .string lang, .slice a n c]] w fun e w' => e = .returned (.bool true) ∧ Below w.heap.size w w' := by
  have hb0 : Below w.heap.size w (recW w id ver kind lang a n c) := (Below.refl _ _).alloc (Nat.le_refl _) _
  have HB0 := Lib.hid hb0
  have CELLS : ∀ W, Below (recW w id ver kind lang a n c).heap.size (recW w id ver kind lang a n c) W → Five W w.heap.size id ver kind lang (.slice a n c) :=
    fun W h => ⟨block_cells h 0 _ rfl, block_cells h 1 _ rfl, block_cells h 2 _ rfl, block_cells h 3 _ rfl, block_cells h 4 _ rfl⟩
  have HCL := Lib.hid CELLS
  have HAL := Lib.hid hal
  have HSL := Lib.hid hsl
  have HU := Lib.hid hu
  have HD := Lib.hid hd
  clear hb0 CELLS hal hsl hu hd
  go_enter Tryd.func7, Tryd.ntmps7
  go_wp2_with fail
  refine (HAL.out _ HB0.out).mono ?_
  rintro e w1 ⟨rfl, b1⟩
  have HC1 := Lib.hid b1
  have HB1 := Lib.hid (HB0.out.bt b1)
  obtain ⟨q0, q1, q2, q3, q4⟩ := HCL.out w1 b1
  clear b1
  go_wp2_with fail
  refine (HSL.out _ HB1.out).mono ?_
  rintro e w2 ⟨rfl, b2⟩
  have HC2 := Lib.hid (HC1.out.bt b2)
  have HB2 := Lib.hid (HB1.out.bt b2)
  clear b2 q0 q1 q2 q3 q4
  obtain ⟨q0, q1, q2, q3, q4⟩ := HCL.out w2 HC2.out
  go_wp2_with fail
  refine (HU.out.up w2 HB2.out).mono ?_
  rintro e w3 ⟨a3, n3, c3, rfl, hf3, b3⟩
  have ha3 := Below.alloc (Below.refl w3.heap.size w3) (Nat.le_refl _) (.cells #[.int .i64 id, .int .i64 (ver + 1), .int .i64 kind, .string lang, .slice a3 n3 c3] 24)
  have HF3 := Lib.hid (hf3.below ha3 (Nat.le_refl _))
  have HB3 := Lib.hid ((HB2.out.bt b3).bt ha3)
  have HC3 := Lib.hid ((HC2.out.bt b3).bt ha3)
  have HV3 := Lib.hid (five_new w3 id (ver + 1) kind lang (.slice a3 n3 c3) 24)
  have hl3 : w3.heap.size < (w3.alloc (.cells #[.int .i64 id, .int .i64 (ver + 1), .int .i64 kind, .string lang, .slice a3 n3 c3] 24)).heap.size := by rw [World.size_alloc]; exact Nat.lt_succ_self _
  have HL3 := Lib.hid hl3
  clear b3 hf3 ha3 hl3 q0 q1 q2 q3 q4
  obtain ⟨q0, q1, q2, q3, q4⟩ := HCL.out _ HC3.out
  go_wp2_with fail
  refine (HU.out.down _ _ _ _ HB3.out HF3.out).mono ?_
  rintro e w4 ⟨a4, n4, c4, rfl, hf4, b4⟩
  have ha4 := Below.alloc (Below.refl w4.heap.size w4) (Nat.le_refl _) (.cells #[.int .i64 id, .int .i64 ver, .int .i64 kind, .string lang, .slice a4 n4 c4] 24)
  have HF4 := Lib.hid (hf4.below ha4 (Nat.le_refl _))
  have HG3 := Lib.hid ((HF3.out.below b4 (Nat.le_refl _)).below ha4 (Nat.le_refl _))
  have HB4 := Lib.hid ((HB3.out.bt b4).bt ha4)
  have HC4 := Lib.hid ((HC3.out.bt b4).bt ha4)
  have HV4 := Lib.hid (five_new w4 id ver kind lang (.slice a4 n4 c4) 24)
  have HW3 := Lib.hid (five_below (five_below HV3.out b4 HL3.out) ha4 (Nat.lt_of_lt_of_le HL3.out b4.size))
  have hl4 : w4.heap.size < (w4.alloc (.cells #[.int .i64 id, .int .i64 ver, .int .i64 kind, .string lang, .slice a4 n4 c4] 24)).heap.size := by rw [World.size_alloc]; exact Nat.lt_succ_self _
  have HL4 := Lib.hid hl4
  have HL3' : Hid (w3.heap.size < (w4.alloc (.cells #[.int .i64 id, .int .i64 ver, .int .i64 kind, .string lang, .slice a4 n4 c4] 24)).heap.size) := Lib.hid (Nat.lt_of_lt_of_le (Nat.lt_of_lt_of_le HL3.out b4.size) ha4.size)
  have hwp := HU.out.wrap
  clear b4 hf4 ha4 hl4 q0 q1 q2 q3 q4
  obtain ⟨q0, q1, q2, q3, q4⟩ := HCL.out _ HC4.out
  obtain ⟨r0, r1, r2, r3, r4⟩ := HW3.out
  obtain ⟨s0, s1, s2, s3, s4⟩ := HV4.out
  go_wp2_with fail
  refine (HU.out.kept _ _ _ _ HB4.out HG3.out).mono ?_
  rintro e w5 ⟨rfl, b5⟩
  have HB5 := Lib.hid (HB4.out.bt b5)
  have HC5 := Lib.hid (HC4.out.bt b5)
  have HF5 := Lib.hid (HF4.out.below b5 (Nat.le_refl _))
  clear q0 q1 q2 q3 q4 r0 r1 r2 r3 r4 s0 s1 s2 s3 s4
  obtain ⟨q0, q1, q2, q3, q4⟩ := HCL.out _ HC5.out
  obtain ⟨r0, r1, r2, r3, r4⟩ := five_below HW3.out b5 HL3'.out
  obtain ⟨s0, s1, s2, s3, s4⟩ := five_below HV4.out b5 HL4.out
  clear b5
  go_wp2_with fail
  refine (HU.out.same _ _ _ _ HB5.out HF5.out).mono ?_
  rintro e w6 ⟨rfl, b6⟩
  have HBE := Lib.hid (HB5.out.bt b6)
  have HCE := Lib.hid (HC5.out.bt b6)
  clear b6 q0 q1 q2 q3 q4 r0 r1 r2 r3 r4 s0 s1 s2 s3 s4
  clear hwp
  obtain ⟨q0, q1, q2, q3, q4⟩ := HCL.out _ HCE.out
  go_wp2_with fail
  refine (HD.out.down _ HBE.out).mono ?_
  rintro e w7 ⟨a7, n7, c7, rfl, hf7, b7⟩
  have ha7 := Below.alloc (Below.refl w7.heap.size w7) (Nat.le_refl _) (.cells #[.int .i64 id, .int .i64 (ver - 1), .int .i64 kind, .string lang, .slice a7 n7 c7] 24)
  have HF7 := Lib.hid (hf7.below ha7 (Nat.le_refl _))
  have HB7 := Lib.hid ((HBE.out.bt b7).bt ha7)
  have HC7 := Lib.hid ((HCE.out.bt b7).bt ha7)
  have HV7 := Lib.hid (five_new w7 id (ver - 1) kind lang (.slice a7 n7 c7) 24)
  have hl7 : w7.heap.size < (w7.alloc (.cells #[.int .i64 id, .int .i64 (ver - 1), .int .i64 kind, .string lang, .slice a7 n7 c7] 24)).heap.size := by rw [World.size_alloc]; exact Nat.lt_succ_self _
  have HL7 := Lib.hid hl7
  clear b7 hf7 ha7 hl7 q0 q1 q2 q3 q4
  obtain ⟨q0, q1, q2, q3, q4⟩ := HCL.out _ HC7.out
  go_wp2_with fail
  refine (HD.out.up _ _ _ _ HB7.out HF7.out).mono ?_
  rintro e w8 ⟨a8, n8, c8, rfl, hf8, b8⟩
  have ha8 := Below.alloc (Below.refl w8.heap.size w8) (Nat.le_refl _) (.cells #[.int .i64 id, .int .i64 ver, .int .i64 kind, .string lang, .slice a8 n8 c8] 24)
  have HF8 := Lib.hid (hf8.below ha8 (Nat.le_refl _))
  have HG7 := Lib.hid ((HF7.out.below b8 (Nat.le_refl _)).below ha8 (Nat.le_refl _))
  have HB8 := Lib.hid ((HB7.out.bt b8).bt ha8)
  have HC8 := Lib.hid ((HC7.out.bt b8).bt ha8)
  have HV8 := Lib.hid (five_new w8 id ver kind lang (.slice a8 n8 c8) 24)
  have HW7 := Lib.hid (five_below (five_below HV7.out b8 HL7.out) ha8 (Nat.lt_of_lt_of_le HL7.out b8.size))
  have hl8 : w8.heap.size < (w8.alloc (.cells #[.int .i64 id, .int .i64 ver, .int .i64 kind, .string lang, .slice a8 n8 c8] 24)).heap.size := by rw [World.size_alloc]; exact Nat.lt_succ_self _
  have HL8 := Lib.hid hl8
  have HL7' : Hid (w7.heap.size < (w8.alloc (.cells #[.int .i64 id, .int .i64 ver, .int .i64 kind, .string lang, .slice a8 n8 c8] 24)).heap.size) := Lib.hid (Nat.lt_of_lt_of_le (Nat.lt_of_lt_of_le HL7.out b8.size) ha8.size)
  have hwp := HD.out.wrap
  clear b8 hf8 ha8 hl8 q0 q1 q2 q3 q4
  obtain ⟨q0, q1, q2, q3, q4⟩ := HCL.out _ HC8.out
  obtain ⟨r0, r1, r2, r3, r4⟩ := HW7.out
  obtain ⟨s0, s1, s2, s3, s4⟩ := HV8.out
  go_wp2_with fail
  refine (HD.out.kept _ _ _ _ HB8.out HG7.out).mono ?_
  rintro e w9 ⟨rfl, b9⟩
  have HB9 := Lib.hid (HB8.out.bt b9)
  have HC9 := Lib.hid (HC8.out.bt b9)
  have HF9 := Lib.hid (HF8.out.below b9 (Nat.le_refl _))
  clear q0 q1 q2 q3 q4 r0 r1 r2 r3 r4 s0 s1 s2 s3 s4
  obtain ⟨q0, q1, q2, q3, q4⟩ := HCL.out _ HC9.out
  obtain ⟨r0, r1, r2, r3, r4⟩ := five_below HW7.out b9 HL7'.out
  obtain ⟨s0, s1, s2, s3, s4⟩ := five_below HV8.out b9 HL8.out
  clear b9
  go_wp2_with fail
  refine (HD.out.same _ _ _ _ HB9.out HF9.out).mono ?_
  rintro e w10 ⟨rfl, b10⟩
  have HBZ := Lib.hid (HB9.out.bt b10)
  have HCZ := Lib.hid (HC9.out.bt b10)
  clear b10 q0 q1 q2 q3 q4 r0 r1 r2 r3 r4 s0 s1 s2 s3 s4
  clear HCZ
  go_wp2
  go_ret
  exact ⟨rfl, HBZ.out⟩

set_option maxRecDepth 100000 in
set_option maxHeartbeats 8000000 in
theorem back_up_only {id ver kind : Int} {lang : ByteArray} {a : Option Addr} {n c : Nat} {w : World} {l lA : List Fld} {ye : Int} (hal : ∀ W, Below w.heap.size w W → Calls Tryd.prog 9 #[] W fun e w' => e = .returned (.bool true) ∧ Below W.heap.size W w') (hsl : ∀ W, Below w.heap.size w W → Calls Tryd.prog 10 #[.agg #[.int .i64 id, .int .i64 ver, .int .i64 kind, .string lang, .slice a n c]] W fun e w' => e = .returned (.bool true) ∧ Below W.heap.size W w') (hu : UpF w id ver kind lang a n c l lA) (hd : DownBad w id ver kind lang a n c ye) (hy2 : (ye != 0) = true) :
    Calls Tryd.prog 7 #[.agg #[.int .i64 id, .int .i64 ver, .int .i64 kind, .string lang, .slice a n c]] w fun e w' => e = .returned (.bool true) ∧ Below w.heap.size w w' := by
  have hb0 : Below w.heap.size w (recW w id ver kind lang a n c) := (Below.refl _ _).alloc (Nat.le_refl _) _
  have HB0 := Lib.hid hb0
  have CELLS : ∀ W, Below (recW w id ver kind lang a n c).heap.size (recW w id ver kind lang a n c) W → Five W w.heap.size id ver kind lang (.slice a n c) :=
    fun W h => ⟨block_cells h 0 _ rfl, block_cells h 1 _ rfl, block_cells h 2 _ rfl, block_cells h 3 _ rfl, block_cells h 4 _ rfl⟩
  have HCL := Lib.hid CELLS
  have HAL := Lib.hid hal
  have HSL := Lib.hid hsl
  have HU := Lib.hid hu
  have HD := Lib.hid hd
  clear hb0 CELLS hal hsl hu hd
  go_enter Tryd.func7, Tryd.ntmps7
  go_wp2_with fail
  refine (HAL.out _ HB0.out).mono ?_
  rintro e w1 ⟨rfl, b1⟩
  have HC1 := Lib.hid b1
  have HB1 := Lib.hid (HB0.out.bt b1)
  obtain ⟨q0, q1, q2, q3, q4⟩ := HCL.out w1 b1
  clear b1
  go_wp2_with fail
  refine (HSL.out _ HB1.out).mono ?_
  rintro e w2 ⟨rfl, b2⟩
  have HC2 := Lib.hid (HC1.out.bt b2)
  have HB2 := Lib.hid (HB1.out.bt b2)
  clear b2 q0 q1 q2 q3 q4
  obtain ⟨q0, q1, q2, q3, q4⟩ := HCL.out w2 HC2.out
  go_wp2_with fail
  refine (HU.out.up w2 HB2.out).mono ?_
  rintro e w3 ⟨a3, n3, c3, rfl, hf3, b3⟩
  have ha3 := Below.alloc (Below.refl w3.heap.size w3) (Nat.le_refl _) (.cells #[.int .i64 id, .int .i64 (ver + 1), .int .i64 kind, .string lang, .slice a3 n3 c3] 24)
  have HF3 := Lib.hid (hf3.below ha3 (Nat.le_refl _))
  have HB3 := Lib.hid ((HB2.out.bt b3).bt ha3)
  have HC3 := Lib.hid ((HC2.out.bt b3).bt ha3)
  have HV3 := Lib.hid (five_new w3 id (ver + 1) kind lang (.slice a3 n3 c3) 24)
  have hl3 : w3.heap.size < (w3.alloc (.cells #[.int .i64 id, .int .i64 (ver + 1), .int .i64 kind, .string lang, .slice a3 n3 c3] 24)).heap.size := by rw [World.size_alloc]; exact Nat.lt_succ_self _
  have HL3 := Lib.hid hl3
  clear b3 hf3 ha3 hl3 q0 q1 q2 q3 q4
  obtain ⟨q0, q1, q2, q3, q4⟩ := HCL.out _ HC3.out
  go_wp2_with fail
  refine (HU.out.down _ _ _ _ HB3.out HF3.out).mono ?_
  rintro e w4 ⟨a4, n4, c4, rfl, hf4, b4⟩
  have ha4 := Below.alloc (Below.refl w4.heap.size w4) (Nat.le_refl _) (.cells #[.int .i64 id, .int .i64 ver, .int .i64 kind, .string lang, .slice a4 n4 c4] 24)
  have HF4 := Lib.hid (hf4.below ha4 (Nat.le_refl _))
  have HG3 := Lib.hid ((HF3.out.below b4 (Nat.le_refl _)).below ha4 (Nat.le_refl _))
  have HB4 := Lib.hid ((HB3.out.bt b4).bt ha4)
  have HC4 := Lib.hid ((HC3.out.bt b4).bt ha4)
  have HV4 := Lib.hid (five_new w4 id ver kind lang (.slice a4 n4 c4) 24)
  have HW3 := Lib.hid (five_below (five_below HV3.out b4 HL3.out) ha4 (Nat.lt_of_lt_of_le HL3.out b4.size))
  have hl4 : w4.heap.size < (w4.alloc (.cells #[.int .i64 id, .int .i64 ver, .int .i64 kind, .string lang, .slice a4 n4 c4] 24)).heap.size := by rw [World.size_alloc]; exact Nat.lt_succ_self _
  have HL4 := Lib.hid hl4
  have HL3' : Hid (w3.heap.size < (w4.alloc (.cells #[.int .i64 id, .int .i64 ver, .int .i64 kind, .string lang, .slice a4 n4 c4] 24)).heap.size) := Lib.hid (Nat.lt_of_lt_of_le (Nat.lt_of_lt_of_le HL3.out b4.size) ha4.size)
  have hwp := HU.out.wrap
  clear b4 hf4 ha4 hl4 q0 q1 q2 q3 q4
  obtain ⟨q0, q1, q2, q3, q4⟩ := HCL.out _ HC4.out
  obtain ⟨r0, r1, r2, r3, r4⟩ := HW3.out
  obtain ⟨s0, s1, s2, s3, s4⟩ := HV4.out
  go_wp2_with fail
  refine (HU.out.kept _ _ _ _ HB4.out HG3.out).mono ?_
  rintro e w5 ⟨rfl, b5⟩
  have HB5 := Lib.hid (HB4.out.bt b5)
  have HC5 := Lib.hid (HC4.out.bt b5)
  have HF5 := Lib.hid (HF4.out.below b5 (Nat.le_refl _))
  clear q0 q1 q2 q3 q4 r0 r1 r2 r3 r4 s0 s1 s2 s3 s4
  obtain ⟨q0, q1, q2, q3, q4⟩ := HCL.out _ HC5.out
  obtain ⟨r0, r1, r2, r3, r4⟩ := five_below HW3.out b5 HL3'.out
  obtain ⟨s0, s1, s2, s3, s4⟩ := five_below HV4.out b5 HL4.out
  clear b5
  go_wp2_with fail
  refine (HU.out.same _ _ _ _ HB5.out HF5.out).mono ?_
  rintro e w6 ⟨rfl, b6⟩
  have HBE := Lib.hid (HB5.out.bt b6)
  have HCE := Lib.hid (HC5.out.bt b6)
  clear b6 q0 q1 q2 q3 q4 r0 r1 r2 r3 r4 s0 s1 s2 s3 s4
  clear hwp
  obtain ⟨q0, q1, q2, q3, q4⟩ := HCL.out _ HCE.out
  go_wp2_with fail
  refine (HD.out _ HBE.out).mono ?_
  rintro e w7 ⟨a7, n7, c7, rfl, hf7, b7⟩
  obtain ⟨rfl, -⟩ := hf7.len
  have ha7 := Below.alloc (Below.refl w7.heap.size w7) (Nat.le_refl _) (.cells #[.int .i64 0, .int .i64 0, .int .i64 0, .string ⟨#[]⟩, .slice a7 0 c7] 24)
  have HB7 := Lib.hid ((HBE.out.bt b7).bt ha7)
  clear b7 ha7 hf7 q0 q1 q2 q3 q4
  go_wp2
  go_ret
  exact ⟨rfl, HB7.out⟩

set_option maxRecDepth 100000 in
set_option maxHeartbeats 8000000 in
theorem back_down_only {id ver kind : Int} {lang : ByteArray} {a : Option Addr} {n c : Nat} {w : World} {x : Rec} {xe : Int} {d l' : List Fld} (hal : ∀ W, Below w.heap.size w W → Calls Tryd.prog 9 #[] W fun e w' => e = .returned (.bool true) ∧ Below W.heap.size W w') (hsl : ∀ W, Below w.heap.size w W → Calls Tryd.prog 10 #[.agg #[.int .i64 id, .int .i64 ver, .int .i64 kind, .string lang, .slice a n c]] W fun e w' => e = .returned (.bool true) ∧ Below W.heap.size W w') (hu : UpBad w id ver kind lang a n c x xe) (hx1 : (xe == 0) = false) (hd : DownF w id ver kind lang a n c d l') :
    Calls Tryd.prog 7 #[.agg #[.int .i64 id, .int .i64 ver, .int .i64 kind, .string lang, .slice a n c]] w fun e w' => e = .returned (.bool true) ∧ Below w.heap.size w w' := by
  have hb0 : Below w.heap.size w (recW w id ver kind lang a n c) := (Below.refl _ _).alloc (Nat.le_refl _) _
  have HB0 := Lib.hid hb0
  have CELLS : ∀ W, Below (recW w id ver kind lang a n c).heap.size (recW w id ver kind lang a n c) W → Five W w.heap.size id ver kind lang (.slice a n c) :=
    fun W h => ⟨block_cells h 0 _ rfl, block_cells h 1 _ rfl, block_cells h 2 _ rfl, block_cells h 3 _ rfl, block_cells h 4 _ rfl⟩
  have HCL := Lib.hid CELLS
  have HAL := Lib.hid hal
  have HSL := Lib.hid hsl
  have HU := Lib.hid hu
  have HD := Lib.hid hd
  clear hb0 CELLS hal hsl hu hd
  go_enter Tryd.func7, Tryd.ntmps7
  go_wp2_with fail
  refine (HAL.out _ HB0.out).mono ?_
  rintro e w1 ⟨rfl, b1⟩
  have HC1 := Lib.hid b1
  have HB1 := Lib.hid (HB0.out.bt b1)
  obtain ⟨q0, q1, q2, q3, q4⟩ := HCL.out w1 b1
  clear b1
  go_wp2_with fail
  refine (HSL.out _ HB1.out).mono ?_
  rintro e w2 ⟨rfl, b2⟩
  have HC2 := Lib.hid (HC1.out.bt b2)
  have HB2 := Lib.hid (HB1.out.bt b2)
  clear b2 q0 q1 q2 q3 q4
  obtain ⟨q0, q1, q2, q3, q4⟩ := HCL.out w2 HC2.out
  go_wp2_with fail
  refine (HU.out w2 HB2.out).mono ?_
  rintro e w3 ⟨a3, n3, c3, rfl, -, b3⟩
  have ha3 := Below.alloc (Below.refl w3.heap.size w3) (Nat.le_refl _) (.cells #[.int .i64 x.id, .int .i64 x.ver, .int .i64 x.kind, .string x.lang, .slice a3 n3 c3] 24)
  have HBE := Lib.hid ((HB2.out.bt b3).bt ha3)
  have HCE := Lib.hid ((HC2.out.bt b3).bt ha3)
  clear b3 ha3 q0 q1 q2 q3 q4
  obtain ⟨q0, q1, q2, q3, q4⟩ := HCL.out _ HCE.out
  go_wp2_with fail
  refine (HD.out.down _ HBE.out).mono ?_
  rintro e w7 ⟨a7, n7, c7, rfl, hf7, b7⟩
  have ha7 := Below.alloc (Below.refl w7.heap.size w7) (Nat.le_refl _) (.cells #[.int .i64 id, .int .i64 (ver - 1), .int .i64 kind, .string lang, .slice a7 n7 c7] 24)
  have HF7 := Lib.hid (hf7.below ha7 (Nat.le_refl _))
  have HB7 := Lib.hid ((HBE.out.bt b7).bt ha7)
  have HC7 := Lib.hid ((HCE.out.bt b7).bt ha7)
  have HV7 := Lib.hid (five_new w7 id (ver - 1) kind lang (.slice a7 n7 c7) 24)
  have hl7 : w7.heap.size < (w7.alloc (.cells #[.int .i64 id, .int .i64 (ver - 1), .int .i64 kind, .string lang, .slice a7 n7 c7] 24)).heap.size := by rw [World.size_alloc]; exact Nat.lt_succ_self _
  have HL7 := Lib.hid hl7
  clear b7 hf7 ha7 hl7 q0 q1 q2 q3 q4
  obtain ⟨q0, q1, q2, q3, q4⟩ := HCL.out _ HC7.out
  go_wp2_with fail
  refine (HD.out.up _ _ _ _ HB7.out HF7.out).mono ?_
  rintro e w8 ⟨a8, n8, c8, rfl, hf8, b8⟩
  have ha8 := Below.alloc (Below.refl w8.heap.size w8) (Nat.le_refl _) (.cells #[.int .i64 id, .int .i64 ver, .int .i64 kind, .string lang, .slice a8 n8 c8] 24)
  have HF8 := Lib.hid (hf8.below ha8 (Nat.le_refl _))
  have HG7 := Lib.hid ((HF7.out.below b8 (Nat.le_refl _)).below ha8 (Nat.le_refl _))
  have HB8 := Lib.hid ((HB7.out.bt b8).bt ha8)
  have HC8 := Lib.hid ((HC7.out.bt b8).bt ha8)
  have HV8 := Lib.hid (five_new w8 id ver kind lang (.slice a8 n8 c8) 24)
  have HW7 := Lib.hid (five_below (five_below HV7.out b8 HL7.out) ha8 (Nat.lt_of_lt_of_le HL7.out b8.size))
  have hl8 : w8.heap.size < (w8.alloc (.cells #[.int .i64 id, .int .i64 ver, .int .i64 kind, .string lang, .slice a8 n8 c8] 24)).heap.size := by rw [World.size_alloc]; exact Nat.lt_succ_self _
  have HL8 := Lib.hid hl8
  have HL7' : Hid (w7.heap.size < (w8.alloc (.cells #[.int .i64 id, .int .i64 ver, .int .i64 kind, .string lang, .slice a8 n8 c8] 24)).heap.size) := Lib.hid (Nat.lt_of_lt_of_le (Nat.lt_of_lt_of_le HL7.out b8.size) ha8.size)
  have hwp := HD.out.wrap
  clear b8 hf8 ha8 hl8 q0 q1 q2 q3 q4
  obtain ⟨q0, q1, q2, q3, q4⟩ := HCL.out _ HC8.out
  obtain ⟨r0, r1, r2, r3, r4⟩ := HW7.out
  obtain ⟨s0, s1, s2, s3, s4⟩ := HV8.out
  go_wp2_with fail
  refine (HD.out.kept _ _ _ _ HB8.out HG7.out).mono ?_
  rintro e w9 ⟨rfl, b9⟩
  have HB9 := Lib.hid (HB8.out.bt b9)
  have HC9 := Lib.hid (HC8.out.bt b9)
  have HF9 := Lib.hid (HF8.out.below b9 (Nat.le_refl _))
  clear q0 q1 q2 q3 q4 r0 r1 r2 r3 r4 s0 s1 s2 s3 s4
  obtain ⟨q0, q1, q2, q3, q4⟩ := HCL.out _ HC9.out
  obtain ⟨r0, r1, r2, r3, r4⟩ := five_below HW7.out b9 HL7'.out
  obtain ⟨s0, s1, s2, s3, s4⟩ := five_below HV8.out b9 HL8.out
  clear b9
  go_wp2_with fail
  refine (HD.out.same _ _ _ _ HB9.out HF9.out).mono ?_
  rintro e w10 ⟨rfl, b10⟩
  have HBZ := Lib.hid (HB9.out.bt b10)
  have HCZ := Lib.hid (HC9.out.bt b10)
  clear b10 q0 q1 q2 q3 q4 r0 r1 r2 r3 r4 s0 s1 s2 s3 s4
  clear HCZ
  go_wp2
  go_ret
  exact ⟨rfl, HBZ.out⟩

set_option maxRecDepth 100000 in
set_option maxHeartbeats 8000000 in
theorem back_none {id ver kind : Int} {lang : ByteArray} {a : Option Addr} {n c : Nat} {w : World} {x : Rec} {xe : Int} {ye : Int} (hal : ∀ W, Below w.heap.size w W → Calls Tryd.prog 9 #[] W fun e w' => e = .returned (.bool true) ∧ Below W.heap.size W w') (hsl : ∀ W, Below w.heap.size w W → Calls Tryd.prog 10 #[.agg #[.int .i64 id, .int .i64 ver, .int .i64 kind, .string lang, .slice a n c]] W fun e w' => e = .returned (.bool true) ∧ Below W.heap.size W w') (hu : UpBad w id ver kind lang a n c x xe) (hx1 : (xe == 0) = false) (hd : DownBad w id ver kind lang a n c ye) (hy2 : (ye != 0) = true) :
    Calls Tryd.prog 7 #[.agg #[.int .i64 id, .int .i64 ver, .int .i64 kind, .string lang, .slice a n c]] w fun e w' => e = .returned (.bool true) ∧ Below w.heap.size w w' := by
  have hb0 : Below w.heap.size w (recW w id ver kind lang a n c) := (Below.refl _ _).alloc (Nat.le_refl _) _
  have HB0 := Lib.hid hb0
  have CELLS : ∀ W, Below (recW w id ver kind lang a n c).heap.size (recW w id ver kind lang a n c) W → Five W w.heap.size id ver kind lang (.slice a n c) :=
    fun W h => ⟨block_cells h 0 _ rfl, block_cells h 1 _ rfl, block_cells h 2 _ rfl, block_cells h 3 _ rfl, block_cells h 4 _ rfl⟩
  have HCL := Lib.hid CELLS
  have HAL := Lib.hid hal
  have HSL := Lib.hid hsl
  have HU := Lib.hid hu
  have HD := Lib.hid hd
  clear hb0 CELLS hal hsl hu hd
  go_enter Tryd.func7, Tryd.ntmps7
  go_wp2_with fail
  refine (HAL.out _ HB0.out).mono ?_
  rintro e w1 ⟨rfl, b1⟩
  have HC1 := Lib.hid b1
  have HB1 := Lib.hid (HB0.out.bt b1)
  obtain ⟨q0, q1, q2, q3, q4⟩ := HCL.out w1 b1
  clear b1
  go_wp2_with fail
  refine (HSL.out _ HB1.out).mono ?_
  rintro e w2 ⟨rfl, b2⟩
  have HC2 := Lib.hid (HC1.out.bt b2)
  have HB2 := Lib.hid (HB1.out.bt b2)
  clear b2 q0 q1 q2 q3 q4
  obtain ⟨q0, q1, q2, q3, q4⟩ := HCL.out w2 HC2.out
  go_wp2_with fail
  refine (HU.out w2 HB2.out).mono ?_
  rintro e w3 ⟨a3, n3, c3, rfl, -, b3⟩
  have ha3 := Below.alloc (Below.refl w3.heap.size w3) (Nat.le_refl _) (.cells #[.int .i64 x.id, .int .i64 x.ver, .int .i64 x.kind, .string x.lang, .slice a3 n3 c3] 24)
  have HBE := Lib.hid ((HB2.out.bt b3).bt ha3)
  have HCE := Lib.hid ((HC2.out.bt b3).bt ha3)
  clear b3 ha3 q0 q1 q2 q3 q4
  obtain ⟨q0, q1, q2, q3, q4⟩ := HCL.out _ HCE.out
  go_wp2_with fail
  refine (HD.out _ HBE.out).mono ?_
  rintro e w7 ⟨a7, n7, c7, rfl, hf7, b7⟩
  obtain ⟨rfl, -⟩ := hf7.len
  have ha7 := Below.alloc (Below.refl w7.heap.size w7) (Nat.le_refl _) (.cells #[.int .i64 0, .int .i64 0, .int .i64 0, .string ⟨#[]⟩, .slice a7 0 c7] 24)
  have HB7 := Lib.hid ((HBE.out.bt b7).bt ha7)
  clear b7 ha7 hf7 q0 q1 q2 q3 q4
  go_wp2
  go_ret
  exact ⟨rfl, HB7.out⟩

set_option maxRecDepth 100000 in
set_option maxHeartbeats 4000000 in
theorem law_MigrateBack (r : Rec) (a : Option Addr) (n c : Nat) (w : World) (hE : Env w) (hv : Flds w (.slice a n c) r.fields) (hcd : ∀ f ∈ r.fields, ∀ s ∈ f.subs, s.1 < 256) :
    Calls Tryd.prog 7 #[.agg #[.int .i64 r.id, .int .i64 r.ver, .int .i64 r.kind, .string r.lang, .slice a n c]] w fun e w' => e = .returned (.bool true) ∧ Below w.heap.size w w' := by
  have hal : ∀ W, Below w.heap.size w W → Calls Tryd.prog 9 #[] W fun e w' => e = .returned (.bool true) ∧ Below W.heap.size W w' := fun W h => alive_any W (hE.below h)
  have hsl : ∀ W, Below w.heap.size w W → Calls Tryd.prog 10 #[.agg #[.int .i64 r.id, .int .i64 r.ver, .int .i64 r.kind, .string r.lang, .slice a n c]] W fun e w' => e = .returned (.bool (smallR r)) ∧ Below W.heap.size W w' := fun W h => rSmall r a n c W (hv.below h (Nat.le_refl _))
  cases hS : smallR r with
  | true =>
    rw [hS] at hsl
    have hs := rec_small hcd hS
    by_cases h1 : (upP r).2 = 0
    · obtain ⟨lA, hu⟩ := upF_of hE hv hs h1
      by_cases h2 : (downP r).2 = 0
      · obtain ⟨d, l', hd⟩ := downF_of hE hv hs h2
        exact back_both hal hsl hu hd
      · exact back_up_only hal hsl hu (downBad_of hE hv hs h2) (by simpa using h2)
    · by_cases h2 : (downP r).2 = 0
      · obtain ⟨d, l', hd⟩ := downF_of hE hv hs h2
        exact back_down_only hal hsl (upBad_of hE hv hs) (by simpa using h1) hd
      · exact back_none hal hsl (upBad_of hE hv hs) (by simpa using h1) (downBad_of hE hv hs h2) (by simpa using h2)
  | false =>
    rw [hS] at hsl
    have hb0 : Below w.heap.size w (recW w r.id r.ver r.kind r.lang a n c) := (Below.refl _ _).alloc (Nat.le_refl _) _
    have HB0 := Lib.hid hb0
    have CELLS : ∀ W, Below (recW w r.id r.ver r.kind r.lang a n c).heap.size (recW w r.id r.ver r.kind r.lang a n c) W → Five W w.heap.size r.id r.ver r.kind r.lang (.slice a n c) :=
      fun W h => ⟨block_cells h 0 _ rfl, block_cells h 1 _ rfl, block_cells h 2 _ rfl, block_cells h 3 _ rfl, block_cells h 4 _ rfl⟩
    have HCL := Lib.hid CELLS
    have HAL := Lib.hid hal
    have HSL := Lib.hid hsl
    obtain ⟨id, ver, kind, lang, l⟩ := r
    simp only at HB0 HCL HSL ⊢
    clear hb0 CELLS hal hsl hE hv hcd hS
    go_enter Tryd.func7, Tryd.ntmps7
    go_wp2_with fail
    refine (HAL.out _ HB0.out).mono ?_
    rintro e w1 ⟨rfl, b1⟩
    have HC1 := Lib.hid b1
    have HB1 := Lib.hid (HB0.out.bt b1)
    obtain ⟨q0, q1, q2, q3, q4⟩ := HCL.out w1 b1
    clear b1
    go_wp2_with fail
    refine (HSL.out _ HB1.out).mono ?_
    rintro e w2 ⟨rfl, b2⟩
    have HB2 := Lib.hid (HB1.out.bt b2)
    clear b2
    go_wp2
    go_ret
    exact ⟨rfl, HB2.out⟩
end Go.Proofs.YtimecccphbgdeaaDoor
