/- The law RecordFields walked (layer 08). -/
import Derived.Test.YtkfjeolpbopcnaaGreatDoorEf
import Derived.Test.YtkfjeolpbopcnaaGreatDoorEg
import Derived.Deep.Quiet
namespace Go.Proofs.YtkfjeolpbopcnaaGreatDoor
open Go Go.RowKit

set_option maxRecDepth 100000 in
set_option maxHeartbeats 8000000 in
theorem law_RecordFields (r : Rec) (a : Option Addr) (m c : Nat) (p : ByteArray) (w : World) (hE : Env w) (hx0 : Flds w (.slice a m c) r.fields) (hq : Codes r) (_ : p.size ≤ 9223372036854775807) :
    Calls Tryz.prog 4 #[.agg #[.int .i64 r.id, .int .i64 r.ver, .int .i64 r.kind, .string r.lang, .slice a m c], .string p] w fun e w' => e = .returned (.bool true) ∧ Below w.heap.size w w' := by
  obtain ⟨rfl, -⟩ := hx0.len
  have hx : RcdAt w ⟨r, a, c⟩ := hx0
  have HAL : Hid (∀ W, Below w.heap.size w W → Calls Tryz.prog 11 #[] W fun e w' => e = .returned (.bool true) ∧ Below W.heap.size W w') := Lib.hid (fun W h => lAlive W (hE.below h))
  have HVA : Hid (∀ W, Below w.heap.size w W → Calls Tryz.prog 16 #[.agg #[.int .i64 r.id, .int .i64 r.ver, .int .i64 r.kind, .string r.lang, .slice a r.fields.length c]] W fun e w' => e = .returned (.bool (validR r)) ∧ Below W.heap.size W w') := Lib.hid (fun W h => lValid ⟨r, a, c⟩ W (RcdAt.below hx h (Nat.le_refl _)) hq)
  have HPF : Hid (validR r = true → ∀ W, Below w.heap.size w W → Calls Tryz.prog 18 #[.agg #[.int .i64 r.id, .int .i64 r.ver, .int .i64 r.kind, .string r.lang, .slice a r.fields.length c], .string p] W (RetF W (begL p.data.toList r.fields))) := Lib.hid (fun hv W h => pFields ⟨r, a, c⟩ p W (RcdAt.below hx h (Nat.le_refl _)) (by have := (good_of hv hq).len; show r.fields.length ≤ 900; omega))
  have HRF : Hid (validR r = true → ∀ W, Below w.heap.size w W → Calls Tryz.prog 19 #[.agg #[.int .i64 r.id, .int .i64 r.ver, .int .i64 r.kind, .string r.lang, .slice a r.fields.length c], .string p] W (RetF W (begL p.data.toList r.fields))) := Lib.hid (fun hv W h => rFields ⟨r, a, c⟩ p W (RcdAt.below hx h (Nat.le_refl _)) (by have := (good_of hv hq).len; show r.fields.length ≤ 900; omega))
  have HSF : Hid (validR r = true → ∀ W v v', Flds W v (begL p.data.toList r.fields) → Flds W v' (begL p.data.toList r.fields) → Calls Tryz.prog 17 #[v, v'] W fun e w' => e = .returned (.bool true) ∧ Below W.heap.size W w') := Lib.hid (fun hv W v v' h1 h2 => by
    have hg := good_of hv hq
    have hs : ∀ f ∈ begL p.data.toList r.fields, f.subs.length ≤ 1000000 := fun f hf => (hg.small.2 f (List.mem_filter.1 hf).1).subs
    have := rSameFlds v v' _ _ W h1 h2 (by have := begL_len p.data.toList r.fields r.fields.length; rw [List.take_length] at this; have := hg.len; omega) hs hs
    rwa [sameL_refl] at this)
  obtain ⟨L, hL⟩ : ∃ L, L = begL p.data.toList r.fields := ⟨_, rfl⟩
  rw [← hL] at HPF HRF HSF
  obtain ⟨V, hV⟩ : ∃ S, S = validR r := ⟨_, rfl⟩
  rw [← hV] at HVA HPF HRF HSF
  clear hx0 hx hq hE hV hL
  obtain ⟨id, ver, kind, lang, rf⟩ := r
  simp only at HVA HPF HRF ⊢
  obtain ⟨n, hn⟩ : ∃ n, n = rf.length := ⟨_, rfl⟩
  rw [← hn] at HVA HPF HRF ⊢
  clear hn
  obtain ⟨ra, hra⟩ : ∃ x, x = a := ⟨_, rfl⟩
  obtain ⟨rc, hrc⟩ : ∃ x, x = c := ⟨_, rfl⟩
  rw [← hra, ← hrc] at HVA HPF HRF ⊢
  clear hra hrc
  obtain ⟨W0, hW0⟩ : ∃ W, W = w.alloc (recO id ver kind lang ra n rc) := ⟨_, rfl⟩
  have hb0 : Below w.heap.size w W0 := by rw [hW0]; exact (Below.refl _ _).alloc (Nat.le_refl _) _
  have h0 : W0.heap[w.heap.size]? = some (recO id ver kind lang ra n rc) := by rw [hW0]; exact alloc_at rfl
  have hs0 : W0.heap.size = w.heap.size + 1 := by rw [hW0]; simp
  have HBK : Hid (∀ W, Below W0.heap.size W0 W → (W.cell? ⟨w.heap.size, 0, none⟩ = some (.int .i64 id) ∧ W.cell? ⟨w.heap.size, 1, none⟩ = some (.int .i64 ver) ∧ W.cell? ⟨w.heap.size, 2, none⟩ = some (.int .i64 kind) ∧ W.cell? ⟨w.heap.size, 3, none⟩ = some (.string lang) ∧ W.cell? ⟨w.heap.size, 4, none⟩ = some (.slice ra n rc)) ∧ Below w.heap.size w W) := Lib.hid (fun W h => by
    have k0 := (h.block w.heap.size (by omega)).trans h0
    exact ⟨⟨(Lib.cell_of_heap k0 0).trans rfl, (Lib.cell_of_heap k0 1).trans rfl, (Lib.cell_of_heap k0 2).trans rfl, (Lib.cell_of_heap k0 3).trans rfl, (Lib.cell_of_heap k0 4).trans rfl⟩, hb0.bt h⟩)
  have HW0 := Lib.hid hW0
  have HB0 := Lib.hid hb0
  obtain ⟨⟨p0, p1, p2, p3, p4⟩, -⟩ := HBK.out W0 (Below.refl _ _)
  rw [hW0] at p0 p1 p2 p3 p4
  clear hb0 h0 hs0 hW0
  go_enter Tryz.func4, Tryz.ntmps4
  go_wp2_with fail
  rw [← HW0.out]
  refine (HVA.out W0 HB0.out).mono ?_
  rintro e w1 ⟨rfl, b1⟩
  have HB1 := Lib.hid b1
  clear b1 p0 p1 p2 p3 p4
  obtain ⟨⟨p0, p1, p2, p3, p4⟩, hb1⟩ := HBK.out w1 HB1.out
  have HA1 := Lib.hid (HAL.out w1 hb1)
  have HBW1 := Lib.hid hb1
  clear hb1
  cases V with
  | false =>
    clear p0 p1 p2 p3 p4
    go_wp2_with fail
    refine HA1.out.mono ?_
    rintro e w2 ⟨rfl, b2⟩
    have HB2 := Lib.hid (HBW1.out.bt b2)
    clear b2
    go_wp2
    go_ret
    exact ⟨rfl, HB2.out⟩
  | true =>
    have C1 := Lib.hid (HPF.out (by trivial))
    have C2 := Lib.hid (HRF.out (by trivial))
    have C3 := Lib.hid (HSF.out (by trivial))
    have CA := Lib.hid (C1.out _ HBW1.out.drew)
    clear HA1 HVA HPF HRF HSF
    go_upto_region 3 with fail
    go_region_with (first
      | (go_at_call 18
         refine CA.out.mono ?_
         rintro e w2 ⟨v1, rfl, hv1, b2⟩
         have HV1 := Lib.hid hv1
         have HB2 := Lib.hid (HB1.out.drew.bt b2)
         have hk2 := HBK.out w2 HB2.out
         have k0 := hk2.1.1
         have k1 := hk2.1.2.1
         have k2 := hk2.1.2.2.1
         have k3 := hk2.1.2.2.2.1
         have k4 := hk2.1.2.2.2.2
         have CB := Lib.hid (C2.out w2 hk2.2)
         clear hv1 b2 hk2)
      | (go_at_call 19
         refine CB.out.mono ?_
         rintro e w3 ⟨v2, rfl, hv2, b3⟩
         have CC := Lib.hid (C3.out w3 v1 v2 (HV1.out.below b3 (Nat.le_refl _)) hv2)
         have HB3 := Lib.hid (HB2.out.bt b3)
         clear hv2 b3 k0 k1 k2 k3 k4)
      | (go_at_call 17
         refine CC.out.mono ?_
         rintro e w4 ⟨rfl, b4⟩
         have HB4 := Lib.hid (HB3.out.bt b4)
         have CD := Lib.hid (HAL.out w4 (HBK.out w4 HB4.out).2)
         clear b4)
      | (go_at_call 11
         refine CD.out.mono ?_
         rintro e w5 ⟨rfl, b5⟩
         have HB5 := Lib.hid (HB4.out.bt b5)
         clear b5))
    all_goals go_wp2
    all_goals go_ret
    all_goals exact ⟨rfl, (HBK.out _ HB5.out).2⟩
end Go.Proofs.YtkfjeolpbopcnaaGreatDoor
