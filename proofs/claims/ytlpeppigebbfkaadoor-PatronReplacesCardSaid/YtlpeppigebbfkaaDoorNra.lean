/- The walk of the reference's Add (layer 28). -/
import Derived.Test.YtlpeppigebbfkaaDoorNrs
import Derived.Test.YtlpeppigebbfkaaDoorNse
namespace Go.Proofs.YtlpeppigebbfkaaDoor
open Go Go.RowKit

/-- A patron put into a list that ascends. -/
def insP (p : Pat) : List Pat → List Pat
  | [] => [p]
  | q :: r => if p.id < q.id then p :: q :: r else q :: insP p r
def insTo (p : Pat) (dn : Bool) (l : List Pat) : List Pat := if dn = true then l else insP p l
/-- What Add does: the list, and the error. -/
def addL (F : ByteArray → Bool) (l : List Pat) (p : Pat) : List Pat × Int :=
  if (l.findIdx? (fun q => q.id == p.id)).isSome = true then ([], 7)
  else if right F (insP p l) = 0 then (insP p l, 0) else ([], right F (insP p l))
theorem insTo_step (p : Pat) (dn : Bool) (l : List Pat) (k : Nat) (q : Pat) (h : l[k]? = some q) :
    insTo p dn (l.drop k) = if dn = false ∧ p.id < q.id then [p, q] ++ insTo p true (l.drop (k + 1)) else q :: insTo p dn (l.drop (k + 1)) := by
  have hd : l.drop k = q :: l.drop (k + 1) := by
    obtain ⟨h', rfl⟩ := List.getElem?_eq_some_iff.1 h
    exact List.drop_eq_getElem_cons h'
  rw [hd]
  unfold insTo
  cases dn with
  | true => simp
  | false =>
    by_cases hlt : p.id < q.id
    · simp [insP, hlt]
    · simp [insP, hlt]
theorem insP_mem (p q : Pat) : ∀ l : List Pat, q ∈ insP p l → q = p ∨ q ∈ l
  | [], h => by simp [insP] at h; exact .inl h
  | a :: r, h => by
    unfold insP at h
    split at h
    · rcases List.mem_cons.1 h with h | h
      · exact .inl h
      · exact .inr h
    · rcases List.mem_cons.1 h with h | h
      · exact .inr (by simp [h])
      · rcases insP_mem p q r h with h | h
        · exact .inl h
        · exact .inr (by simp [h])
theorem insP_len (p : Pat) : ∀ l : List Pat, (insP p l).length = l.length + 1
  | [] => rfl
  | a :: r => by
    unfold insP
    split
    · rfl
    · rw [List.length_cons, insP_len p r, List.length_cons]
theorem cell_six_new (w : World) (p : Pat) (T : TypeId) : ∀ j u, p.enc[j]? = some u → (w.alloc (.cells #[.int .i64 p.id, .int .i64 p.kind, .int .i64 p.branch, .int .i64 p.till, .bool p.stop, .string p.name] T)).cell? ((⟨w.heap.size, 0, none⟩ : Addr).add j) = some u := by
  intro j u hj
  rw [Addr.add_lit, Nat.zero_add, Lib.cell_of_heap (heap_alloc_new w _)]
  rw [← Array.getElem?_toList]
  exact hj

set_option maxRecDepth 100000 in
set_option maxHeartbeats 2000000 in
theorem rAdd {F : ByteArray → Bool} (hF : ∀ n, F n = true ↔ formOk n) (v : Value) (l : List Pat) (p : Pat) (w : World) (hv : Pats w v l) (hl : l.length ≤ 1000) (hn : ∀ q ∈ l, q.name.size ≤ 1000000) (hpn : p.name.size ≤ 1000000) :
    Calls Tryd.prog 16 #[v, .agg #[.int .i64 p.id, .int .i64 p.kind, .int .i64 p.branch, .int .i64 p.till, .bool p.stop, .string p.name]] w (RetPats w (addL F l p).1 (addL F l p).2) := by
  obtain ⟨i0, hi, hz0, hz1, hz2⟩ := info_parts infoPat
  have HI := Lib.hid hi; have HZ0 := Lib.hid hz0; have HZ1 := Lib.hid hz1; have HZ2 := Lib.hid hz2
  clear hi hz0 hz1 hz2
  obtain ⟨W0, hW0⟩ : ∃ W0, W0 = w.alloc (.cells #[.int .i64 p.id, .int .i64 p.kind, .int .i64 p.branch, .int .i64 p.till, .bool p.stop, .string p.name] 28) := ⟨_, rfl⟩
  have hb0 : Below w.heap.size w W0 := by rw [hW0]; exact (Below.refl _ _).alloc (Nat.le_refl _) _
  have hs0 : w.heap.size < W0.heap.size := by rw [hW0, World.size_alloc]; exact Nat.lt_succ_self _
  have h60 : Six W0 w.heap.size 0 p := by
    rw [hW0]
    refine ⟨?_, ?_, ?_, ?_, ?_, ?_⟩ <;> (rw [Lib.cell_of_heap (heap_alloc_new w _)]; rfl)
  have hv0 := hv.below hb0 (Nat.le_refl _)
  have hpl := rAt v l p.id W0 hv0 (by omega)
  obtain ⟨pa, pc, rfl, hpc, hcells⟩ := hv
  have HW0 := Lib.hid hW0
  have HB0 := Lib.hid hb0
  have H60 := Lib.hid h60
  have HN := Lib.hid hn
  rcases at64_range l p.id with ⟨h1, -⟩ | ⟨i, q, h1, hq, -, -⟩
  · rw [h1] at hpl
    have hr : addL F l p = if right F (insP p l) = 0 then (insP p l, 0) else ([], right F (insP p l)) := by unfold addL; rw [at64_none h1]; rfl
    have hchk := fun W v' (hv' : Pats W v' (insP p l)) => rRight hF v' (insP p l) W hv' (by rw [insP_len]; omega) (fun q hq => by
      rcases insP_mem p q l hq with rfl | h
      · exact hpn
      · exact HN.out q h)
    obtain ⟨R, hR⟩ : ∃ R, R = right F (insP p l) := ⟨_, rfl⟩
    rw [← hR] at hr hchk
    have HPL := Lib.hid hpl
    have HCK := Lib.hid hchk
    have HR := Lib.hid hr
    have HCC := Lib.hid hcells
    obtain ⟨n, hnn⟩ : ∃ n, n = l.length := ⟨_, rfl⟩
    have HNN := Lib.hid hnn
    rw [← hnn] at hpc HPL hl ⊢
    obtain ⟨I, hI⟩ : ∃ I, I = insP p l := ⟨_, rfl⟩
    have HII := Lib.hid hI
    clear hpl hchk hr hR hcells h1 hW0 hb0 h60 hv0 hn hnn hI
    go_enter Tryd.func16, Tryd.ntmps16
    go_wp2_with fail
    rw [← HW0.out]
    refine HPL.out.mono ?_
    rintro e w1 ⟨rfl, hw1⟩
    have H61 : Hid (Six w1 w.heap.size 0 p ∧ w.heap.size < w1.heap.size ∧ Below w.heap.size w w1) := Lib.hid (by rw [hw1]; exact ⟨H60.out, hs0, HB0.out⟩)
    clear hw1
    have HO0 : Hid ((w1.alloc (.cells #[] 28)).ownsRow w1.heap.size 28 6 (.slice (some ⟨w1.heap.size, 0, none⟩) 0 0) 0 (pcells [])) := Lib.hid (World.ownsRow_made w1 #[] 0 (Nat.le_refl _) (Nat.zero_le _) (by simp))
    go_wp2
    go_loopw [6, 7, 8] (fun vo vd vk wr => ∃ (k : Nat) (dn : Bool) (done : List Pat), vk = .int .i64 k ∧ vd = .bool dn ∧ k ≤ n ∧ done.length ≤ k + 1 ∧ (dn = false → done.length ≤ k) ∧ Hid (I = done ++ insTo p dn (l.drop k)) ∧ Hid (wr.ownsRow w1.heap.size 28 6 vo done.length (pcells done)) ∧ Hid (Below w1.heap.size w1 wr)) (fun _ _ vk _ => n - (intOf vk).toNat)
    case atStart => exact ⟨0, false, [], rfl, rfl, by omega, by simp, fun _ => by simp, Lib.hid (by rw [HII.out]; simp [insTo]), HO0, Lib.hid ((Below.refl _ _).alloc (Nat.le_refl _) _)⟩
    case round =>
      obtain ⟨k, dn, done, rfl, rfl, hk, hdn, hdf, HK, HO, HB⟩ := hrel
      obtain ⟨p0, p1, p2, p3, p4, p5⟩ := H61.out.1.below HB.out H61.out.2.1
      simp only [Nat.zero_add] at p0 p1 p2 p3 p4 p5
      have hsz : w1.heap.size ≤ wr.heap.size := HB.out.size
      by_cases hlt : k < n
      · have hltz : (k : Int) < (n : Int) := by omega
        obtain ⟨q, hq⟩ : ∃ q, l[k]? = some q := ⟨_, List.getElem?_eq_getElem (by have := HNN.out; omega)⟩
        rcases HCC.out with h0 | ⟨b, o, rfl, hbl, hcl⟩
        · rw [h0] at hq; cases hq
        have hbw : Below w.heap.size w wr := H61.out.2.2.bt HB.out
        have h6q := (six_of (hcl k q hq)).below hbw hbl
        have hst := HK.out
        rw [insTo_step p dn l k q hq] at hst
        have HQ : Hid (Six w1 b (o + k * 6) q ∧ b < w1.heap.size) := Lib.hid ⟨(six_of (hcl k q hq)).below H61.out.2.2 hbl, Nat.lt_of_lt_of_le hbl H61.out.2.2.size⟩
        obtain ⟨q0, q1, q2, q3, q4, q5⟩ := h6q
        clear hcl hq hbw HK
        cases dn with
        | true =>
          obtain ⟨w5, hw5⟩ : ∃ w5, w5 = wr.drew := ⟨_, rfl⟩
          have HBw5 : Hid (Below w1.heap.size w1 w5) := Lib.hid (by rw [hw5]; exact HB.out.drew)
          have HOw5 : Hid (w5.ownsRow w1.heap.size 28 6 _ done.length (pcells done)) := Lib.hid (by rw [hw5]; exact own_below HO.out (Below.refl _ _).drew)
          have HW5 := Lib.hid hw5
          clear hw5
          rw [if_neg (by simp)] at hst
          have HS : Hid (I = (done ++ [q]) ++ insTo p true (l.drop (k + 1))) := Lib.hid (by rw [hst]; simp)
          clear hst
          go_wp2_with fail
          go_region
          rw [← HW5.out]
          clear p0 p1 p2 p3 p4 p5 q0 q1 q2 q3 q4 q5
          obtain ⟨q0, q1, q2, q3, q4, q5⟩ := HQ.out.1.below HBw5.out HQ.out.2
          have hzw5 := HBw5.out.size
          go_wp2_with (at_builtin; refine wpList_append_own _ rfl _ _ 22 rfl w1.heap.size 28 i0 (.agg #[.int .i64 0, .int .i64 0, .int .i64 0, .int .i64 0, .bool false, .string ⟨#[]⟩]) 6 56 Tryd.underlying22 HI.out HZ0.out HZ1.out HZ2.out rfl (by decide) _ _ _ rfl (HOw5.out.alloc _) ⟨w5.heap.size, 0, none⟩ 1 1 (Pat.enc q) rfl rfl ?c1 ?c2 ?c3 ?c4 ?c5 ?_)
          case c1 => first | exact cell_six_new _ _ _ | exact fun j u hj => hj
          case c2 => exact enc_one _
          case c3 => unfold maxLen; (try simp only [List.length_append, List.length_cons, List.length_nil]); omega
          case c4 => (try simp only [List.length_append, List.length_cons, List.length_nil]); omega
          case c5 => first | omega | (simp; omega)
          intro v7 w7 hown hgrow _
          have HOw7 : Hid (w7.ownsRow w1.heap.size 28 6 v7 (done ++ [q]).length (pcells (done ++ [q]))) := Lib.hid (by rw [pcells_append]; have := hown; simp only [List.length_append, List.length_cons, List.length_nil] at this ⊢; exact this)
          have HBw7 : Hid (Below w1.heap.size w1 w7) := Lib.hid ((HBw5.out.alloc HBw5.out.size _).grown hgrow (by simp; have := HBw5.out.size; omega) (fun qq hqq => (HOw5.out.lt qq hqq).1))
          clear hown hgrow
          go_wp2
          go_roundw
          case rel => exact ⟨k + 1, true, done ++ [q], by go_num, rfl, by omega, by simp; omega, (by intro h; first | (cases h; done) | (simp; omega)), HS, HOw7, HBw7⟩
          case measure => simp [intOf]; omega
        | false =>
          have hdk := hdf rfl
          obtain ⟨w5, hw5⟩ : ∃ w5, w5 = wr.drew := ⟨_, rfl⟩
          have HBw5 : Hid (Below w1.heap.size w1 w5) := Lib.hid (by rw [hw5]; exact HB.out.drew)
          have HOw5 : Hid (w5.ownsRow w1.heap.size 28 6 _ done.length (pcells done)) := Lib.hid (by rw [hw5]; exact own_below HO.out (Below.refl _ _).drew)
          have HW5 := Lib.hid hw5
          clear hw5
          by_cases hpq : p.id < q.id
          · rw [if_pos ⟨rfl, hpq⟩] at hst
            have HS : Hid (I = ((done ++ [p]) ++ [q]) ++ insTo p true (l.drop (k + 1))) := Lib.hid (by rw [hst]; simp)
            clear hst
            go_wp2_with fail
            go_region
            rw [← HW5.out]
            clear p0 p1 p2 p3 p4 p5 q0 q1 q2 q3 q4 q5
            obtain ⟨p0, p1, p2, p3, p4, p5⟩ := H61.out.1.below HBw5.out H61.out.2.1
            simp only [Nat.zero_add] at p0 p1 p2 p3 p4 p5
            have hzw5 := HBw5.out.size
            go_wp2_with (at_builtin; refine wpList_append_own _ rfl _ _ 22 rfl w1.heap.size 28 i0 (.agg #[.int .i64 0, .int .i64 0, .int .i64 0, .int .i64 0, .bool false, .string ⟨#[]⟩]) 6 56 Tryd.underlying22 HI.out HZ0.out HZ1.out HZ2.out rfl (by decide) _ _ _ rfl (HOw5.out.alloc _) ⟨w5.heap.size, 0, none⟩ 1 1 (Pat.enc p) rfl rfl ?c1 ?c2 ?c3 ?c4 ?c5 ?_)
            case c1 => first | exact cell_six_new _ _ _ | exact fun j u hj => hj
            case c2 => exact enc_one _
            case c3 => unfold maxLen; (try simp only [List.length_append, List.length_cons, List.length_nil]); omega
            case c4 => (try simp only [List.length_append, List.length_cons, List.length_nil]); omega
            case c5 => first | omega | (simp; omega)
            intro v6 w6 hown hgrow _
            have HOw6 : Hid (w6.ownsRow w1.heap.size 28 6 v6 (done ++ [p]).length (pcells (done ++ [p]))) := Lib.hid (by rw [pcells_append]; have := hown; simp only [List.length_append, List.length_cons, List.length_nil] at this ⊢; exact this)
            have HBw6 : Hid (Below w1.heap.size w1 w6) := Lib.hid ((HBw5.out.alloc HBw5.out.size _).grown hgrow (by simp; have := HBw5.out.size; omega) (fun qq hqq => (HOw5.out.lt qq hqq).1))
            clear hown hgrow
            clear p0 p1 p2 p3 p4 p5
            obtain ⟨q0, q1, q2, q3, q4, q5⟩ := HQ.out.1.below HBw6.out HQ.out.2
            have hzw6 := HBw6.out.size
            go_wp2_with (at_builtin; refine wpList_append_own _ rfl _ _ 22 rfl w1.heap.size 28 i0 (.agg #[.int .i64 0, .int .i64 0, .int .i64 0, .int .i64 0, .bool false, .string ⟨#[]⟩]) 6 56 Tryd.underlying22 HI.out HZ0.out HZ1.out HZ2.out rfl (by decide) _ _ _ rfl (HOw6.out.alloc _) ⟨w6.heap.size, 0, none⟩ 1 1 (Pat.enc q) rfl rfl ?c1 ?c2 ?c3 ?c4 ?c5 ?_)
            case c1 => first | exact cell_six_new _ _ _ | exact fun j u hj => hj
            case c2 => exact enc_one _
            case c3 => unfold maxLen; (try simp only [List.length_append, List.length_cons, List.length_nil]); omega
            case c4 => (try simp only [List.length_append, List.length_cons, List.length_nil]); omega
            case c5 => first | omega | (simp; omega)
            intro v7 w7 hown hgrow _
            have HOw7 : Hid (w7.ownsRow w1.heap.size 28 6 v7 ((done ++ [p]) ++ [q]).length (pcells ((done ++ [p]) ++ [q]))) := Lib.hid (by rw [pcells_append]; have := hown; simp only [List.length_append, List.length_cons, List.length_nil] at this ⊢; exact this)
            have HBw7 : Hid (Below w1.heap.size w1 w7) := Lib.hid ((HBw6.out.alloc HBw6.out.size _).grown hgrow (by simp; have := HBw6.out.size; omega) (fun qq hqq => (HOw6.out.lt qq hqq).1))
            clear hown hgrow
            go_wp2
            go_roundw
            case rel => exact ⟨k + 1, true, (done ++ [p]) ++ [q], by go_num, rfl, by omega, by simp; omega, (by intro h; first | (cases h; done) | (simp; omega)), HS, HOw7, HBw7⟩
            case measure => simp [intOf]; omega
          · have hpq' : q.id ≤ p.id := by omega
            rw [if_neg (by intro h; exact hpq h.2)] at hst
            have HS : Hid (I = (done ++ [q]) ++ insTo p false (l.drop (k + 1))) := Lib.hid (by rw [hst]; simp)
            clear hst hpq
            go_wp2_with fail
            go_region
            rw [← HW5.out]
            clear p0 p1 p2 p3 p4 p5 q0 q1 q2 q3 q4 q5
            obtain ⟨q0, q1, q2, q3, q4, q5⟩ := HQ.out.1.below HBw5.out HQ.out.2
            have hzw5 := HBw5.out.size
            go_wp2_with (at_builtin; refine wpList_append_own _ rfl _ _ 22 rfl w1.heap.size 28 i0 (.agg #[.int .i64 0, .int .i64 0, .int .i64 0, .int .i64 0, .bool false, .string ⟨#[]⟩]) 6 56 Tryd.underlying22 HI.out HZ0.out HZ1.out HZ2.out rfl (by decide) _ _ _ rfl (HOw5.out.alloc _) ⟨w5.heap.size, 0, none⟩ 1 1 (Pat.enc q) rfl rfl ?c1 ?c2 ?c3 ?c4 ?c5 ?_)
            case c1 => first | exact cell_six_new _ _ _ | exact fun j u hj => hj
            case c2 => exact enc_one _
            case c3 => unfold maxLen; (try simp only [List.length_append, List.length_cons, List.length_nil]); omega
            case c4 => (try simp only [List.length_append, List.length_cons, List.length_nil]); omega
            case c5 => first | omega | (simp; omega)
            intro v7 w7 hown hgrow _
            have HOw7 : Hid (w7.ownsRow w1.heap.size 28 6 v7 (done ++ [q]).length (pcells (done ++ [q]))) := Lib.hid (by rw [pcells_append]; have := hown; simp only [List.length_append, List.length_cons, List.length_nil] at this ⊢; exact this)
            have HBw7 : Hid (Below w1.heap.size w1 w7) := Lib.hid ((HBw5.out.alloc HBw5.out.size _).grown hgrow (by simp; have := HBw5.out.size; omega) (fun qq hqq => (HOw5.out.lt qq hqq).1))
            clear hown hgrow
            go_wp2
            go_roundw
            case rel => exact ⟨k + 1, false, done ++ [q], by go_num, rfl, by omega, by simp; omega, (by intro h; first | (cases h; done) | (simp; omega)), HS, HOw7, HBw7⟩
            case measure => simp [intOf]; omega
      · skip
        have hltz : ¬ (k : Int) < (n : Int) := by omega
        have hdr : l.drop k = [] := List.drop_eq_nil_of_le (by have := HNN.out; omega)
        have hst := HK.out
        rw [hdr] at hst
        clear HK hdr
        cases dn with
        | true =>
          have HS : Hid (I = done) := Lib.hid (by rw [hst]; simp [insTo])
          have HOwr := HO
          have HBwr := HB
          clear hst p0 p1 p2 p3 p4 p5
          have HP7 : Hid (Pats wr _ I) := Lib.hid (by rw [HS.out]; exact Pats.of_own HOwr.out rfl)
          have hww : Below w.heap.size w wr := H61.out.2.2.bt HBwr.out
          have HWW := Lib.hid hww
          clear hww
          go_wp2_with fail
          refine (HCK.out wr _ (by rw [← HII.out]; exact HP7.out)).mono ?_
          rintro e w9 ⟨rfl, b9⟩
          have HP9 : Hid (Below w.heap.size w w9 ∧ Pats w9 _ I) := Lib.hid ⟨HWW.out.bt b9, HP7.out.below b9 (Nat.le_refl _)⟩
          clear b9
          by_cases h0 : R = 0
          · have HR0 : Hid (addL F l p = (I, 0)) := Lib.hid (by rw [HR.out, if_pos h0, HII.out])
            have hR0 : (R != 0) = false := by simp [h0]
            clear h0
            go_wp2
            go_ret2
            exact ⟨_, by rw [HR0.out]; rfl, by rw [HR0.out]; exact HP9.out.2, HP9.out.1⟩
          · have HR0 : Hid (addL F l p = ([], R)) := Lib.hid (by rw [HR.out, if_neg h0])
            have hR0 : (R != 0) = true := by simpa using h0
            go_wp2
            go_ret2
            exact ⟨_, by rw [HR0.out]; rfl, by rw [HR0.out]; exact pats_nil _, HP9.out.1⟩
        | false =>
          have HS : Hid (I = done ++ [p]) := Lib.hid (by rw [hst]; simp [insTo, insP])
          clear hst
          have hzwr := HB.out.size
          go_wp2_with (at_builtin; refine wpList_append_own _ rfl _ _ 22 rfl w1.heap.size 28 i0 (.agg #[.int .i64 0, .int .i64 0, .int .i64 0, .int .i64 0, .bool false, .string ⟨#[]⟩]) 6 56 Tryd.underlying22 HI.out HZ0.out HZ1.out HZ2.out rfl (by decide) _ _ _ rfl (HO.out.alloc _) ⟨wr.heap.size, 0, none⟩ 1 1 (Pat.enc p) rfl rfl ?c1 ?c2 ?c3 ?c4 ?c5 ?_)
          case c1 => first | exact cell_six_new _ _ _ | exact fun j u hj => hj
          case c2 => exact enc_one _
          case c3 => unfold maxLen; (try simp only [List.length_append, List.length_cons, List.length_nil]); omega
          case c4 => (try simp only [List.length_append, List.length_cons, List.length_nil]); omega
          case c5 => first | omega | (simp; omega)
          intro v7 w7 hown hgrow _
          have HOw7 : Hid (w7.ownsRow w1.heap.size 28 6 v7 (done ++ [p]).length (pcells (done ++ [p]))) := Lib.hid (by rw [pcells_append]; have := hown; simp only [List.length_append, List.length_cons, List.length_nil] at this ⊢; exact this)
          have HBw7 : Hid (Below w1.heap.size w1 w7) := Lib.hid ((HB.out.alloc HB.out.size _).grown hgrow (by simp; have := HB.out.size; omega) (fun qq hqq => (HO.out.lt qq hqq).1))
          clear hown hgrow
          clear p0 p1 p2 p3 p4 p5
          have HP7 : Hid (Pats w7 v7 I) := Lib.hid (by rw [HS.out]; exact Pats.of_own HOw7.out rfl)
          have hww : Below w.heap.size w w7 := H61.out.2.2.bt HBw7.out
          have HWW := Lib.hid hww
          clear hww
          go_wp2_with fail
          refine (HCK.out w7 _ (by rw [← HII.out]; exact HP7.out)).mono ?_
          rintro e w9 ⟨rfl, b9⟩
          have HP9 : Hid (Below w.heap.size w w9 ∧ Pats w9 v7 I) := Lib.hid ⟨HWW.out.bt b9, HP7.out.below b9 (Nat.le_refl _)⟩
          clear b9
          by_cases h0 : R = 0
          · have HR0 : Hid (addL F l p = (I, 0)) := Lib.hid (by rw [HR.out, if_pos h0, HII.out])
            have hR0 : (R != 0) = false := by simp [h0]
            clear h0
            go_wp2
            go_ret2
            exact ⟨_, by rw [HR0.out]; rfl, by rw [HR0.out]; exact HP9.out.2, HP9.out.1⟩
          · have HR0 : Hid (addL F l p = ([], R)) := Lib.hid (by rw [HR.out, if_neg h0])
            have hR0 : (R != 0) = true := by simpa using h0
            go_wp2
            go_ret2
            exact ⟨_, by rw [HR0.out]; rfl, by rw [HR0.out]; exact pats_nil _, HP9.out.1⟩
  · rw [h1] at hpl
    have hr : addL F l p = ([], 7) := by unfold addL; rw [(at64_some h1).1]; rfl
    rw [hr]
    have HPL := Lib.hid hpl
    clear hpl h1 hr hq hW0 hb0 h60 hv0 hcells hn
    go_enter Tryd.func16, Tryd.ntmps16
    go_wp2_with fail
    rw [← HW0.out]
    refine HPL.out.mono ?_
    rintro e w1 ⟨rfl, hw1⟩
    have HB1 : Hid (Below w.heap.size w w1) := Lib.hid (by rw [hw1]; exact HB0.out)
    clear hw1
    go_wp2
    go_ret2
    exact ⟨_, rfl, pats_nil _, HB1.out⟩
end Go.Proofs.YtlpeppigebbfkaaDoor
