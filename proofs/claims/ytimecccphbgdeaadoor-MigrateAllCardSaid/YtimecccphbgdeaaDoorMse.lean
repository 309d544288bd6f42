/- The walks of the reference's SameFields and Same where both are the same (layer 18). -/
import Derived.Test.YtimecccphbgdeaaDoorMsm
import Derived.Test.YtimecccphbgdeaaDoorMpu
import Derived.Deep.RegionLaw
namespace Go.Proofs.YtimecccphbgdeaaDoor
open Go Go.RowKit

set_option maxRecDepth 100000 in
set_option maxHeartbeats 2000000 in
theorem rSameFlds (va vb : Value) (la lb' : List Fld) (w : World) (ha : Flds w va la) (hb : Flds w vb lb') (he : la.map coreF = lb'.map coreF) (hl : la.length ≤ 1000000) (hs : ∀ f ∈ la, f.subs.length ≤ 1000000) (hs' : ∀ f ∈ lb', f.subs.length ≤ 1000000) :
    Calls Tryd.prog 37 #[va, vb] w fun e w' => e = .returned (.bool true) ∧ Below w.heap.size w w' := by
  have hlen : la.length = lb'.length := by have := congrArg List.length he; simpa using this
  have hsame : ∀ (W : World), Below w.heap.size w W → ∀ (k : Nat) (f g : Fld), la[k]? = some f → lb'[k]? = some g → Calls Tryd.prog 39 #[.agg #[.string (lb f.tag), .string (lb f.ind), .slice f.sa f.subs.length f.sc, .int .i64 f.auth], .agg #[.string (lb g.tag), .string (lb g.ind), .slice g.sa g.subs.length g.sc, .int .i64 g.auth]] W fun e w' => e = .returned (.bool true) ∧ Below W.heap.size W w' := fun W hW k f g hf hg => by
    have hc : coreF f = coreF g := by
      have h1 : (la.map coreF)[k]? = some (coreF f) := by rw [List.getElem?_map, hf]; rfl
      rw [he, List.getElem?_map, hg] at h1
      exact (Option.some.inj h1).symm
    have := rSame07 f g W ((ha.2 f (List.mem_of_getElem? hf)).below hW (Nat.le_refl _)) ((hb.2 g (List.mem_of_getElem? hg)).below hW (Nat.le_refl _)) (hs f (List.mem_of_getElem? hf)) (hs' g (List.mem_of_getElem? hg))
    rw [sameF_core, decide_eq_true hc] at this
    exact this
  obtain ⟨⟨pa, ca, rfl, hca, hcellsa⟩, -⟩ := ha
  obtain ⟨⟨pb, cb, rfl, hcb, hcellsb⟩, -⟩ := hb
  rw [← hlen] at hcb ⊢
  obtain ⟨n, hnn⟩ : ∃ n, n = la.length := ⟨_, rfl⟩
  rw [← hnn] at hl hca hcb hlen ⊢
  have HN := Lib.hid hnn
  have HN' := Lib.hid hlen
  have HA := Lib.hid hcellsa
  have HB := Lib.hid hcellsb
  have HSM := Lib.hid hsame
  clear hnn hcellsa hcellsb hsame hlen he hs hs'
  go_enter Tryd.func37, Tryd.ntmps37
  go_wp2
  go_loopw [5] (fun i wr => ∃ k : Nat, i = .int .i64 k ∧ k ≤ n ∧ Hid (Below w.heap.size w wr)) (fun i _ => n - (intOf i).toNat)
  case atStart => exact ⟨0, rfl, by omega, Lib.hid (Below.refl _ _)⟩
  case round =>
    obtain ⟨k, rfl, hk, HBW⟩ := hrel
    by_cases hlt : k < n
    · have hltz : (k : Int) < (n : Int) := by omega
      obtain ⟨f, hf⟩ : ∃ x, la[k]? = some x := ⟨_, List.getElem?_eq_getElem (by have := HN.out; omega)⟩
      obtain ⟨g, hg⟩ : ∃ x, lb'[k]? = some x := ⟨_, List.getElem?_eq_getElem (by have := HN'.out; omega)⟩
      rcases HA.out with h0 | ⟨b, o, rfl, hb1, hcells1⟩
      · rw [h0] at hf; cases hf
      rcases HB.out with h0 | ⟨b', o', rfl, hb2, hcells2⟩
      · rw [h0] at hg; cases hg
      obtain ⟨q0, q1, q2, q3⟩ := (four_of (hcells1 k f hf)).below HBW.out hb1
      obtain ⟨r0, r1, r2, r3⟩ := (four_of (hcells2 k g hg)).below HBW.out hb2
      have hcall := HSM.out wr.drew HBW.out.drew k f g hf hg
      obtain ⟨T, hT⟩ : ∃ T, T = lb f.tag := ⟨_, rfl⟩
      obtain ⟨I, hI⟩ : ∃ I, I = lb f.ind := ⟨_, rfl⟩
      obtain ⟨sn, hsn⟩ : ∃ sn, sn = f.subs.length := ⟨_, rfl⟩
      obtain ⟨T', hT'⟩ : ∃ T, T = lb g.tag := ⟨_, rfl⟩
      obtain ⟨I', hI'⟩ : ∃ I, I = lb g.ind := ⟨_, rfl⟩
      obtain ⟨sn', hsn'⟩ : ∃ sn, sn = g.subs.length := ⟨_, rfl⟩
      rw [← hT] at q0
      rw [← hI] at q1
      rw [← hsn] at q2
      rw [← hT'] at r0
      rw [← hI'] at r1
      rw [← hsn'] at r2
      rw [← hT, ← hI, ← hsn, ← hT', ← hI', ← hsn'] at hcall
      have HC := Lib.hid hcall
      have HBD := Lib.hid HBW.out.drew
      clear hcells1 hcells2 hf hg hcall hT hI hsn hT' hI' hsn'
      go_wp2_with fail
      go_region_law (go_simp; go_at_call 39; refine HC.out.mono ?_; rintro e w3 ⟨rfl, b3⟩)
      all_goals have HB3 := Lib.hid (HBD.out.bt b3)
      all_goals go_wp2
      all_goals go_roundw
      all_goals first
        | exact ⟨k + 1, by go_num, by omega, HB3⟩
        | (simp [intOf]; omega)
    · have hltz : ¬ (k : Int) < (n : Int) := by omega
      go_wp2
      go_ret
      exact ⟨rfl, HBW.out⟩

set_option maxRecDepth 100000 in
set_option maxHeartbeats 2000000 in
theorem rSameRec (r s : Rec) (a a' : Option Addr) (n c n' c' : Nat) (w : World) (ha : Flds w (.slice a n c) r.fields) (hb : Flds w (.slice a' n' c') s.fields) (h0 : r.id = s.id) (h1 : r.ver = s.ver) (h2 : r.kind = s.kind) (h3 : r.lang = s.lang) (he : r.fields.map coreF = s.fields.map coreF) (hs : r.small) (hs' : s.small) :
    Calls Tryd.prog 15 #[.agg #[.int .i64 r.id, .int .i64 r.ver, .int .i64 r.kind, .string r.lang, .slice a n c], .agg #[.int .i64 s.id, .int .i64 s.ver, .int .i64 s.kind, .string s.lang, .slice a' n' c']] w fun e w' => e = .returned (.bool true) ∧ Below w.heap.size w w' := by
  rw [← h0, ← h1, ← h2, ← h3]
  obtain ⟨W, hW⟩ : ∃ W, W = (recX w r.id r.ver r.kind r.lang a n c).alloc (.cells #[.int .i64 r.id, .int .i64 r.ver, .int .i64 r.kind, .string r.lang, .slice a' n' c'] 24) := ⟨_, rfl⟩
  have hbw : Below w.heap.size w W := by rw [hW]; exact ((Below.refl _ _).alloc (Nat.le_refl _) _).alloc (by simp) _
  have hcall := rSameFlds (.slice a n c) (.slice a' n' c') r.fields s.fields W (ha.below hbw (Nat.le_refl _)) (hb.below hbw (Nat.le_refl _)) he hs.1 (fun f hf => (hs.2 f hf).subs) (fun f hf => (hs'.2 f hf).subs)
  obtain ⟨id, ver, kind, lang, l⟩ := r
  simp only at hW hcall ⊢
  rw [hW] at hcall hbw
  have q : ∀ i u, (#[.int .i64 id, .int .i64 ver, .int .i64 kind, .string lang, .slice a n c] : Array Value)[i]? = some u → ((recX w id ver kind lang a n c).alloc (.cells #[.int .i64 id, .int .i64 ver, .int .i64 kind, .string lang, .slice a' n' c'] 24)).cell? ⟨w.heap.size, i, none⟩ = some u := fun i u hu => block_cells (Below.alloc (Below.refl _ _) (Nat.le_refl _) _) i u hu
  have q0 := q 0 _ rfl
  have q1 := q 1 _ rfl
  have q2 := q 2 _ rfl
  have q3 := q 3 _ rfl
  have q4 := q 4 _ rfl
  have hll : (lang.toList == lang.toList) = true := by simp
  have HC := Lib.hid hcall
  have HB := Lib.hid hbw
  clear hcall hbw hW q ha hb h0 h1 h2 h3 he hs hs' W
  go_enter Tryd.func15, Tryd.ntmps15
  go_wp2_with fail
  refine HC.out.mono ?_
  rintro e w1 ⟨rfl, b1⟩
  have HB1 := Lib.hid (HB.out.bt b1)
  clear b1
  go_wp2
  go_ret
  exact ⟨rfl, HB1.out⟩
end Go.Proofs.YtimecccphbgdeaaDoor
