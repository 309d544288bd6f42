/- The walk of rest: the fields that no version changes (layer 18). -/
import Derived.Test.YtimecccphbgdeaaDoorMbk
import Derived.Test.YtimecccphbgdeaaDoorMse
import Derived.Test.YtimecccphbgdeaaDoorMhs
namespace Go.Proofs.YtimecccphbgdeaaDoor
open Go Go.RowKit

theorem rest_step {l : List Fld} {k : Nat} {f : Fld} (h : l[k]? = some f) : restL (l.drop k) = (if [t260, t264, t440, t490, t830].contains f.tag = true then [] else [f]) ++ restL (l.drop (k + 1)) := by
  rw [drop_step h]
  unfold restL
  rw [List.filter_cons]
  cases [t260, t264, t440, t490, t830].contains f.tag <;> rfl
theorem made_own {w : World} {O : Obj} {n : Nat} (hn : n = (w.alloc O).heap.size) : OwnF ((w.alloc O).alloc (.cells #[] 41)) n (.slice (some ⟨n, 0, none⟩) 0 0) [] := by
  subst hn
  exact World.ownsRow_made (w.alloc O) #[] 0 (Nat.le_refl _) (Nat.zero_le _) (by simp)

set_option maxRecDepth 100000 in
set_option maxHeartbeats 4000000 in
theorem sRest (r : Rec) (a : Option Addr) (n0 c : Nat) (w : World) (hv : Flds w (.slice a n0 c) r.fields) (hl : r.fields.length ≤ 1000000) :
    Calls Tryd.prog 40 #[.agg #[.int .i64 r.id, .int .i64 r.ver, .int .i64 r.kind, .string r.lang, .slice a n0 c]] w fun e w' => ∃ v, e = .returned v ∧ Flds w' v (restL r.fields) ∧ Below w.heap.size w w' := by
  have hb0 : Below w.heap.size w (recW w r.id r.ver r.kind r.lang a n0 c) := (Below.refl _ _).alloc (Nat.le_refl _) _
  have HB0 := Lib.hid hb0
  have HFL : Hid (∀ f ∈ r.fields, FldAt w f) := Lib.hid hv.2
  obtain ⟨hn, hn2⟩ := hv.len
  have CELLS : ∀ W, Below (recW w r.id r.ver r.kind r.lang a n0 c).heap.size (recW w r.id r.ver r.kind r.lang a n0 c) W → W.cell? ⟨w.heap.size, 4, none⟩ = some (.slice a n0 c) := fun W h => block_cells h 4 _ rfl
  have HCE := Lib.hid CELLS
  obtain ⟨id, ver, kind, lang, l⟩ := r
  simp only at HB0 HFL HCE hv hl hn ⊢
  have HCL : Hid (n0 = 0 ∨ ∃ b o, a = some ⟨b, o, none⟩ ∧ b < w.heap.size ∧ ∀ j f, l[j]? = some f → Four w b (o + j * 4) f) := Lib.hid (by
    obtain ⟨⟨a', c', he, -, hx⟩, -⟩ := hv
    cases he
    rcases hx with h0 | ⟨b, o, rfl, hb, hcl⟩
    · left; rw [h0]; rfl
    · exact .inr ⟨b, o, rfl, hb, fun j f hf => four_of (hcl j f hf)⟩)
  have HN := Lib.hid hn
  obtain ⟨U, hU⟩ : ∃ U, U = restL l := ⟨_, rfl⟩
  rw [← hU]
  have HU := Lib.hid hU
  have hs1 : (recW w id ver kind lang a n0 c).heap.size = w.heap.size + 1 := World.size_alloc _ _
  have HS1 := Lib.hid hs1
  rw [← hn] at hl
  have HOS : Hid (OwnF ((recW w id ver kind lang a n0 c).alloc (.cells #[] 41)) (w.heap.size + 1) (.slice (some ⟨w.heap.size + 1, 0, none⟩) 0 0) []) := Lib.hid (made_own hs1.symm)
  clear hb0 CELLS hU hv hn hs1
  go_enter Tryd.func40, Tryd.ntmps40
  go_wp2
  go_loopw [3, 4] (fun vl vk wr => ∃ (k : Nat) (out : List Fld), vk = .int .i64 k ∧ k ≤ n0 ∧ out.length ≤ k ∧ Hid (U = out ++ restL (l.drop k)) ∧ Hid (OwnF wr (w.heap.size + 1) vl out) ∧ Hid (Below (recW w id ver kind lang a n0 c).heap.size (recW w id ver kind lang a n0 c) wr)) (fun _ vk _ => n0 - (intOf vk).toNat)
  case atStart => exact ⟨0, [], rfl, by omega, by simp, Lib.hid (by rw [HU.out]; simp), HOS, Lib.hid ((Below.refl _ _).alloc (Nat.le_refl _) _)⟩
  case round =>
    obtain ⟨k, out, rfl, hk, hol, HK, HO, HB⟩ := hrel
    have q4 := HCE.out _ HB.out
    by_cases hlt : k < n0
    · have hltz : (k : Int) < (n0 : Int) := by omega
      obtain ⟨f, hf⟩ : ∃ f, l[k]? = some f := ⟨_, List.getElem?_eq_getElem (by have := HN.out; omega)⟩
      rcases HCL.out with h0 | ⟨b, o, rfl, hbl, hcl⟩
      · omega
      obtain ⟨p0, p1, p2, p3⟩ := (hcl k f hf).below (HB0.out.bt HB.out) hbl
      have hst := HK.out
      rw [rest_step hf, ← List.append_assoc] at hst
      have e260 := lb_beq f.tag t260
      rw [lb_list t260] at e260
      have e264 := lb_beq f.tag t264
      rw [lb_list t264] at e264
      have e440 := lb_beq f.tag t440
      rw [lb_list t440] at e440
      have e490 := lb_beq f.tag t490
      rw [lb_list t490] at e490
      have e830 := lb_beq f.tag t830
      rw [lb_list t830] at e830
      have HF4 : Hid (∀ (x y : ByteArray), x = lb f.tag → y = lb f.ind → ∀ sn, sn = f.subs.length → ∀ j u, (flatE fldE [f])[j]? = some u → (wr.alloc (.cells #[.string x, .string y, .slice f.sa sn f.sc, .int .i64 f.auth] 41)).cell? ((⟨wr.heap.size, 0, none⟩ : Addr).add j) = some u) := Lib.hid (fun x y hx hy sn hs => cells_one (four_new wr _ f x y hx hy sn hs))
      obtain ⟨T, hT⟩ : ∃ T, T = lb f.tag := ⟨_, rfl⟩
      obtain ⟨I, hI⟩ : ∃ I, I = lb f.ind := ⟨_, rfl⟩
      obtain ⟨sn, hsn⟩ : ∃ sn, sn = f.subs.length := ⟨_, rfl⟩
      rw [← hT] at p0 e260 e264 e440 e490 e830
      rw [← hI] at p1
      rw [← hsn] at p2
      have HTI := Lib.hid (And.intro hT (And.intro hI hsn))
      obtain ⟨N, hN⟩ : ∃ N, N = (if [t260, t264, t440, t490, t830].contains f.tag = true then [] else [f]) := ⟨_, rfl⟩
      rw [← hN] at hst
      have HST := Lib.hid hst
      clear hst hT hI hsn hcl HK
      by_cases a260 : f.tag = t260
      · have b260 : (T.toList == [50, 54, 48]) = true := e260.trans (by rw [a260]; simp)
        have n260 : (T.toList != [50, 54, 48]) = false := by rw [bne, b260]; rfl
        have hN1 : N = [] := by rw [hN, if_pos (by rw [a260]; decide)]
        rw [hN1, List.append_nil] at HST
        clear hf hN hN1 a260 e260 e264 e440 e490 e830 
        go_wp2
        go_roundw
        case rel => exact ⟨k + 1, out, by go_num, by omega, by omega, HST, HO, HB⟩
        case measure => simp [intOf]; omega
      · have b260 : (T.toList == [50, 54, 48]) = false := e260.trans (by simpa using a260)
        have n260 : (T.toList != [50, 54, 48]) = true := by rw [bne, b260]; rfl
        clear e260
        by_cases a264 : f.tag = t264
        · have b264 : (T.toList == [50, 54, 52]) = true := e264.trans (by rw [a264]; simp)
          have n264 : (T.toList != [50, 54, 52]) = false := by rw [bne, b264]; rfl
          have hN1 : N = [] := by rw [hN, if_pos (by rw [a264]; decide)]
          rw [hN1, List.append_nil] at HST
          clear hf hN hN1 a264 e264 e440 e490 e830 a260
          go_wp2
          go_roundw
          case rel => exact ⟨k + 1, out, by go_num, by omega, by omega, HST, HO, HB⟩
          case measure => simp [intOf]; omega
        · have b264 : (T.toList == [50, 54, 52]) = false := e264.trans (by simpa using a264)
          have n264 : (T.toList != [50, 54, 52]) = true := by rw [bne, b264]; rfl
          clear e264
          by_cases a440 : f.tag = t440
          · have b440 : (T.toList == [52, 52, 48]) = true := e440.trans (by rw [a440]; simp)
            have n440 : (T.toList != [52, 52, 48]) = false := by rw [bne, b440]; rfl
            have hN1 : N = [] := by rw [hN, if_pos (by rw [a440]; decide)]
            rw [hN1, List.append_nil] at HST
            clear hf hN hN1 a440 e440 e490 e830 a260 a264
            go_wp2
            go_roundw
            case rel => exact ⟨k + 1, out, by go_num, by omega, by omega, HST, HO, HB⟩
            case measure => simp [intOf]; omega
          · have b440 : (T.toList == [52, 52, 48]) = false := e440.trans (by simpa using a440)
            have n440 : (T.toList != [52, 52, 48]) = true := by rw [bne, b440]; rfl
            clear e440
            by_cases a490 : f.tag = t490
            · have b490 : (T.toList == [52, 57, 48]) = true := e490.trans (by rw [a490]; simp)
              have n490 : (T.toList != [52, 57, 48]) = false := by rw [bne, b490]; rfl
              have hN1 : N = [] := by rw [hN, if_pos (by rw [a490]; decide)]
              rw [hN1, List.append_nil] at HST
              clear hf hN hN1 a490 e490 e830 a260 a264 a440
              go_wp2
              go_roundw
              case rel => exact ⟨k + 1, out, by go_num, by omega, by omega, HST, HO, HB⟩
              case measure => simp [intOf]; omega
            · have b490 : (T.toList == [52, 57, 48]) = false := e490.trans (by simpa using a490)
              have n490 : (T.toList != [52, 57, 48]) = true := by rw [bne, b490]; rfl
              clear e490
              by_cases a830 : f.tag = t830
              · have b830 : (T.toList == [56, 51, 48]) = true := e830.trans (by rw [a830]; simp)
                have n830 : (T.toList != [56, 51, 48]) = false := by rw [bne, b830]; rfl
                have hN1 : N = [] := by rw [hN, if_pos (by rw [a830]; decide)]
                rw [hN1, List.append_nil] at HST
                clear hf hN hN1 a830 e830 a260 a264 a440 a490
                go_wp2
                go_roundw
                case rel => exact ⟨k + 1, out, by go_num, by omega, by omega, HST, HO, HB⟩
                case measure => simp [intOf]; omega
              · have b830 : (T.toList == [56, 51, 48]) = false := e830.trans (by simpa using a830)
                have n830 : (T.toList != [56, 51, 48]) = true := by rw [bne, b830]; rfl
                clear e830
                have hN1 : N = [f] := by rw [hN, if_neg (by simp [a260, a264, a440, a490, a830])]
                subst hN1
                clear hf hN a260 a264 a440 a490 a830
                go_wp2_with (at_builtin; refine append_flds rfl _ _ rfl (w.heap.size + 1) u3 out rfl (HO.out.below ((Below.refl _ _).alloc (Nat.le_refl _) _)) ⟨wr.heap.size, 0, none⟩ 1 1 [f] rfl rfl (HF4.out T I HTI.out.1 HTI.out.2.1 sn HTI.out.2.2) (by omega) (by have h1 := HB.out.size; have h2 := HS1.out; simp at h1 h2 ⊢; omega) ?_)
                intro v3 w3 hown hb3
                have HO3 : Hid (OwnF w3 (w.heap.size + 1) v3 (out ++ [f])) := Lib.hid hown
                have HB3 : Hid (Below (recW w id ver kind lang (some ⟨b, o, none⟩) n0 c).heap.size (recW w id ver kind lang (some ⟨b, o, none⟩) n0 c) w3) := Lib.hid ((HB.out.alloc HB.out.size _).trans (by rw [HS1.out]; exact hb3))
                clear hown hb3
                go_wp2
                go_roundw
                case rel => exact ⟨k + 1, out ++ [f], by go_num, by omega, by rw [List.length_append]; simp only [List.length_cons, List.length_nil]; omega, HST, HO3, HB3⟩
                case measure => simp [intOf]; omega
    · have hltz : ¬ (k : Int) < (n0 : Int) := by omega
      have hUo : U = out := by
        rw [HK.out, List.drop_eq_nil_of_le (by have := HN.out; omega)]
        simp [restL]
      have HBW := Lib.hid (HB0.out.bt HB.out)
      have HFF : Hid (Flds wr u3 U) := Lib.hid (by rw [hUo]; exact flds_own (w' := wr) HO.out (Nat.le_refl _) (fun _ _ _ => rfl) (fun f hf => HFL.out f (by rw [← hUo, HU.out] at hf; exact (List.mem_filter.1 hf).1)) HBW.out)
      clear hUo
      go_wp2
      go_ret
      exact ⟨u3, rfl, HFF.out, HBW.out⟩
end Go.Proofs.YtimecccphbgdeaaDoor
