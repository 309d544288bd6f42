/- The walk of the program's Remove (layer 28). -/
import Derived.Test.YtlpeppigebbfkaaDoorNdl
import Derived.Test.YtlpeppigebbfkaaDoorNbk
import Derived.Test.YtlpeppigebbfkaaDoorNrq
namespace Go.Proofs.YtlpeppigebbfkaaDoor
open Go Go.RowKit

theorem remove_none {l : List Pat} {x : Int} (h : at64 l x = -1) : removeL l x = ([], 9) := by unfold removeL; rw [at64_none h]
theorem remove_some {l : List Pat} {x : Int} {i : Nat} (h : at64 l x = (i : Int)) : removeL l x = (l.eraseIdx i, 0) := by unfold removeL; rw [(at64_some h).1]

set_option maxRecDepth 100000 in
set_option maxHeartbeats 2000000 in
theorem pRemove (v : Value) (l : List Pat) (x : Int) (w : World) (hv : Pats w v l) (hl : l.length ≤ 1000) :
    Calls Tryd.prog 26 #[v, .int .i64 x] w (RetPats w (removeL l x).1 (removeL l x).2) := by
  have hpl := pPlace v l x w hv (by omega)
  rcases at64_range l x with ⟨h1, -⟩ | ⟨i, q, h1, hq, -, -⟩
  · rw [h1] at hpl
    rw [remove_none h1]
    have HPL := Lib.hid hpl
    clear hpl h1 hv
    go_enter Tryd.func26, Tryd.ntmps26
    go_wp2_with fail
    refine HPL.out.mono ?_
    rintro e w1 ⟨rfl, b1⟩
    have HB1 := Lib.hid b1
    clear b1
    go_wp2
    go_ret2
    exact ⟨_, rfl, pats_nil _, HB1.out⟩
  · rw [h1] at hpl
    obtain ⟨-, hil⟩ := at64_some h1
    rw [remove_some h1]
    have hcl := fun W (hW : Below w.heap.size w W) => hv.below hW (Nat.le_refl _)
    obtain ⟨pa, pc, rfl, hpc, hcells⟩ := hv
    obtain ⟨b, o, rfl, -, -⟩ : ∃ b o, pa = some ⟨b, o, none⟩ ∧ b < w.heap.size ∧ ∀ j p, l[j]? = some p → ∀ i u, p.enc[i]? = some u → w.cell? ⟨b, o + j * 6 + i, none⟩ = some u := by
      rcases hcells with h0 | h
      · rw [h0] at hil; simp at hil
      · exact h
    have hclone := fun W (hW : Below w.heap.size w W) => pClone ⟨b, o, none⟩ pc l W hl (hcl W hW)
    have HPL := Lib.hid hpl
    have HCL := Lib.hid hclone
    obtain ⟨n, hnn⟩ : ∃ n, n = l.length := ⟨_, rfl⟩
    rw [← hnn] at hil hpc HCL HPL hl ⊢
    have hiz : (i : Int) < (n : Int) := by omega
    have HDEL := Lib.hid (fun (W : World) (g cap : Nat) (h : W.ownsRow w.heap.size 28 6 (.slice (some ⟨g, 0, none⟩) n cap) n (pcells l)) => pDelete h hl i (i + 1) hil rfl)
    clear hpl hclone hcl hcells h1 hq hnn
    go_enter Tryd.func26, Tryd.ntmps26
    go_wp2_with fail
    refine HPL.out.mono ?_
    rintro e w1 ⟨rfl, b1⟩
    have HB1 := Lib.hid b1
    clear b1
    go_wp2_with fail
    refine (HCL.out w1 HB1.out).mono ?_
    rintro e w2 ⟨v2, rfl, hown, hnil, b2⟩
    have hb2 : Below w.heap.size w w2 := HB1.out.bt b2
    obtain ⟨g, cap, rfl⟩ : ∃ g cap, v2 = .slice (some ⟨g, 0, none⟩) n cap := by
      rcases hown.2 with ⟨h0, -⟩ | ⟨g, cap, cur, hv, -⟩
      · exact absurd h0 hnil
      · exact ⟨g, cap, hv⟩
    have hgb : w.heap.size ≤ g := by
      have := hown.lt g rfl
      have := HB1.out.size
      omega
    have hown2 : w2.ownsRow w.heap.size 28 6 (.slice (some ⟨g, 0, none⟩) n cap) n (pcells l) := by
      refine ⟨hown.1, ?_⟩
      rcases hown.2 with ⟨h0, -⟩ | ⟨g', cap', cur, hv, -, rest⟩
      · exact absurd h0 hnil
      · cases hv
        exact .inr ⟨g, cap, cur, rfl, hgb, rest⟩
    have HO := Lib.hid hown2
    have HB2 := Lib.hid hb2
    clear hown hown2 hnil b2 hb2
    go_wp2_with fail
    refine (HDEL.out w2 g cap HO.out).mono ?_
    rintro e w3 ⟨rfl, hp3, hb3⟩
    have HP := Lib.hid hp3
    have HB3 := Lib.hid (hb3 _ _ HB2.out hgb)
    clear hp3 hb3
    go_wp2
    go_ret2
    exact ⟨_, rfl, HP.out, HB3.out⟩
end Go.Proofs.YtlpeppigebbfkaaDoor
