/- Plain Lean: folding makes no text longer. -/
import Derived.Test.YtkfjeolpbopcnaaGreatDoorTxtb
namespace Go.Proofs.YtkfjeolpbopcnaaGreatDoor
set_option maxRecDepth 100000 in
theorem foldc_len : ∀ x : Fin 256, okc x.val = true → (enc (foldc x.val)).length ≤ (enc1 x.val).length := by decide
theorem foldc_enc (c : Nat) (h : okc c = true) : (enc (foldc c)).length ≤ (enc1 c).length := by
  by_cases hc : c < 256
  · exact foldc_len ⟨c, hc⟩ h
  · rw [foldc_big c (by omega)]; simp [enc]
theorem fold_len (cs : List Nat) (h : okt cs = true) : (bs (fold cs)).size ≤ (bs cs).size := by
  rw [bs_size, bs_size]
  induction cs with
  | nil => exact Nat.le_refl _
  | cons c r ih =>
    simp only [okt, List.all_cons, Bool.and_eq_true] at h
    have h1 := foldc_enc c h.1
    have h2 := ih h.2
    show (enc (foldc c ++ fold r)).length ≤ _
    rw [enc_append, enc_cons, List.length_append, List.length_append]
    omega
end Go.Proofs.YtkfjeolpbopcnaaGreatDoor
