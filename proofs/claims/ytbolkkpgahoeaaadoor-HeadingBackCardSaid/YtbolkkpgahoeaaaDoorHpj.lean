/- Plain Lean: joining the parts of a heading (layer 12). No program in sight. -/
import Derived.Test.YtbolkkpgahoeaaaDoorHpm
namespace Go.Proofs.YtbolkkpgahoeaaaDoor
open Go

/-- May a text be a part? -/
def plainP (p : List Nat) : Bool := !p.isEmpty && decide (clean p = p) && decide ((split mark p).length ≤ 1) && !(p.head? == some 45) && !(p.getLast? == some 45)
theorem part_dec : ∃ P : ByteArray → Bool, ∀ s, P s = true ↔ ∃ cs, okt cs = true ∧ s = bs cs ∧ plainP cs = true := ⟨fun n => @decide (∃ cs, okt cs = true ∧ n = bs cs ∧ plainP cs = true) (Classical.propDecidable _), fun n => by simp⟩
theorem plainP_ends {p : List Nat} (h : plainP p = true) : ((∀ a q, p = a ++ q → q ≠ [] → mark.isPrefixOf q = false) ∧ ∀ a, p ≠ a ++ [45]) ∧ clean p = p ∧ p ≠ [] := by
  unfold plainP at h
  simp only [Bool.and_eq_true, decide_eq_true_eq, Bool.not_eq_true', beq_eq_false_iff_ne, ne_eq] at h
  obtain ⟨⟨⟨⟨h1, h2⟩, h3⟩, h4⟩, h5⟩ := h
  refine ⟨⟨fun a q => spl_one mark_ne p [] h3 a q, fun a e => h5 (by rw [e]; simp)⟩, h2, fun e => by rw [e] at h1; cases h1⟩
/-- The first error of the parts. -/
def partErr (P : ByteArray → Bool) : List ByteArray → Int
  | [] => 0
  | s :: r => if s.size = 0 then 8 else if P s = false then 3 else partErr P r
def glueB (l : List ByteArray) : ByteArray := ⟨(Lib.join (l.map (·.data.toList)) [45, 45]).toArray⟩
def joinR (P : ByteArray → Bool) (l : List ByteArray) : ByteArray × Int :=
  if l.length = 0 then (⟨#[]⟩, 8) else if 4 < l.length then (⟨#[]⟩, 4) else if partErr P l ≠ 0 then (⟨#[]⟩, partErr P l) else if 200 < (glueB l).size then (⟨#[]⟩, 4) else (glueB l, 0)
theorem partErr_texts {P : ByteArray → Bool} (hP : ∀ s, P s = true ↔ ∃ cs, okt cs = true ∧ s = bs cs ∧ plainP cs = true) : ∀ l : List ByteArray, partErr P l = 0 → ∃ css : List (List Nat), l = css.map bs ∧ ∀ cs ∈ css, okt cs = true ∧ plainP cs = true
  | [], _ => ⟨[], rfl, by simp⟩
  | s :: r, h => by
    unfold partErr at h
    split at h
    · cases h
    split at h
    · cases h
    rename_i h2
    obtain ⟨cs, hok, hs, hp⟩ := (hP s).1 (by simpa using h2)
    obtain ⟨css, hr, hall⟩ := partErr_texts hP r h
    refine ⟨cs :: css, by rw [hs, hr]; rfl, fun x hx => ?_⟩
    rcases List.mem_cons.1 hx with rfl | hx
    · exact ⟨hok, hp⟩
    · exact hall x hx
theorem glueB_bs (css : List (List Nat)) : glueB (css.map bs) = bs (mark.intercalate css) := by
  refine ba_ext ?_
  have h1 : (css.map bs).map (·.data.toList) = css.map enc := by
    rw [List.map_map]
    exact List.map_congr_left fun x _ => bs_data x
  have h2 : enc mark = [45, 45] := by decide
  unfold glueB
  rw [h1, bs_data, ← inter_enc, h2]
  simp [Lib.join]
/-- Joined parts: a text whose parts they are. -/
theorem join_parts {P : ByteArray → Bool} (hP : ∀ s, P s = true ↔ ∃ cs, okt cs = true ∧ s = bs cs ∧ plainP cs = true) {l : List ByteArray} (h : (joinR P l).2 = 0) :
    ∃ cs, okt cs = true ∧ (joinR P l).1 = bs cs ∧ (bs cs).size ≤ 200 ∧ (parts cs).map bs = l ∧ l.length ≠ 0 ∧ l.length ≤ 4 := by
  unfold joinR at h ⊢
  split at h
  · cases h
  rename_i h0
  split at h
  · cases h
  rename_i h4
  split at h
  · rename_i he; exact absurd h he
  rename_i he
  split at h
  · cases h
  rename_i hz
  obtain ⟨css, hl, hall⟩ := partErr_texts hP l (Decidable.not_not.1 he)
  rw [if_neg h0, if_neg h4, if_neg he, if_neg hz]
  have hg : glueB l = bs (mark.intercalate css) := by rw [hl, glueB_bs]
  refine ⟨mark.intercalate css, inter_okt (by decide) _ fun x hx => (hall x hx).1, hg, by rw [← hg]; omega, ?_, h0, by omega⟩
  rw [parts_inter css fun x hx => plainP_ends (hall x hx).2, hl]
end Go.Proofs.YtbolkkpgahoeaaaDoor
