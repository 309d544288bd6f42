/- Plain: what merging gives and takes (layer 16). -/
import Derived.Test.YtcdlgmncalmihaaDoorGfr
namespace Go.Proofs.YtcdlgmncalmihaaDoor
open Go Go.RowKit

theorem sameF_symm (f g : Fld) : sameF f g = sameF g f := by
  unfold sameF
  rw [Bool.eq_iff_iff]
  simp only [Bool.and_eq_true, decide_eq_true_eq]
  constructor <;> (intro h; simp_all)
theorem mergeGo_pre (keeps : List (ByteArray × Int)) (into : List Fld) : ∀ (l : List Fld) (k : Nat) (fs : List Fld) (ts : List Int), ∃ t, (mergeGo keeps into l k fs ts).1 = fs ++ t ∧ (mergeGo keeps into l k fs ts).2.length = ts.length + t.length
  | [], _, fs, ts => ⟨[], by simp [mergeGo]⟩
  | f :: l, k, fs, ts => by
    unfold mergeGo
    split
    · obtain ⟨t, h1, h2⟩ := mergeGo_pre keeps into l (k + 1) (fs ++ [f]) (ts ++ [(k : Int)])
      refine ⟨f :: t, by rw [h1]; simp, by rw [h2]; simp; omega⟩
    · exact mergeGo_pre keeps into l (k + 1) fs ts
theorem mergeGo_sub (keeps : List (ByteArray × Int)) (into l : List Fld) (k : Nat) (fs : List Fld) (ts : List Int) : ∀ f ∈ fs, f ∈ (mergeGo keeps into l k fs ts).1 := by
  obtain ⟨t, h, -⟩ := mergeGo_pre keeps into l k fs ts
  intro f hf
  rw [h]
  exact List.mem_append_left _ hf
/-- A field that is kept as new is there. -/
theorem mergeGo_has (keeps : List (ByteArray × Int)) (into : List Fld) : ∀ (l : List Fld) (k : Nat) (fs : List Fld) (ts : List Int) (f : Fld), f ∈ l → howL keeps (lb f.tag) = 1 → ∃ g ∈ (mergeGo keeps into l k fs ts).1, sameF g f = true
  | [], _, _, _, f, h, _ => by cases h
  | e :: l, k, fs, ts, f, h, hh => by
    rcases List.mem_cons.1 h with rfl | h
    · unfold mergeGo
      split
      · exact ⟨f, mergeGo_sub _ _ _ _ _ _ f (List.mem_append_right _ (List.mem_singleton.2 rfl)), sameF_refl f⟩
      · rename_i ht
        unfold takesL at ht
        rw [if_pos hh] at ht
        have : fs.any (sameF f) = true := by simpa using ht
        obtain ⟨g, hg, hs⟩ := List.any_eq_true.1 this
        exact ⟨g, mergeGo_sub _ _ _ _ _ _ g hg, by rw [sameF_symm]; exact hs⟩
    · unfold mergeGo
      split
      · exact mergeGo_has keeps into l _ _ _ f h hh
      · exact mergeGo_has keeps into l _ _ _ f h hh
theorem mergeGo_tag (keeps : List (ByteArray × Int)) (into : List Fld) : ∀ (l : List Fld) (k : Nat) (fs : List Fld) (ts : List Int) (f : Fld), f ∈ l → howL keeps (lb f.tag) = 2 → (∀ g ∈ into, g ∈ fs) → ∃ g ∈ (mergeGo keeps into l k fs ts).1, tagB f g = true
  | [], _, _, _, f, h, _, _ => by cases h
  | e :: l, k, fs, ts, f, h, hh, hi => by
    rcases List.mem_cons.1 h with rfl | h
    · unfold mergeGo
      split
      · exact ⟨f, mergeGo_sub _ _ _ _ _ _ f (List.mem_append_right _ (List.mem_singleton.2 rfl)), by simp [tagB]⟩
      · rename_i ht
        unfold takesL at ht
        rw [if_neg (by rw [hh]; decide), if_pos hh] at ht
        have : into.any (tagB f) = true := by simpa using ht
        obtain ⟨g, hg, hs⟩ := List.any_eq_true.1 this
        exact ⟨g, mergeGo_sub _ _ _ _ _ _ g (hi g hg), hs⟩
    · unfold mergeGo
      split
      · exact mergeGo_tag keeps into l _ _ _ f h hh (fun g hg => List.mem_append_left _ (hi g hg))
      · exact mergeGo_tag keeps into l _ _ _ f h hh hi
theorem mergeGo_none (keeps : List (ByteArray × Int)) (into : List Fld) : ∀ (l : List Fld) (k : Nat) (fs : List Fld) (ts : List Int), (∀ f ∈ l, takesL keeps fs into f = false) → mergeGo keeps into l k fs ts = (fs, ts)
  | [], _, _, _, _ => rfl
  | e :: l, k, fs, ts, h => by
    unfold mergeGo
    rw [h e List.mem_cons_self, if_neg (by decide)]
    exact mergeGo_none keeps into l (k + 1) fs ts (fun f hf => h f (List.mem_cons_of_mem _ hf))
/-- Merging again takes nothing. -/
theorem mergeGo_again (keeps : List (ByteArray × Int)) (xf yf : List Fld) : ∀ f ∈ yf, takesL keeps (mergeGo keeps xf yf 0 xf []).1 (mergeGo keeps xf yf 0 xf []).1 f = false := by
  intro f hf
  unfold takesL
  by_cases h1 : howL keeps (lb f.tag) = 1
  · rw [if_pos h1]
    obtain ⟨g, hg, hs⟩ := mergeGo_has keeps xf yf 0 xf [] f hf h1
    have : (mergeGo keeps xf yf 0 xf []).1.any (sameF f) = true := List.any_eq_true.2 ⟨g, hg, by rw [sameF_symm]; exact hs⟩
    rw [this]; rfl
  · rw [if_neg h1]
    by_cases h2 : howL keeps (lb f.tag) = 2
    · rw [if_pos h2]
      obtain ⟨g, hg, hs⟩ := mergeGo_tag keeps xf yf 0 xf [] f hf h2 (fun g hg => hg)
      have : (mergeGo keeps xf yf 0 xf []).1.any (tagB f) = true := List.any_eq_true.2 ⟨g, hg, hs⟩
      rw [this]; rfl
    · rw [if_neg h2]
theorem fldsErr_all : ∀ {l : List Fld}, fldsErr l = 0 ↔ ∀ f ∈ l, fldErr f = 0
  | [] => by simp [fldsErr]
  | g :: r => by
    unfold fldsErr
    by_cases h : fldErr g = 0
    · rw [if_neg (by simpa using h), fldsErr_all (l := r)]
      simp [h]
    · rw [if_pos h]
      simp [h]
/-- When Merge returns no error. -/
theorem mergeP_ok {x y : Rcd} {keeps : List (ByteArray × Int)} (h : (mergeP x y keeps).2.2 = 0) : mergeErr x.r y.r = 0 ∧ (mergeGo keeps x.r.fields y.r.fields 0 x.r.fields []).1.length ≤ 64 ∧ mergeP x y keeps = (⟨x.r.id, x.r.ver, x.r.kind, x.r.lang, (mergeGo keeps x.r.fields y.r.fields 0 x.r.fields []).1⟩, ⟨x.r.id, y, (mergeGo keeps x.r.fields y.r.fields 0 x.r.fields []).2⟩, 0) := by
  unfold mergeP at h ⊢
  split at h
  · rename_i h1
    exact absurd h h1
  · rename_i h1
    have h1' : mergeErr x.r y.r = 0 := Decidable.not_not.1 h1
    rw [if_neg h1]
    split at h
    · cases h
    · rename_i h2
      rw [if_neg h2]
      exact ⟨h1', by omega, rfl⟩
theorem mergeErr_ok {x y : Rec} (h : mergeErr x y = 0) : recErr x = 0 ∧ recErr y = 0 ∧ x.id ≠ 0 ∧ y.id ≠ 0 ∧ x.id ≠ y.id ∧ x.ver = y.ver := by
  unfold mergeErr at h
  split at h
  · rename_i h1; exact absurd h h1
  split at h
  · rename_i h1; exact absurd h h1
  split at h
  · cases h
  split at h
  · cases h
  split at h
  · cases h
  rename_i h1 h2 h3 h4 h5
  exact ⟨Decidable.not_not.1 h1, Decidable.not_not.1 h2, fun e => h3 (.inl e), fun e => h3 (.inr e), h4, Decidable.not_not.1 h5⟩
theorem recErr_with {x : Rec} {l : List Fld} (h : recErr x = 0) (hl : l.length ≤ 64) (hf : ∀ f ∈ l, fldErr f = 0) : recErr ⟨x.id, x.ver, x.kind, x.lang, l⟩ = 0 := by
  obtain ⟨h1, h2, h3, h4, -, -⟩ := recErr_ok h
  unfold recErr
  simp only
  rw [if_neg (by omega), if_neg (by omega), if_neg (by omega), if_neg (by rw [h4]; decide), if_neg (by omega)]
  exact fldsErr_all.2 hf
theorem merged_flds {x y : Rec} {keeps : List (ByteArray × Int)} (hx : recErr x = 0) (hy : recErr y = 0) : ∀ f ∈ (mergeGo keeps x.fields y.fields 0 x.fields []).1, fldErr f = 0 := by
  obtain ⟨-, -, -, -, -, h1⟩ := recErr_ok hx
  obtain ⟨-, -, -, -, -, h2⟩ := recErr_ok hy
  intro f hf
  rcases mergeGo_mem _ _ _ _ _ _ f hf with h | h
  · exact fldsErr_all.1 h1 f h
  · exact fldsErr_all.1 h2 f h
/-- The merged record merged with the same record again. -/
theorem mergeP_again {x y : Rcd} {keeps : List (ByteArray × Int)} (h : (mergeP x y keeps).2.2 = 0) (a : Option Addr) (c : Nat) : mergeP ⟨(mergeP x y keeps).1, a, c⟩ y keeps = ((mergeP x y keeps).1, ⟨x.r.id, y, []⟩, 0) := by
  obtain ⟨h1, h2, h3⟩ := mergeP_ok h
  obtain ⟨e1, e2, e3, e4, e5, e6⟩ := mergeErr_ok h1
  rw [h3]
  have hr := recErr_with e1 h2 (merged_flds (keeps := keeps) e1 e2)
  unfold mergeP
  simp only
  have hm : mergeErr ⟨x.r.id, x.r.ver, x.r.kind, x.r.lang, (mergeGo keeps x.r.fields y.r.fields 0 x.r.fields []).1⟩ y.r = 0 := by
    unfold mergeErr
    rw [hr, e2]
    simp only
    rw [if_neg (by simp), if_neg (by simp), if_neg (by simp [e3, e4]), if_neg e5, if_neg (by simp [e6])]
  rw [if_neg (by rw [hm]; simp), mergeGo_none _ _ _ _ _ _ (mergeGo_again keeps x.r.fields y.r.fields), if_neg (by simp only; omega)]
end Go.Proofs.YtcdlgmncalmihaaDoor
