/- The walk of package collate's articles: a map of four strings (layer 2); and what a look-up in it answers. -/
import Derived.Test.YtieapjdkbigejaaDoorKcp
import Derived.Maps.Own
import Derived.Maps.OwnSet
import Derived.Maps.Views
import Derived.Maps.StringElems
namespace Go.Proofs.YtieapjdkbigejaaDoor
open Go Go.RowKit Go.Maps Go.WideMaps

theorem keyLaw : Keyed Tryd.prog 9 := string_keyed Tryd.underlying9
theorem zeroStr (w : World) : (zeroValue 9).run Tryd.prog w = .ok (.string ⟨#[]⟩) w := by kernel_rfl
def engA : ByteArray := ⟨#[32, 116, 104, 101, 32, 97, 32, 97, 110, 32]⟩
def gerA : ByteArray := ⟨#[32, 100, 101, 114, 32, 100, 105, 101, 32, 100, 97, 115, 32, 101, 105, 110, 32, 101, 105, 110, 101, 32]⟩
def sweA : ByteArray := ⟨#[32, 101, 110, 32, 101, 116, 116, 32, 100, 101, 110, 32, 100, 101, 116, 32, 100, 101, 32]⟩
def spaA : ByteArray := ⟨#[32, 101, 108, 32, 108, 97, 32, 108, 111, 115, 32, 108, 97, 115, 32, 117, 110, 32, 117, 110, 97, 32]⟩
def artA (k : Nat) : ByteArray := if k = 1 then engA else if k = 2 then gerA else if k = 3 then sweA else if k = 4 then spaA else ⟨#[]⟩
def slit (s : ByteArray) : DataW Unit := .lit (.string s.data.toList)
def skey (s : ByteArray) : Lit := .string s.data.toList
def D4 : DataW Unit := ((((DataW.map []).put (skey eng) (slit engA)).put (skey ger) (slit gerA)).put (skey swe) (slit sweA)).put (skey spa) (slit spaA)
theorem kt (s : ByteArray) : WideAt.IsKeyLit (skey s) := trivial
theorem skey_ne {a b : ByteArray} (h : a ≠ b) : skey a ≠ skey b := fun e => h (ba_ext (Lit.string.inj e))
theorem D4_at (lang : ByteArray) : D4.atKey (skey lang) (slit ⟨#[]⟩) = slit (artA (lcode lang)) ∧ has D4 (skey lang) = decide (1 ≤ lcode lang) := by
  have m0 : IsMap (.map [] : DataW Unit) := isMap_empty
  have m1 := m0.put (skey eng) (slit engA)
  have m2 := m1.put (skey ger) (slit gerA)
  have m3 := m2.put (skey swe) (slit sweA)
  have g1 : ger ≠ eng := by decide
  have g2 : swe ≠ eng := by decide
  have g3 : swe ≠ ger := by decide
  have g4 : spa ≠ eng := by decide
  have g5 : spa ≠ ger := by decide
  have g6 : spa ≠ swe := by decide
  unfold D4
  by_cases h4 : lang = spa
  · subst h4
    rw [atKey_put_same m3 (kt _), has_put_same m3 (kt _)]
    exact ⟨rfl, rfl⟩
  · rw [atKey_put_other (skey_ne h4), has_put_other (skey_ne h4)]
    by_cases h3 : lang = swe
    · subst h3
      rw [atKey_put_same m2 (kt _), has_put_same m2 (kt _)]
      exact ⟨rfl, rfl⟩
    · rw [atKey_put_other (skey_ne h3), has_put_other (skey_ne h3)]
      by_cases h2 : lang = ger
      · subst h2
        rw [atKey_put_same m1 (kt _), has_put_same m1 (kt _)]
        exact ⟨rfl, rfl⟩
      · rw [atKey_put_other (skey_ne h2), has_put_other (skey_ne h2)]
        by_cases h1 : lang = eng
        · subst h1
          rw [atKey_put_same m0 (kt _), has_put_same m0 (kt _)]
          exact ⟨rfl, rfl⟩
        · rw [atKey_put_other (skey_ne h1), has_put_other (skey_ne h1)]
          have : lcode lang = 0 := by unfold lcode; rw [if_neg h1, if_neg h2, if_neg h3, if_neg h4]
          rw [this]
          exact ⟨rfl, rfl⟩

/-- What the two look-ups answer in a world. -/
def Looks (b : Nat) (w : World) : Prop := ∀ lang : ByteArray, lang.size ≤ 9223372036854775807 →
  (Instr.lookup 40 (.map (some b)) (.string lang) false).run Tryd.prog w = .ok (.string (artA (lcode lang))) w ∧
  (Instr.lookup 40 (.map (some b)) (.string lang) true).run Tryd.prog w = .ok (.tuple #[.string (artA (lcode lang)), .bool (decide (1 ≤ lcode lang))]) w

theorem looks_of {b n : Nat} {w : World} (h : w.ownsMap Tryd.prog 9 (plainElem Tryd.prog 9) b n D4) : Looks b w := by
  intro lang hs
  have hkey : keyOf Tryd.prog 9 (.string lang) = some (skey lang) := keyOf_string_mk Tryd.underlying9 hs
  have hz := plainElem_string (H := Unit) (s := ⟨#[]⟩) Tryd.underlying9 (Nat.zero_le _)
  obtain ⟨d1, d2⟩ := D4_at lang
  constructor
  · obtain ⟨v, ps, hrun, hv⟩ := h.lookup keyLaw Tryd.underlying40 (zeroStr w) hz hkey
    obtain ⟨s, rfl, he, _⟩ := plainElem_string_inv Tryd.underlying9 hv
    have he1 : D4.atKey (skey lang) (slit ⟨#[]⟩) = slit s := (Prod.mk.inj he).1
    rw [d1] at he1
    rw [hrun, ba_ext (Lit.string.inj (DataW.lit.inj he1))]
  · obtain ⟨v, ps, hrun, hv⟩ := h.look_ok keyLaw Tryd.underlying40 (zeroStr w) hz hkey
    obtain ⟨s, rfl, he, _⟩ := plainElem_string_inv Tryd.underlying9 hv
    have he1 : D4.atKey (skey lang) (slit ⟨#[]⟩) = slit s := (Prod.mk.inj he).1
    rw [d1] at he1
    rw [hrun, ba_ext (Lit.string.inj (DataW.lit.inj he1)), d2]

set_option maxRecDepth 100000 in
theorem pArticles (w : World) :
    Calls Tryd.prog 27 #[] w fun e w' => e = .returned (.map (some w.heap.size)) ∧ Below w.heap.size w w' ∧ Looks w.heap.size w' := by
  have hmm := @run_makeMap Tryd.prog
  have ke : ∀ s : ByteArray, s.size ≤ 9223372036854775807 → keyOf Tryd.prog 9 (.string s) = some (skey s) := fun s hs => keyOf_string_mk Tryd.underlying9 hs
  have pe : ∀ s : ByteArray, s.size ≤ 9223372036854775807 → plainElem (H := Unit) Tryd.prog 9 (.string s) = some (slit s, []) := fun s hs => plainElem_string Tryd.underlying9 hs
  have o0 := World.ownsMap_made w Tryd.prog 9 (plainElem (H := Unit) Tryd.prog 9)
  have B0 : Below w.heap.size w (w.alloc (.map #[] 0)) := (Below.refl _ _).alloc (Nat.le_refl _) _
  obtain ⟨w1, e1, o1, x1⟩ := o0.update (t := 40) keyLaw Tryd.underlying40 (by unfold maxLen; omega) (ke eng (by decide)) (pe engA (by decide))
  have B1 := B0.grown x1 B0.size (fun j hj => by cases hj; exact Nat.le_refl _)
  obtain ⟨w2, e2, o2, x2⟩ := o1.update (t := 40) keyLaw Tryd.underlying40 (by unfold maxLen; omega) (ke ger (by decide)) (pe gerA (by decide))
  have B2 := B1.grown x2 B1.size (fun j hj => by cases hj; exact Nat.le_refl _)
  obtain ⟨w3, e3, o3, x3⟩ := o2.update (t := 40) keyLaw Tryd.underlying40 (by unfold maxLen; omega) (ke swe (by decide)) (pe sweA (by decide))
  have B3 := B2.grown x3 B2.size (fun j hj => by cases hj; exact Nat.le_refl _)
  obtain ⟨w4, e4, o4, x4⟩ := o3.update (t := 40) keyLaw Tryd.underlying40 (by unfold maxLen; omega) (ke spa (by decide)) (pe spaA (by decide))
  have B4 := B3.grown x4 B3.size (fun j hj => by cases hj; exact Nat.le_refl _)
  have L := Lib.hid (looks_of o4)
  unfold eng engA at e1
  unfold ger gerA at e2
  unfold swe sweA at e3
  unfold spa spaA at e4
  clear o0 o1 o2 o3 o4 x1 x2 x3 x4 B0 B1 B2 B3 ke pe
  go_enter Tryd.func27, Tryd.ntmps27
  go_wp2
  go_ret
  exact ⟨rfl, B4, L.out⟩

set_option maxRecDepth 100000 in
/-- The program's Known. -/
theorem pKnown (lang : ByteArray) (w : World) (hs : lang.size ≤ 9223372036854775807) :
    Calls Tryd.prog 13 #[.string lang] w fun e w' => e = .returned (.bool (decide (1 ≤ lcode lang))) ∧ Below w.heap.size w w' := by
  go_enter Tryd.func13, Tryd.ntmps13
  go_wp2_with fail
  refine (pArticles _).mono ?_
  rintro e w1 ⟨rfl, b1, hl⟩
  have hr := (hl lang hs).2
  clear hl
  go_wp2
  go_ret
  exact ⟨rfl, b1⟩
end Go.Proofs.YtieapjdkbigejaaDoor
