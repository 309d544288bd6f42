/- Appending a field to a copy of a record's fields, whatever the order of the operations (layer 16). -/
import Derived.Test.YtcdlgmncalmihaaDoorGfr
namespace Go.Proofs.YtcdlgmncalmihaaDoor
open Go Go.RowKit

section
variable {α : Type} {E : α → List Value} {k : Nat} {P : Program}
/-- Appending to an own row: where the row lies then. -/
theorem run_append_at (hk : ∀ p, (E p).length = k) (hk0 : 0 < k) (h1 : ∀ p, ∀ u ∈ E p, u.oneCell' = true) (w : World) (B : Nat) (t ty e : TypeId) (i : TypeInfo) (z : Value) (z0 : α) (bytes : Nat) (ht : P.underlying t = some (.slice e)) (hi : P.info? e = some i) (hz : i.zero = some z)
    (hsize : i.size = k) (hby : i.bytes = bytes) (hzs : z.cells = (E z0).toArray)
    (g cap : Nat) (l : List α) (hown : OwnE E e w B (.slice (some ⟨g, 0, none⟩) l.length cap) l) (a : Addr) (m c : Nat) (news : List α) (hm : m = news.length) (hnews : ∀ j u, (flatE E news)[j]? = some u → w.cell? (a.add j) = some u)
    (h63 : l.length + m ≤ maxLen) (hbytes : (l.length + m) * bytes ≤ 140737488355328) (hB : B ≤ w.heap.size) :
    ∃ g' cap' w', (Builtin.append_ #[t, t] ty #[.slice (some ⟨g, 0, none⟩) l.length cap, .slice (some a) m c]).run P w = .ok (.slice (some ⟨g', 0, none⟩) (l.length + m) cap') w' ∧ OwnE E e w' B (.slice (some ⟨g', 0, none⟩) (l.length + m) cap') (l ++ news) ∧ w.grownBy w' (some g) ∧ (g' = g ∨ g' = w.heap.size) := by
  have hgB : B ≤ g ∧ g < w.heap.size := hown.lt g (by simp [Value.ownBlock])
  obtain ⟨v', w', hr, ho, hg⟩ := run_append_E (P := P) hk hk0 h1 w B t ty e i z z0 bytes ht hi hz hsize hby hzs _ l hown a m c news hm (.inr (by intro e; cases e)) hnews h63 hbytes hB
  have hg : w.grownBy w' (some g) := by simpa [Value.ownBlock] using hg
  rcases ho with ⟨rfl, h0⟩ | ⟨g', cap', sp, rfl, hb', hh', hc', hm'⟩
  · exfalso
    have hl : l = [] := (List.append_eq_nil_iff.1 h0).1
    have hn : news = [] := (List.append_eq_nil_iff.1 h0).2
    subst hl; subst hn
    simp only [List.length_nil] at hm
    subst hm
    rw [show (([] : List α).length) = 0 from rfl] at hr
    obtain ⟨cur, hcur⟩ : ∃ cur, w.heap[g]? = some (.cells cur e (0, 0)) := by
      rcases hown with ⟨h, -⟩ | ⟨g2, cap2, sp2, h, -, hh, -⟩
      · cases h
      · cases h; exact ⟨_, hh⟩
    have hcap : (0 : Nat) ≤ cap := Nat.zero_le _
    have hr2 := run_append_room (P := P) w t ty e i ht hi g 0 cap cur hcur a 0 c [] (by simp) (by simp) (by simp) hcap (by simp)
    rw [hr2] at hr
    simp at hr
  · have hlen : (l ++ news).length = l.length + m := by rw [List.length_append, hm]
    rw [hlen] at hr
    refine ⟨g', cap', w', hr, .inr ⟨g', cap', sp, by rw [hlen], hb', hh', hc', hm'⟩, hg, ?_⟩
    by_cases hroom : l.length + m ≤ cap
    · left
      obtain ⟨cur, hcur, hsz⟩ : ∃ cur, w.heap[g]? = some (.cells cur e (0, 0)) ∧ cur.size = cap * i.size := by
        rcases hown with ⟨h, -⟩ | ⟨g2, cap2, sp2, h, -, hh, hcc, -⟩
        · cases h
        · cases h; exact ⟨_, hh, by rw [List.size_toArray, flatE_len hk, hcc, hsize]⟩
      have hln : (flatE E news).length = m * i.size := by rw [flatE_len hk, hm, hsize]
      have hr2 := run_append_room (P := P) w t ty e i ht hi g l.length cap cur hcur a m c (flatE E news) hln hnews (flatE_one h1 news) hroom (by rw [hsz, hln, ← Nat.add_mul]; exact Nat.mul_le_mul_right _ hroom)
      rw [hr2] at hr
      cases hr
      rfl
    · right
      have hold : ∀ j u, (flatE E l)[j]? = some u → w.cell? ((⟨g, 0, none⟩ : Addr).add j) = some u := (OwnE.own hk hown).cells (g := g) rfl
      have hr2 := run_append_grow (P := P) w t ty e i z ht hi hz ⟨g, 0, none⟩ l.length cap (flatE E l) (by rw [flatE_len hk, hsize]) hold a m c (flatE E news) (by rw [flatE_len hk, hm, hsize]) hnews (by omega) (by simp only [maxLen] at h63; omega) (growslice_fits (by omega) (by rw [hby]; exact hbytes))
      rw [hr2] at hr
      cases hr
      rfl
end

theorem wp_append_at {α : Type} {E : α → List Value} {k : Nat} {P : Program} (hk : ∀ p, (E p).length = k) (hk0 : 0 < k) (h1 : ∀ p, ∀ u ∈ E p, u.oneCell' = true) {o : Oper} {a : Act} {w : World} {K : Act → World → Prop} {Q : Exit → Act → World → Prop} (s x : Operand) (t : TypeId)
    (ho : o.op = .call { callee := .builtin .append, args := #[s, x], argTypes := #[t, t] })
    (B : Nat) (e : TypeId) (i : TypeInfo) (z : Value) (z0 : α) (bytes : Nat) (ht : P.underlying t = some (.slice e)) (hi : P.info? e = some i) (hz : i.zero = some z)
    (hsize : i.size = k) (hby : i.bytes = bytes) (hzs : z.cells = (E z0).toArray)
    (g cap : Nat) (l : List α) (n : Nat) (hn : n = l.length) (hs : a.eval s = .slice (some ⟨g, 0, none⟩) n cap) (hown : OwnE E e w B (.slice (some ⟨g, 0, none⟩) n cap) l) (ad : Option Addr) (m c : Nat) (news : List α) (hx : a.eval x = .slice ad m c) (hm : m = news.length) (hnews : ∀ d, ad = some d → ∀ j u, (flatE E news)[j]? = some u → w.cell? (d.add j) = some u) (hnone : ad = none → news = [])
    (h63 : n + m ≤ maxLen) (hbytes : (n + m) * bytes ≤ 140737488355328) (hB : B ≤ w.heap.size)
    (h : ∀ g' cap' w', OwnE E e w' B (.slice (some ⟨g', 0, none⟩) (n + m) cap') (l ++ news) → w.grownBy w' (some g) → (g' = g ∨ g' = w.heap.size) → K (a.put o.dst (.slice (some ⟨g', 0, none⟩) (n + m) cap')) w') : o.wp P a w K Q := by
  subst hn
  cases ad with
  | some d =>
    obtain ⟨g', cap', w', hr, h2, h3, h4⟩ := run_append_at (P := P) hk hk0 h1 w B t o.type e i z z0 bytes ht hi hz hsize hby hzs g cap l hown d m c news hm (hnews d rfl) h63 hbytes hB
    unfold Oper.wp execOp
    simp only [ho, resolve, invoke, builtin, Sem.run_bind, Sem.run_pure, Result.andThen_ok, List.map_toArray, List.map_cons, List.map_nil, hs, hx, hr]
    exact h g' cap' w' h2 h3 h4
  | none =>
    have hnil := hnone rfl
    subst hnil
    obtain rfl : m = 0 := hm
    have hcap : l.length ≤ cap := by
      rcases hown with ⟨h, -⟩ | ⟨g2, cap2, sp2, h, -, -, hcc, -⟩
      · cases h
      · cases h; rw [← hcc, List.length_append]; omega
    have hr : (Builtin.append_ #[t, t] o.type #[.slice (some ⟨g, 0, none⟩) l.length cap, .slice none 0 c]).run P w = .ok (.slice (some ⟨g, 0, none⟩) l.length cap) w := by
      simp [Builtin.append_, run_underlying ht, sizeOf, typeInfo, hi, Builtin.lenOf, Builtin.firstCells, hcap, storeCells]
    unfold Oper.wp execOp
    simp only [ho, resolve, invoke, builtin, Sem.run_bind, Sem.run_pure, Result.andThen_ok, List.map_toArray, List.map_cons, List.map_nil, hs, hx, hr]
    exact h g cap w (by rw [List.append_nil]; exact hown) ⟨rfl, rfl, rfl, Nat.le_refl _, fun _ _ _ => rfl⟩ (.inl rfl)
theorem listed_self' {listed : Array Bool} (i : Nat) : (listed.setIfInBounds i true).getD i true = true := by
  rcases Nat.lt_or_ge i listed.size with h' | h'
  · simp [Array.getD, h']
  · simp [Array.getD, Nat.not_lt.2 h']
/-- A slice that begins a block. -/
abbrev Sl (g n c : Nat) : Value := .slice (some ⟨g, 0, none⟩) n c
/-- What holds, whatever operations have come up. -/
structure ApI (A W : World) (listed : Array Bool) (xs : Nat → Value) (n3 rn c : Nat) (a : Option Addr) (rf : List Fld) (f : Fld) (T I : ByteArray) (sn : Nat) : Prop where
  o8 : listed.getD 8 true = true → ∀ m, m < 8 → listed.getD m true = true
  o6 : listed.getD 6 true = true → listed.getD 3 true = true ∧ listed.getD 5 true = true
  o3 : listed.getD 3 true = true → listed.getD 0 true = true
  bel : listed.getD 8 true = false → Below A.heap.size A W
  x68 : listed.getD 0 true = true → listed.getD 3 true = false → ∃ g, xs 68 = Sl g 0 0 ∧ OwnF W A.heap.size (Sl g 0 0) [] ∧ (listed.getD 5 true = true → ∀ h, xs 73 = Sl h 1 1 → h ≠ g)
  x69 : listed.getD 1 true = true → xs 69 = .pointer (some ⟨n3, 4, none⟩)
  x70 : listed.getD 2 true = true → xs 70 = .slice a rn c
  x71 : listed.getD 3 true = true → listed.getD 6 true = false → ∃ g cap, xs 71 = Sl g rn cap ∧ OwnF W A.heap.size (Sl g rn cap) rf ∧ (listed.getD 5 true = true → ∀ h, xs 73 = Sl h 1 1 → h ≠ g)
  x72 : listed.getD 4 true = true → xs 72 = .agg #[.string T, .string I, .slice f.sa sn f.sc, .int .i64 f.auth]
  x73 : listed.getD 5 true = true → listed.getD 6 true = false → ∃ h, xs 73 = Sl h 1 1 ∧ A.heap.size ≤ h ∧ W.heap[h]? = some (.cells #[.string T, .string I, .slice f.sa sn f.sc, .int .i64 f.auth] 46 (0, 0))
  x74 : listed.getD 6 true = true → listed.getD 8 true = false → ∃ g cap, xs 74 = Sl g (rn + 1) cap ∧ OwnF W A.heap.size (Sl g (rn + 1) cap) (rf ++ [f])
  x75 : listed.getD 7 true = true → xs 75 = .pointer (some ⟨n3, 4, none⟩)
  fin : listed.getD 8 true = true → ∃ W' g cap, Below A.heap.size A W' ∧ OwnF W' A.heap.size (Sl g (rn + 1) cap) (rf ++ [f]) ∧ W = W'.setCell ⟨n3, 4, none⟩ (Sl g (rn + 1) cap)
section
variable {A W : World} {listed : Array Bool} {xs : Nat → Value} {n3 rn c : Nat} {a : Option Addr} {rf : List Fld} {f : Fld} {T I : ByteArray} {sn : Nat}
theorem ApI.off (h : ApI A W listed xs n3 rn c a rf f T I sn) {i : Nat} (hi : i < 8) (hl : listed.getD i true = false) : listed.getD 8 true = false := by
  cases h8 : listed.getD 8 true with
  | false => rfl
  | true => exact absurd (h.o8 h8 i hi) (by rw [hl]; decide)
theorem ApI.world (h : ApI A W listed xs n3 rn c a rf f T I sn) {W' : World} (b : Below W.heap.size W W') (h8 : listed.getD 8 true = false) : ApI A W' listed xs n3 rn c a rf f T I sn where
  o8 := h.o8
  o6 := h.o6
  o3 := h.o3
  bel := fun h1 => (h.bel h1).bt b
  x68 := fun h1 h2 => by
    obtain ⟨g, e1, e2, e3⟩ := h.x68 h1 h2
    exact ⟨g, e1, e2.below b (Nat.le_refl _), e3⟩
  x69 := h.x69
  x70 := h.x70
  x71 := fun h1 h2 => by
    obtain ⟨g, cap, e1, e2, e3⟩ := h.x71 h1 h2
    exact ⟨g, cap, e1, e2.below b (Nat.le_refl _), e3⟩
  x72 := h.x72
  x73 := fun h1 h2 => by
    obtain ⟨g, e1, e2, e3⟩ := h.x73 h1 h2
    exact ⟨g, e1, e2, (b.block _ (Array.getElem?_eq_some_iff.1 e3).1).trans e3⟩
  x74 := fun h1 h2 => by
    obtain ⟨g, cap, e1, e2⟩ := h.x74 h1 h2
    exact ⟨g, cap, e1, e2.below b (Nat.le_refl _)⟩
  x75 := h.x75
  fin := fun h1 => by rw [h8] at h1; cases h1
theorem ApI.s1 (h : ApI A W listed xs n3 rn c a rf f T I sn)  : ApI A W (listed.setIfInBounds 1 true) (fun k => if k = 69 then .pointer (some ⟨n3, 4, none⟩) else xs k) n3 rn c a rf f T I sn where
  o8 := fun h1 m hm => listed_set_mono (h.o8 ((set_listed h1).resolve_left (by decide)) m hm)
  o6 := fun h1 => ⟨listed_set_mono (h.o6 ((set_listed h1).resolve_left (by decide))).1, listed_set_mono (h.o6 ((set_listed h1).resolve_left (by decide))).2⟩
  o3 := fun h1 => listed_set_mono (h.o3 ((set_listed h1).resolve_left (by decide)))
  bel := fun h1 => h.bel (set_false h1)
  x68 := fun h1 h2 => by
    obtain ⟨g, e1, e2, e3⟩ := h.x68 ((set_listed h1).resolve_left (by decide)) (set_false h2)
    exact ⟨g, by simpa using e1, e2, fun h5 hh he => e3 ((set_listed h5).resolve_left (by decide)) hh (by simpa using he)⟩
  x69 := fun _ => by simp
  x70 := fun h1 => by have := h.x70 ((set_listed h1).resolve_left (by decide)); simpa using this
  x71 := fun h1 h2 => by
    obtain ⟨g, cap, e1, e2, e3⟩ := h.x71 ((set_listed h1).resolve_left (by decide)) (set_false h2)
    exact ⟨g, cap, by simpa using e1, e2, fun h5 hh he => e3 ((set_listed h5).resolve_left (by decide)) hh (by simpa using he)⟩
  x72 := fun h1 => by have := h.x72 ((set_listed h1).resolve_left (by decide)); simpa using this
  x73 := fun h1 h2 => by
    obtain ⟨g, e1, e2, e3⟩ := h.x73 ((set_listed h1).resolve_left (by decide)) (set_false h2)
    exact ⟨g, by simpa using e1, e2, e3⟩
  x74 := fun h1 h2 => by
    obtain ⟨g, cap, e1, e2⟩ := h.x74 ((set_listed h1).resolve_left (by decide)) (set_false h2)
    exact ⟨g, cap, by simpa using e1, e2⟩
  x75 := fun h1 => by have := h.x75 ((set_listed h1).resolve_left (by decide)); simpa using this
  fin := fun h1 => h.fin ((set_listed h1).resolve_left (by decide))
theorem ApI.s2 (h : ApI A W listed xs n3 rn c a rf f T I sn)  : ApI A W (listed.setIfInBounds 2 true) (fun k => if k = 70 then .slice a rn c else xs k) n3 rn c a rf f T I sn where
  o8 := fun h1 m hm => listed_set_mono (h.o8 ((set_listed h1).resolve_left (by decide)) m hm)
  o6 := fun h1 => ⟨listed_set_mono (h.o6 ((set_listed h1).resolve_left (by decide))).1, listed_set_mono (h.o6 ((set_listed h1).resolve_left (by decide))).2⟩
  o3 := fun h1 => listed_set_mono (h.o3 ((set_listed h1).resolve_left (by decide)))
  bel := fun h1 => h.bel (set_false h1)
  x68 := fun h1 h2 => by
    obtain ⟨g, e1, e2, e3⟩ := h.x68 ((set_listed h1).resolve_left (by decide)) (set_false h2)
    exact ⟨g, by simpa using e1, e2, fun h5 hh he => e3 ((set_listed h5).resolve_left (by decide)) hh (by simpa using he)⟩
  x69 := fun h1 => by have := h.x69 ((set_listed h1).resolve_left (by decide)); simpa using this
  x70 := fun _ => by simp
  x71 := fun h1 h2 => by
    obtain ⟨g, cap, e1, e2, e3⟩ := h.x71 ((set_listed h1).resolve_left (by decide)) (set_false h2)
    exact ⟨g, cap, by simpa using e1, e2, fun h5 hh he => e3 ((set_listed h5).resolve_left (by decide)) hh (by simpa using he)⟩
  x72 := fun h1 => by have := h.x72 ((set_listed h1).resolve_left (by decide)); simpa using this
  x73 := fun h1 h2 => by
    obtain ⟨g, e1, e2, e3⟩ := h.x73 ((set_listed h1).resolve_left (by decide)) (set_false h2)
    exact ⟨g, by simpa using e1, e2, e3⟩
  x74 := fun h1 h2 => by
    obtain ⟨g, cap, e1, e2⟩ := h.x74 ((set_listed h1).resolve_left (by decide)) (set_false h2)
    exact ⟨g, cap, by simpa using e1, e2⟩
  x75 := fun h1 => by have := h.x75 ((set_listed h1).resolve_left (by decide)); simpa using this
  fin := fun h1 => h.fin ((set_listed h1).resolve_left (by decide))
theorem ApI.s4 (h : ApI A W listed xs n3 rn c a rf f T I sn)  : ApI A W (listed.setIfInBounds 4 true) (fun k => if k = 72 then .agg #[.string T, .string I, .slice f.sa sn f.sc, .int .i64 f.auth] else xs k) n3 rn c a rf f T I sn where
  o8 := fun h1 m hm => listed_set_mono (h.o8 ((set_listed h1).resolve_left (by decide)) m hm)
  o6 := fun h1 => ⟨listed_set_mono (h.o6 ((set_listed h1).resolve_left (by decide))).1, listed_set_mono (h.o6 ((set_listed h1).resolve_left (by decide))).2⟩
  o3 := fun h1 => listed_set_mono (h.o3 ((set_listed h1).resolve_left (by decide)))
  bel := fun h1 => h.bel (set_false h1)
  x68 := fun h1 h2 => by
    obtain ⟨g, e1, e2, e3⟩ := h.x68 ((set_listed h1).resolve_left (by decide)) (set_false h2)
    exact ⟨g, by simpa using e1, e2, fun h5 hh he => e3 ((set_listed h5).resolve_left (by decide)) hh (by simpa using he)⟩
  x69 := fun h1 => by have := h.x69 ((set_listed h1).resolve_left (by decide)); simpa using this
  x70 := fun h1 => by have := h.x70 ((set_listed h1).resolve_left (by decide)); simpa using this
  x71 := fun h1 h2 => by
    obtain ⟨g, cap, e1, e2, e3⟩ := h.x71 ((set_listed h1).resolve_left (by decide)) (set_false h2)
    exact ⟨g, cap, by simpa using e1, e2, fun h5 hh he => e3 ((set_listed h5).resolve_left (by decide)) hh (by simpa using he)⟩
  x72 := fun _ => by simp
  x73 := fun h1 h2 => by
    obtain ⟨g, e1, e2, e3⟩ := h.x73 ((set_listed h1).resolve_left (by decide)) (set_false h2)
    exact ⟨g, by simpa using e1, e2, e3⟩
  x74 := fun h1 h2 => by
    obtain ⟨g, cap, e1, e2⟩ := h.x74 ((set_listed h1).resolve_left (by decide)) (set_false h2)
    exact ⟨g, cap, by simpa using e1, e2⟩
  x75 := fun h1 => by have := h.x75 ((set_listed h1).resolve_left (by decide)); simpa using this
  fin := fun h1 => h.fin ((set_listed h1).resolve_left (by decide))
theorem ApI.s7 (h : ApI A W listed xs n3 rn c a rf f T I sn)  : ApI A W (listed.setIfInBounds 7 true) (fun k => if k = 75 then .pointer (some ⟨n3, 4, none⟩) else xs k) n3 rn c a rf f T I sn where
  o8 := fun h1 m hm => listed_set_mono (h.o8 ((set_listed h1).resolve_left (by decide)) m hm)
  o6 := fun h1 => ⟨listed_set_mono (h.o6 ((set_listed h1).resolve_left (by decide))).1, listed_set_mono (h.o6 ((set_listed h1).resolve_left (by decide))).2⟩
  o3 := fun h1 => listed_set_mono (h.o3 ((set_listed h1).resolve_left (by decide)))
  bel := fun h1 => h.bel (set_false h1)
  x68 := fun h1 h2 => by
    obtain ⟨g, e1, e2, e3⟩ := h.x68 ((set_listed h1).resolve_left (by decide)) (set_false h2)
    exact ⟨g, by simpa using e1, e2, fun h5 hh he => e3 ((set_listed h5).resolve_left (by decide)) hh (by simpa using he)⟩
  x69 := fun h1 => by have := h.x69 ((set_listed h1).resolve_left (by decide)); simpa using this
  x70 := fun h1 => by have := h.x70 ((set_listed h1).resolve_left (by decide)); simpa using this
  x71 := fun h1 h2 => by
    obtain ⟨g, cap, e1, e2, e3⟩ := h.x71 ((set_listed h1).resolve_left (by decide)) (set_false h2)
    exact ⟨g, cap, by simpa using e1, e2, fun h5 hh he => e3 ((set_listed h5).resolve_left (by decide)) hh (by simpa using he)⟩
  x72 := fun h1 => by have := h.x72 ((set_listed h1).resolve_left (by decide)); simpa using this
  x73 := fun h1 h2 => by
    obtain ⟨g, e1, e2, e3⟩ := h.x73 ((set_listed h1).resolve_left (by decide)) (set_false h2)
    exact ⟨g, by simpa using e1, e2, e3⟩
  x74 := fun h1 h2 => by
    obtain ⟨g, cap, e1, e2⟩ := h.x74 ((set_listed h1).resolve_left (by decide)) (set_false h2)
    exact ⟨g, cap, by simpa using e1, e2⟩
  x75 := fun _ => by simp
  fin := fun h1 => h.fin ((set_listed h1).resolve_left (by decide))
theorem ApI.s0 (h : ApI A W listed xs n3 rn c a rf f T I sn) {g : Nat} (h0 : listed.getD 0 true = false) (ho : OwnF W A.heap.size (Sl g 0 0) []) (hne : listed.getD 5 true = true → listed.getD 6 true = false → ∀ h, xs 73 = Sl h 1 1 → h ≠ g) : ApI A W (listed.setIfInBounds 0 true) (fun k => if k = 68 then Sl g 0 0 else xs k) n3 rn c a rf f T I sn where
  o8 := fun h1 m hm => listed_set_mono (h.o8 ((set_listed h1).resolve_left (by decide)) m hm)
  o6 := fun h1 => ⟨listed_set_mono (h.o6 ((set_listed h1).resolve_left (by decide))).1, listed_set_mono (h.o6 ((set_listed h1).resolve_left (by decide))).2⟩
  o3 := fun h1 => listed_set_mono (h.o3 ((set_listed h1).resolve_left (by decide)))
  bel := fun h1 => h.bel (set_false h1)
  x68 := fun _ h2 => ⟨g, by simp, ho, fun h5 hh he => hne ((set_listed h5).resolve_left (by decide)) (by
    cases h6 : listed.getD 6 true with
    | false => rfl
    | true => exact absurd (h.o3 (h.o6 h6).1) (by rw [h0]; decide)) hh (by simpa using he)⟩
  x69 := fun h1 => by have := h.x69 ((set_listed h1).resolve_left (by decide)); simpa using this
  x70 := fun h1 => by have := h.x70 ((set_listed h1).resolve_left (by decide)); simpa using this
  x71 := fun h1 _ => absurd (h.o3 ((set_listed h1).resolve_left (by decide))) (by rw [h0]; decide)
  x72 := fun h1 => by have := h.x72 ((set_listed h1).resolve_left (by decide)); simpa using this
  x73 := fun h1 h2 => by
    obtain ⟨g, e1, e2, e3⟩ := h.x73 ((set_listed h1).resolve_left (by decide)) (set_false h2)
    exact ⟨g, by simpa using e1, e2, e3⟩
  x74 := fun h1 h2 => by
    obtain ⟨g, cap, e1, e2⟩ := h.x74 ((set_listed h1).resolve_left (by decide)) (set_false h2)
    exact ⟨g, cap, by simpa using e1, e2⟩
  x75 := fun h1 => by have := h.x75 ((set_listed h1).resolve_left (by decide)); simpa using this
  fin := fun h1 => h.fin ((set_listed h1).resolve_left (by decide))
theorem ApI.s5 (h : ApI A W listed xs n3 rn c a rf f T I sn) {g : Nat} (h5 : listed.getD 5 true = false) (hg : A.heap.size ≤ g) (hc : W.heap[g]? = some (.cells #[.string T, .string I, .slice f.sa sn f.sc, .int .i64 f.auth] 46 (0, 0))) (n0 : listed.getD 0 true = true → listed.getD 3 true = false → ∀ b, xs 68 = Sl b 0 0 → b ≠ g) (n1 : listed.getD 3 true = true → listed.getD 6 true = false → ∀ b cap, xs 71 = Sl b rn cap → b ≠ g) : ApI A W (listed.setIfInBounds 5 true) (fun k => if k = 73 then Sl g 1 1 else xs k) n3 rn c a rf f T I sn where
  o8 := fun h1 m hm => listed_set_mono (h.o8 ((set_listed h1).resolve_left (by decide)) m hm)
  o6 := fun h1 => absurd (h.o6 ((set_listed h1).resolve_left (by decide))).2 (by rw [h5]; decide)
  o3 := fun h1 => listed_set_mono (h.o3 ((set_listed h1).resolve_left (by decide)))
  bel := fun h1 => h.bel (set_false h1)
  x68 := fun h1 h2 => by
    obtain ⟨b, e1, e2, -⟩ := h.x68 ((set_listed h1).resolve_left (by decide)) (set_false h2)
    refine ⟨b, by simpa using e1, e2, fun _ hh he => ?_⟩
    have he : Sl g 1 1 = Sl hh 1 1 := by simpa using he
    cases he
    exact fun e => n0 ((set_listed h1).resolve_left (by decide)) (set_false h2) _ e1 e.symm
  x69 := fun h1 => by have := h.x69 ((set_listed h1).resolve_left (by decide)); simpa using this
  x70 := fun h1 => by have := h.x70 ((set_listed h1).resolve_left (by decide)); simpa using this
  x71 := fun h1 h2 => by
    obtain ⟨b, cap, e1, e2, -⟩ := h.x71 ((set_listed h1).resolve_left (by decide)) (set_false h2)
    refine ⟨b, cap, by simpa using e1, e2, fun _ hh he => ?_⟩
    have he : Sl g 1 1 = Sl hh 1 1 := by simpa using he
    cases he
    exact fun e => n1 ((set_listed h1).resolve_left (by decide)) (set_false h2) _ _ e1 e.symm
  x72 := fun h1 => by have := h.x72 ((set_listed h1).resolve_left (by decide)); simpa using this
  x73 := fun _ _ => ⟨g, by simp, hg, hc⟩
  x74 := fun h1 h2 => by
    obtain ⟨g, cap, e1, e2⟩ := h.x74 ((set_listed h1).resolve_left (by decide)) (set_false h2)
    exact ⟨g, cap, by simpa using e1, e2⟩
  x75 := fun h1 => by have := h.x75 ((set_listed h1).resolve_left (by decide)); simpa using this
  fin := fun h1 => h.fin ((set_listed h1).resolve_left (by decide))
theorem ApI.s3 (h : ApI A W listed xs n3 rn c a rf f T I sn) (h3 : listed.getD 3 true = false) (h0 : listed.getD 0 true = true) {W' : World} {g g' cap : Nat} (hx : xs 68 = Sl g 0 0) (ho : OwnF W' A.heap.size (Sl g' rn cap) rf) (hgr : W.grownBy W' (some g)) (hgB : A.heap.size ≤ g) (hg' : g' = g ∨ g' = W.heap.size) : ApI A W' (listed.setIfInBounds 3 true) (fun k => if k = 71 then Sl g' rn cap else xs k) n3 rn c a rf f T I sn where
  o8 := fun h1 m hm => listed_set_mono (h.o8 ((set_listed h1).resolve_left (by decide)) m hm)
  o6 := fun h1 => ⟨listed_set_mono (h.o6 ((set_listed h1).resolve_left (by decide))).1, listed_set_mono (h.o6 ((set_listed h1).resolve_left (by decide))).2⟩
  o3 := fun _ => listed_set_mono h0
  bel := fun h1 => (h.bel (set_false h1)).trans ((Below.refl _ _).grown hgr (h.bel (set_false h1)).size (fun k hk => by cases hk; exact hgB))
  x68 := fun _ h2 => by rw [listed_self'] at h2; cases h2
  x69 := fun h1 => by have := h.x69 ((set_listed h1).resolve_left (by decide)); simpa using this
  x70 := fun h1 => by have := h.x70 ((set_listed h1).resolve_left (by decide)); simpa using this
  x71 := fun _ _ => ⟨g', cap, by simp, ho, fun h5 hh he => by
    have h5 := ((set_listed h5).resolve_left (by decide))
    have h6 : listed.getD 6 true = false := by
      cases h6 : listed.getD 6 true with
      | false => rfl
      | true => exact absurd (h.o6 h6).1 (by rw [h3]; decide)
    obtain ⟨g2, e1, -, e3⟩ := h.x68 h0 h3
    obtain ⟨hb, f1, -, f3⟩ := h.x73 h5 h6
    have he : xs 73 = Sl hh 1 1 := by simpa using he
    have hlt : hh < W.heap.size := by
      rw [f1] at he
      cases he
      exact (Array.getElem?_eq_some_iff.1 f3).1
    have hne := e3 h5 hh he
    rw [e1] at hx
    cases hx
    rcases hg' with rfl | rfl
    · exact hne
    · omega⟩
  x72 := fun h1 => by have := h.x72 ((set_listed h1).resolve_left (by decide)); simpa using this
  x73 := fun h1 h2 => by
    obtain ⟨hb, f1, f2, f3⟩ := h.x73 ((set_listed h1).resolve_left (by decide)) (set_false h2)
    refine ⟨hb, by simpa using f1, f2, ?_⟩
    obtain ⟨g2, e1, -, e3⟩ := h.x68 h0 h3
    have hne := e3 ((set_listed h1).resolve_left (by decide)) hb f1
    rw [e1] at hx
    cases hx
    exact (hgr.block hb (Array.getElem?_eq_some_iff.1 f3).1 (by intro e; cases e; exact hne rfl)).trans f3
  x74 := fun h1 _ => absurd (h.o6 ((set_listed h1).resolve_left (by decide))).1 (by rw [h3]; decide)
  x75 := fun h1 => by have := h.x75 ((set_listed h1).resolve_left (by decide)); simpa using this
  fin := fun h1 => absurd (h.o8 ((set_listed h1).resolve_left (by decide)) 3 (by decide)) (by rw [h3]; decide)
theorem ApI.s6 (h : ApI A W listed xs n3 rn c a rf f T I sn) (h6 : listed.getD 6 true = false) (h3 : listed.getD 3 true = true) (h5 : listed.getD 5 true = true) {W' : World} {g g' cap : Nat} (ho : OwnF W' A.heap.size (Sl g' (rn + 1) cap) (rf ++ [f])) (hgr : W.grownBy W' (some g)) (hgB : A.heap.size ≤ g) : ApI A W' (listed.setIfInBounds 6 true) (fun k => if k = 74 then Sl g' (rn + 1) cap else xs k) n3 rn c a rf f T I sn where
  o8 := fun h1 m hm => listed_set_mono (h.o8 ((set_listed h1).resolve_left (by decide)) m hm)
  o6 := fun _ => ⟨listed_set_mono h3, listed_set_mono h5⟩
  o3 := fun h1 => listed_set_mono (h.o3 ((set_listed h1).resolve_left (by decide)))
  bel := fun h1 => (h.bel (set_false h1)).trans ((Below.refl _ _).grown hgr (h.bel (set_false h1)).size (fun k hk => by cases hk; exact hgB))
  x68 := fun _ h2 => by have := set_false h2; rw [h3] at this; cases this
  x69 := fun h1 => by have := h.x69 ((set_listed h1).resolve_left (by decide)); simpa using this
  x70 := fun h1 => by have := h.x70 ((set_listed h1).resolve_left (by decide)); simpa using this
  x71 := fun _ h2 => by rw [listed_self'] at h2; cases h2
  x72 := fun h1 => by have := h.x72 ((set_listed h1).resolve_left (by decide)); simpa using this
  x73 := fun _ h2 => by rw [listed_self'] at h2; cases h2
  x74 := fun _ _ => ⟨g', cap, by simp, ho⟩
  x75 := fun h1 => by have := h.x75 ((set_listed h1).resolve_left (by decide)); simpa using this
  fin := fun h1 => absurd (h.o8 ((set_listed h1).resolve_left (by decide)) 6 (by decide)) (by rw [h6]; decide)
theorem ApI.s8 (h : ApI A W listed xs n3 rn c a rf f T I sn) (h8 : listed.getD 8 true = false) (hall : ∀ m, m < 8 → listed.getD m true = true) {g cap : Nat} (ho : OwnF W A.heap.size (Sl g (rn + 1) cap) (rf ++ [f])) : ApI A (W.setCell ⟨n3, 4, none⟩ (Sl g (rn + 1) cap)) (listed.setIfInBounds 8 true) xs n3 rn c a rf f T I sn where
  o8 := fun _ m hm => listed_set_mono (hall m hm)
  o6 := fun _ => ⟨listed_set_mono (hall 3 (by decide)), listed_set_mono (hall 5 (by decide))⟩
  o3 := fun _ => listed_set_mono (hall 0 (by decide))
  bel := fun h1 => by rw [listed_self'] at h1; cases h1
  x68 := fun _ h2 => by have := set_false h2; rw [hall 3 (by decide)] at this; cases this
  x69 := fun h1 => h.x69 ((set_listed h1).resolve_left (by decide))
  x70 := fun h1 => h.x70 ((set_listed h1).resolve_left (by decide))
  x71 := fun _ h2 => by have := set_false h2; rw [hall 6 (by decide)] at this; cases this
  x72 := fun h1 => h.x72 ((set_listed h1).resolve_left (by decide))
  x73 := fun _ h2 => by have := set_false h2; rw [hall 6 (by decide)] at this; cases this
  x74 := fun _ h2 => by rw [listed_self'] at h2; cases h2
  x75 := fun h1 => h.x75 ((set_listed h1).resolve_left (by decide))
  fin := fun _ => ⟨W, g, cap, h.bel h8, ho, rfl⟩
end

set_option maxRecDepth 100000 in
set_option maxHeartbeats 4000000 in
theorem append_region {id : Nat} {po0 : String} {af0 : Array Edge} {ty1 : TypeId} {po1 : String} {af1 : Array Edge} {ty2 : TypeId} {po2 : String} {af2 : Array Edge} {po3 : String} {af3 : Array Edge} {ty4 : TypeId} {po4 : String} {af4 : Array Edge} {po5 : String} {af5 : Array Edge} {po6 : String} {af6 : Array Edge} {ty7 : TypeId} {po7 : String} {af7 : Array Edge} {ty8 : TypeId} {po8 : String} {af8 : Array Edge} {Q : Exit → Act → World → Prop} {A : World} {v0 v1 v2 v4 v6 v7 v8 v9 v10 v11 v12 v13 v14 v15 v16 v17 v18 v19 v20 v21 v22 v23 v24 v25 v26 v27 v28 v29 v30 v31 v32 v33 v34 v35 v36 v37 v38 v39 v40 v41 v42 v43 v44 v45 v46 v47 v48 v49 v50 v51 v52 v53 v54 v55 v56 v57 v58 v59 v60 v61 v62 v63 v64 v65 v66 v67 v76 v77 v78 v79 v80 v81 v82 v83 v84 v85 v86 v87 v88 v89 v90 v91 v92 v93 v94 v95 v96 v97 v98 v99 v100 v101 v102 v103 v104 v105 v106 v107 v108 v109 v110 v111 v112 v113 v114 v115 v116 v117 v118 v119 v120 v121 v122 v123 v124 v125 v126 v127 v128 v129 v130 : Value} {u68 u69 u70 u71 u72 u73 u74 u75 : Value}
    (n3 nf rn c : Nat) (a : Option Addr) (rf : List Fld) (f : Fld) (T I : ByteArray) (sn : Nat) (hT : T = lb f.tag) (hI : I = lb f.ind) (hsn : sn = f.subs.length) (hrn : rn = rf.length) (hr40 : rn ≤ 1000) (hA : Flds A (.slice a rn c) rf) (h3 : A.cell? ⟨n3, 4, none⟩ = some (.slice a rn c)) (h3z : A.frozen? ⟨n3, 4, none⟩ = false) (hnf : A.heap[nf]? = some (.cells #[.string T, .string I, .slice f.sa sn f.sc, .int .i64 f.auth] 46 (0, 0)))
    (hw2_1 : waits .any #[⟨some 68, .buildSlice 29 0 #[], 29, po0, af0, none⟩, ⟨some 69, .fieldAddr 31 (.tmp 5) 4, ty1, po1, af1, none⟩, ⟨some 70, .load 29 (.tmp 69), ty2, po2, af2, none⟩, ⟨some 71, .call { callee := .builtin .append, args := #[.tmp 68, .tmp 70], argTypes := #[29, 29] }, 29, po3, af3, none⟩, ⟨some 72, .load 46 (.tmp 3), ty4, po4, af4, none⟩, ⟨some 73, .buildSlice 29 1 #[(0, .tmp 72)], 29, po5, af5, none⟩, ⟨some 74, .call { callee := .builtin .append, args := #[.tmp 71, .tmp 73], argTypes := #[29, 29] }, 29, po6, af6, none⟩, ⟨some 75, .fieldAddr 31 (.tmp 5) 4, ty7, po7, af7, none⟩, ⟨none, .store 29 (.tmp 75) (.tmp 74), ty8, po8, af8, none⟩] 2 1 = true)
    (hw3_0 : waits .any #[⟨some 68, .buildSlice 29 0 #[], 29, po0, af0, none⟩, ⟨some 69, .fieldAddr 31 (.tmp 5) 4, ty1, po1, af1, none⟩, ⟨some 70, .load 29 (.tmp 69), ty2, po2, af2, none⟩, ⟨some 71, .call { callee := .builtin .append, args := #[.tmp 68, .tmp 70], argTypes := #[29, 29] }, 29, po3, af3, none⟩, ⟨some 72, .load 46 (.tmp 3), ty4, po4, af4, none⟩, ⟨some 73, .buildSlice 29 1 #[(0, .tmp 72)], 29, po5, af5, none⟩, ⟨some 74, .call { callee := .builtin .append, args := #[.tmp 71, .tmp 73], argTypes := #[29, 29] }, 29, po6, af6, none⟩, ⟨some 75, .fieldAddr 31 (.tmp 5) 4, ty7, po7, af7, none⟩, ⟨none, .store 29 (.tmp 75) (.tmp 74), ty8, po8, af8, none⟩] 3 0 = true)
    (hw3_2 : waits .any #[⟨some 68, .buildSlice 29 0 #[], 29, po0, af0, none⟩, ⟨some 69, .fieldAddr 31 (.tmp 5) 4, ty1, po1, af1, none⟩, ⟨some 70, .load 29 (.tmp 69), ty2, po2, af2, none⟩, ⟨some 71, .call { callee := .builtin .append, args := #[.tmp 68, .tmp 70], argTypes := #[29, 29] }, 29, po3, af3, none⟩, ⟨some 72, .load 46 (.tmp 3), ty4, po4, af4, none⟩, ⟨some 73, .buildSlice 29 1 #[(0, .tmp 72)], 29, po5, af5, none⟩, ⟨some 74, .call { callee := .builtin .append, args := #[.tmp 71, .tmp 73], argTypes := #[29, 29] }, 29, po6, af6, none⟩, ⟨some 75, .fieldAddr 31 (.tmp 5) 4, ty7, po7, af7, none⟩, ⟨none, .store 29 (.tmp 75) (.tmp 74), ty8, po8, af8, none⟩] 3 2 = true)
    (hw5_4 : waits .any #[⟨some 68, .buildSlice 29 0 #[], 29, po0, af0, none⟩, ⟨some 69, .fieldAddr 31 (.tmp 5) 4, ty1, po1, af1, none⟩, ⟨some 70, .load 29 (.tmp 69), ty2, po2, af2, none⟩, ⟨some 71, .call { callee := .builtin .append, args := #[.tmp 68, .tmp 70], argTypes := #[29, 29] }, 29, po3, af3, none⟩, ⟨some 72, .load 46 (.tmp 3), ty4, po4, af4, none⟩, ⟨some 73, .buildSlice 29 1 #[(0, .tmp 72)], 29, po5, af5, none⟩, ⟨some 74, .call { callee := .builtin .append, args := #[.tmp 71, .tmp 73], argTypes := #[29, 29] }, 29, po6, af6, none⟩, ⟨some 75, .fieldAddr 31 (.tmp 5) 4, ty7, po7, af7, none⟩, ⟨none, .store 29 (.tmp 75) (.tmp 74), ty8, po8, af8, none⟩] 5 4 = true)
    (hw6_3 : waits .any #[⟨some 68, .buildSlice 29 0 #[], 29, po0, af0, none⟩, ⟨some 69, .fieldAddr 31 (.tmp 5) 4, ty1, po1, af1, none⟩, ⟨some 70, .load 29 (.tmp 69), ty2, po2, af2, none⟩, ⟨some 71, .call { callee := .builtin .append, args := #[.tmp 68, .tmp 70], argTypes := #[29, 29] }, 29, po3, af3, none⟩, ⟨some 72, .load 46 (.tmp 3), ty4, po4, af4, none⟩, ⟨some 73, .buildSlice 29 1 #[(0, .tmp 72)], 29, po5, af5, none⟩, ⟨some 74, .call { callee := .builtin .append, args := #[.tmp 71, .tmp 73], argTypes := #[29, 29] }, 29, po6, af6, none⟩, ⟨some 75, .fieldAddr 31 (.tmp 5) 4, ty7, po7, af7, none⟩, ⟨none, .store 29 (.tmp 75) (.tmp 74), ty8, po8, af8, none⟩] 6 3 = true)
    (hw6_5 : waits .any #[⟨some 68, .buildSlice 29 0 #[], 29, po0, af0, none⟩, ⟨some 69, .fieldAddr 31 (.tmp 5) 4, ty1, po1, af1, none⟩, ⟨some 70, .load 29 (.tmp 69), ty2, po2, af2, none⟩, ⟨some 71, .call { callee := .builtin .append, args := #[.tmp 68, .tmp 70], argTypes := #[29, 29] }, 29, po3, af3, none⟩, ⟨some 72, .load 46 (.tmp 3), ty4, po4, af4, none⟩, ⟨some 73, .buildSlice 29 1 #[(0, .tmp 72)], 29, po5, af5, none⟩, ⟨some 74, .call { callee := .builtin .append, args := #[.tmp 71, .tmp 73], argTypes := #[29, 29] }, 29, po6, af6, none⟩, ⟨some 75, .fieldAddr 31 (.tmp 5) 4, ty7, po7, af7, none⟩, ⟨none, .store 29 (.tmp 75) (.tmp 74), ty8, po8, af8, none⟩] 6 5 = true)
    (hw7_6 : waits .any #[⟨some 68, .buildSlice 29 0 #[], 29, po0, af0, none⟩, ⟨some 69, .fieldAddr 31 (.tmp 5) 4, ty1, po1, af1, none⟩, ⟨some 70, .load 29 (.tmp 69), ty2, po2, af2, none⟩, ⟨some 71, .call { callee := .builtin .append, args := #[.tmp 68, .tmp 70], argTypes := #[29, 29] }, 29, po3, af3, none⟩, ⟨some 72, .load 46 (.tmp 3), ty4, po4, af4, none⟩, ⟨some 73, .buildSlice 29 1 #[(0, .tmp 72)], 29, po5, af5, none⟩, ⟨some 74, .call { callee := .builtin .append, args := #[.tmp 71, .tmp 73], argTypes := #[29, 29] }, 29, po6, af6, none⟩, ⟨some 75, .fieldAddr 31 (.tmp 5) 4, ty7, po7, af7, none⟩, ⟨none, .store 29 (.tmp 75) (.tmp 74), ty8, po8, af8, none⟩] 7 6 = true)
    (hw8_0 : waits .any #[⟨some 68, .buildSlice 29 0 #[], 29, po0, af0, none⟩, ⟨some 69, .fieldAddr 31 (.tmp 5) 4, ty1, po1, af1, none⟩, ⟨some 70, .load 29 (.tmp 69), ty2, po2, af2, none⟩, ⟨some 71, .call { callee := .builtin .append, args := #[.tmp 68, .tmp 70], argTypes := #[29, 29] }, 29, po3, af3, none⟩, ⟨some 72, .load 46 (.tmp 3), ty4, po4, af4, none⟩, ⟨some 73, .buildSlice 29 1 #[(0, .tmp 72)], 29, po5, af5, none⟩, ⟨some 74, .call { callee := .builtin .append, args := #[.tmp 71, .tmp 73], argTypes := #[29, 29] }, 29, po6, af6, none⟩, ⟨some 75, .fieldAddr 31 (.tmp 5) 4, ty7, po7, af7, none⟩, ⟨none, .store 29 (.tmp 75) (.tmp 74), ty8, po8, af8, none⟩] 8 0 = true)
    (hw8_1 : waits .any #[⟨some 68, .buildSlice 29 0 #[], 29, po0, af0, none⟩, ⟨some 69, .fieldAddr 31 (.tmp 5) 4, ty1, po1, af1, none⟩, ⟨some 70, .load 29 (.tmp 69), ty2, po2, af2, none⟩, ⟨some 71, .call { callee := .builtin .append, args := #[.tmp 68, .tmp 70], argTypes := #[29, 29] }, 29, po3, af3, none⟩, ⟨some 72, .load 46 (.tmp 3), ty4, po4, af4, none⟩, ⟨some 73, .buildSlice 29 1 #[(0, .tmp 72)], 29, po5, af5, none⟩, ⟨some 74, .call { callee := .builtin .append, args := #[.tmp 71, .tmp 73], argTypes := #[29, 29] }, 29, po6, af6, none⟩, ⟨some 75, .fieldAddr 31 (.tmp 5) 4, ty7, po7, af7, none⟩, ⟨none, .store 29 (.tmp 75) (.tmp 74), ty8, po8, af8, none⟩] 8 1 = true)
    (hw8_2 : waits .any #[⟨some 68, .buildSlice 29 0 #[], 29, po0, af0, none⟩, ⟨some 69, .fieldAddr 31 (.tmp 5) 4, ty1, po1, af1, none⟩, ⟨some 70, .load 29 (.tmp 69), ty2, po2, af2, none⟩, ⟨some 71, .call { callee := .builtin .append, args := #[.tmp 68, .tmp 70], argTypes := #[29, 29] }, 29, po3, af3, none⟩, ⟨some 72, .load 46 (.tmp 3), ty4, po4, af4, none⟩, ⟨some 73, .buildSlice 29 1 #[(0, .tmp 72)], 29, po5, af5, none⟩, ⟨some 74, .call { callee := .builtin .append, args := #[.tmp 71, .tmp 73], argTypes := #[29, 29] }, 29, po6, af6, none⟩, ⟨some 75, .fieldAddr 31 (.tmp 5) 4, ty7, po7, af7, none⟩, ⟨none, .store 29 (.tmp 75) (.tmp 74), ty8, po8, af8, none⟩] 8 2 = true)
    (hw8_3 : waits .any #[⟨some 68, .buildSlice 29 0 #[], 29, po0, af0, none⟩, ⟨some 69, .fieldAddr 31 (.tmp 5) 4, ty1, po1, af1, none⟩, ⟨some 70, .load 29 (.tmp 69), ty2, po2, af2, none⟩, ⟨some 71, .call { callee := .builtin .append, args := #[.tmp 68, .tmp 70], argTypes := #[29, 29] }, 29, po3, af3, none⟩, ⟨some 72, .load 46 (.tmp 3), ty4, po4, af4, none⟩, ⟨some 73, .buildSlice 29 1 #[(0, .tmp 72)], 29, po5, af5, none⟩, ⟨some 74, .call { callee := .builtin .append, args := #[.tmp 71, .tmp 73], argTypes := #[29, 29] }, 29, po6, af6, none⟩, ⟨some 75, .fieldAddr 31 (.tmp 5) 4, ty7, po7, af7, none⟩, ⟨none, .store 29 (.tmp 75) (.tmp 74), ty8, po8, af8, none⟩] 8 3 = true)
    (hw8_4 : waits .any #[⟨some 68, .buildSlice 29 0 #[], 29, po0, af0, none⟩, ⟨some 69, .fieldAddr 31 (.tmp 5) 4, ty1, po1, af1, none⟩, ⟨some 70, .load 29 (.tmp 69), ty2, po2, af2, none⟩, ⟨some 71, .call { callee := .builtin .append, args := #[.tmp 68, .tmp 70], argTypes := #[29, 29] }, 29, po3, af3, none⟩, ⟨some 72, .load 46 (.tmp 3), ty4, po4, af4, none⟩, ⟨some 73, .buildSlice 29 1 #[(0, .tmp 72)], 29, po5, af5, none⟩, ⟨some 74, .call { callee := .builtin .append, args := #[.tmp 71, .tmp 73], argTypes := #[29, 29] }, 29, po6, af6, none⟩, ⟨some 75, .fieldAddr 31 (.tmp 5) 4, ty7, po7, af7, none⟩, ⟨none, .store 29 (.tmp 75) (.tmp 74), ty8, po8, af8, none⟩] 8 4 = true)
    (hw8_5 : waits .any #[⟨some 68, .buildSlice 29 0 #[], 29, po0, af0, none⟩, ⟨some 69, .fieldAddr 31 (.tmp 5) 4, ty1, po1, af1, none⟩, ⟨some 70, .load 29 (.tmp 69), ty2, po2, af2, none⟩, ⟨some 71, .call { callee := .builtin .append, args := #[.tmp 68, .tmp 70], argTypes := #[29, 29] }, 29, po3, af3, none⟩, ⟨some 72, .load 46 (.tmp 3), ty4, po4, af4, none⟩, ⟨some 73, .buildSlice 29 1 #[(0, .tmp 72)], 29, po5, af5, none⟩, ⟨some 74, .call { callee := .builtin .append, args := #[.tmp 71, .tmp 73], argTypes := #[29, 29] }, 29, po6, af6, none⟩, ⟨some 75, .fieldAddr 31 (.tmp 5) 4, ty7, po7, af7, none⟩, ⟨none, .store 29 (.tmp 75) (.tmp 74), ty8, po8, af8, none⟩] 8 5 = true)
    (hw8_6 : waits .any #[⟨some 68, .buildSlice 29 0 #[], 29, po0, af0, none⟩, ⟨some 69, .fieldAddr 31 (.tmp 5) 4, ty1, po1, af1, none⟩, ⟨some 70, .load 29 (.tmp 69), ty2, po2, af2, none⟩, ⟨some 71, .call { callee := .builtin .append, args := #[.tmp 68, .tmp 70], argTypes := #[29, 29] }, 29, po3, af3, none⟩, ⟨some 72, .load 46 (.tmp 3), ty4, po4, af4, none⟩, ⟨some 73, .buildSlice 29 1 #[(0, .tmp 72)], 29, po5, af5, none⟩, ⟨some 74, .call { callee := .builtin .append, args := #[.tmp 71, .tmp 73], argTypes := #[29, 29] }, 29, po6, af6, none⟩, ⟨some 75, .fieldAddr 31 (.tmp 5) 4, ty7, po7, af7, none⟩, ⟨none, .store 29 (.tmp 75) (.tmp 74), ty8, po8, af8, none⟩] 8 6 = true)
    (hw8_7 : waits .any #[⟨some 68, .buildSlice 29 0 #[], 29, po0, af0, none⟩, ⟨some 69, .fieldAddr 31 (.tmp 5) 4, ty1, po1, af1, none⟩, ⟨some 70, .load 29 (.tmp 69), ty2, po2, af2, none⟩, ⟨some 71, .call { callee := .builtin .append, args := #[.tmp 68, .tmp 70], argTypes := #[29, 29] }, 29, po3, af3, none⟩, ⟨some 72, .load 46 (.tmp 3), ty4, po4, af4, none⟩, ⟨some 73, .buildSlice 29 1 #[(0, .tmp 72)], 29, po5, af5, none⟩, ⟨some 74, .call { callee := .builtin .append, args := #[.tmp 71, .tmp 73], argTypes := #[29, 29] }, 29, po6, af6, none⟩, ⟨some 75, .fieldAddr 31 (.tmp 5) 4, ty7, po7, af7, none⟩, ⟨none, .store 29 (.tmp 75) (.tmp 74), ty8, po8, af8, none⟩] 8 7 = true)
    (hfw : forwardB .any #[⟨some 68, .buildSlice 29 0 #[], 29, po0, af0, none⟩, ⟨some 69, .fieldAddr 31 (.tmp 5) 4, ty1, po1, af1, none⟩, ⟨some 70, .load 29 (.tmp 69), ty2, po2, af2, none⟩, ⟨some 71, .call { callee := .builtin .append, args := #[.tmp 68, .tmp 70], argTypes := #[29, 29] }, 29, po3, af3, none⟩, ⟨some 72, .load 46 (.tmp 3), ty4, po4, af4, none⟩, ⟨some 73, .buildSlice 29 1 #[(0, .tmp 72)], 29, po5, af5, none⟩, ⟨some 74, .call { callee := .builtin .append, args := #[.tmp 71, .tmp 73], argTypes := #[29, 29] }, 29, po6, af6, none⟩, ⟨some 75, .fieldAddr 31 (.tmp 5) 4, ty7, po7, af7, none⟩, ⟨none, .store 29 (.tmp 75) (.tmp 74), ty8, po8, af8, none⟩] = true)
    (hQ : ∀ (xs : Nat → Value) W' g cap, Below A.heap.size A W' → OwnF W' A.heap.size (Sl g (rn + 1) cap) (rf ++ [f]) → Q .normal ⟨#[v0, v1, v2, .pointer (some ⟨nf, 0, none⟩), v4, .pointer (some ⟨n3, 0, none⟩), v6, v7, v8, v9, v10, v11, v12, v13, v14, v15, v16, v17, v18, v19, v20, v21, v22, v23, v24, v25, v26, v27, v28, v29, v30, v31, v32, v33, v34, v35, v36, v37, v38, v39, v40, v41, v42, v43, v44, v45, v46, v47, v48, v49, v50, v51, v52, v53, v54, v55, v56, v57, v58, v59, v60, v61, v62, v63, v64, v65, v66, v67, xs 68, xs 69, xs 70, xs 71, xs 72, xs 73, xs 74, xs 75, v76, v77, v78, v79, v80, v81, v82, v83, v84, v85, v86, v87, v88, v89, v90, v91, v92, v93, v94, v95, v96, v97, v98, v99, v100, v101, v102, v103, v104, v105, v106, v107, v108, v109, v110, v111, v112, v113, v114, v115, v116, v117, v118, v119, v120, v121, v122, v123, v124, v125, v126, v127, v128, v129, v130], []⟩ (W'.setCell ⟨n3, 4, none⟩ (Sl g (rn + 1) cap)))
    : Code.wp Tryd.prog (.region id #[⟨some 68, .buildSlice 29 0 #[], 29, po0, af0, none⟩, ⟨some 69, .fieldAddr 31 (.tmp 5) 4, ty1, po1, af1, none⟩, ⟨some 70, .load 29 (.tmp 69), ty2, po2, af2, none⟩, ⟨some 71, .call { callee := .builtin .append, args := #[.tmp 68, .tmp 70], argTypes := #[29, 29] }, 29, po3, af3, none⟩, ⟨some 72, .load 46 (.tmp 3), ty4, po4, af4, none⟩, ⟨some 73, .buildSlice 29 1 #[(0, .tmp 72)], 29, po5, af5, none⟩, ⟨some 74, .call { callee := .builtin .append, args := #[.tmp 71, .tmp 73], argTypes := #[29, 29] }, 29, po6, af6, none⟩, ⟨some 75, .fieldAddr 31 (.tmp 5) 4, ty7, po7, af7, none⟩, ⟨none, .store 29 (.tmp 75) (.tmp 74), ty8, po8, af8, none⟩] true) Q ⟨#[v0, v1, v2, .pointer (some ⟨nf, 0, none⟩), v4, .pointer (some ⟨n3, 0, none⟩), v6, v7, v8, v9, v10, v11, v12, v13, v14, v15, v16, v17, v18, v19, v20, v21, v22, v23, v24, v25, v26, v27, v28, v29, v30, v31, v32, v33, v34, v35, v36, v37, v38, v39, v40, v41, v42, v43, v44, v45, v46, v47, v48, v49, v50, v51, v52, v53, v54, v55, v56, v57, v58, v59, v60, v61, v62, v63, v64, v65, v66, v67, u68, u69, u70, u71, u72, u73, u74, u75, v76, v77, v78, v79, v80, v81, v82, v83, v84, v85, v86, v87, v88, v89, v90, v91, v92, v93, v94, v95, v96, v97, v98, v99, v100, v101, v102, v103, v104, v105, v106, v107, v108, v109, v110, v111, v112, v113, v114, v115, v116, v117, v118, v119, v120, v121, v122, v123, v124, v125, v126, v127, v128, v129, v130], []⟩ A := by
  refine wp_region_inv (by kernel_rfl) (fun listed x W => ∃ xs : Nat → Value, x = ⟨#[v0, v1, v2, .pointer (some ⟨nf, 0, none⟩), v4, .pointer (some ⟨n3, 0, none⟩), v6, v7, v8, v9, v10, v11, v12, v13, v14, v15, v16, v17, v18, v19, v20, v21, v22, v23, v24, v25, v26, v27, v28, v29, v30, v31, v32, v33, v34, v35, v36, v37, v38, v39, v40, v41, v42, v43, v44, v45, v46, v47, v48, v49, v50, v51, v52, v53, v54, v55, v56, v57, v58, v59, v60, v61, v62, v63, v64, v65, v66, v67, xs 68, xs 69, xs 70, xs 71, xs 72, xs 73, xs 74, xs 75, v76, v77, v78, v79, v80, v81, v82, v83, v84, v85, v86, v87, v88, v89, v90, v91, v92, v93, v94, v95, v96, v97, v98, v99, v100, v101, v102, v103, v104, v105, v106, v107, v108, v109, v110, v111, v112, v113, v114, v115, v116, v117, v118, v119, v120, v121, v122, v123, v124, v125, v126, v127, v128, v129, v130], []⟩ ∧ ApI A W listed xs n3 rn c a rf f T I sn) ?start ?step ?done
  case start =>
    have no : ∀ m, m < 9 → (Array.replicate 9 false).getD m true = false := fun m hm => by simp [Array.getD, hm]
    exact ⟨fun k => if k = 68 then u68 else if k = 69 then u69 else if k = 70 then u70 else if k = 71 then u71 else if k = 72 then u72 else if k = 73 then u73 else if k = 74 then u74 else if k = 75 then u75 else undef, rfl, fun h => on_off h (no 8 (by decide)), fun h => on_off h (no 6 (by decide)), fun h => on_off h (no 3 (by decide)), fun _ => (Below.refl _ _).drew, fun h => on_off h (no 0 (by decide)), fun h => on_off h (no 1 (by decide)), fun h => on_off h (no 2 (by decide)), fun h => on_off h (no 3 (by decide)), fun h => on_off h (no 4 (by decide)), fun h => on_off h (no 5 (by decide)), fun h => on_off h (no 6 (by decide)), fun h => on_off h (no 7 (by decide)), fun h => on_off h (no 8 (by decide))⟩
  case done =>
    rintro listed x W hs ⟨xs, rfl, R1⟩ h0
    obtain ⟨W', g, cap, e1, e2, rfl⟩ := R1.fin (all_listedB hfw hs h0 8)
    exact hQ xs W' g cap e1 e2
  case step =>
    rintro listed x W i hs ⟨xs, rfl, R1⟩ hi
    have hin : i < 9 := by
      obtain ⟨-, o, ho, -⟩ := mem_ready.1 hi
      exact (Array.getElem?_eq_some_iff.1 ho).1
    have hno := (mem_ready.1 hi).1
    have RR := Lib.hid R1
    have h8 : listed.getD 8 true = false := by
      by_cases h : i = 8
      · subst h; exact hno
      · exact R1.off (i := i) (by omega) hno
    have bel := R1.bel h8
    have q4 := (bel.cell (p := ⟨n3, 4, none⟩) (lt_cell h3)).trans h3
    have z4 : W.frozen? ⟨n3, 4, none⟩ = false := by
      unfold World.frozen? at h3z ⊢
      rw [bel.block n3 (lt_cell h3)]
      exact h3z
    have hnW := (bel.block nf (Array.getElem?_eq_some_iff.1 hnf).1).trans hnf
    have f0 := Lib.cell_of_heap hnW 0
    have f1 := Lib.cell_of_heap hnW 1
    have f2 := Lib.cell_of_heap hnW 2
    have f3 := Lib.cell_of_heap hnW 3
    have BEL := Lib.hid bel
    have HAW := Lib.hid (hA.below bel (Nat.le_refl _))
    have HNO := Lib.hid hno
    have H8 := Lib.hid h8
    have HTT := Lib.hid hT
    have HII := Lib.hid hI
    have HSN := Lib.hid hsn
    have HRN := Lib.hid hrn
    clear R1 hQ hfw hA h3 h3z hnf hnW bel hno h8 hT hI hsn hrn
    have hcases : i = 0 ∨ i = 1 ∨ i = 2 ∨ i = 3 ∨ i = 4 ∨ i = 5 ∨ i = 6 ∨ i = 7 ∨ i = 8 := by omega
    rcases hcases with rfl | rfl | rfl | rfl | rfl | rfl | rfl | rfl | rfl
    · clear hi hw2_1 hw3_0 hw3_2 hw5_4 hw6_3 hw6_5 hw7_6 hw8_0 hw8_1 hw8_2 hw8_3 hw8_4 hw8_5 hw8_6 hw8_7
      refine wpOp_step rfl (fun K hK => ?_)
      go_simp
      exact hK _ _ ⟨fun k => if k = 68 then Sl W.heap.size 0 0 else xs k, by simp, (RR.out.world ((Below.refl _ _).alloc (Nat.le_refl _) _) H8.out).s0 HNO.out (OwnE.made fldE _ W _ _ rfl BEL.out.size) (fun h5 h6 h he => by
        obtain ⟨b, e1, -, e3⟩ := RR.out.x73 h5 h6
        rw [he] at e1
        cases e1
        exact Nat.ne_of_lt (Array.getElem?_eq_some_iff.1 e3).1)⟩
    · clear hi hw2_1 hw3_0 hw3_2 hw5_4 hw6_3 hw6_5 hw7_6 hw8_0 hw8_1 hw8_2 hw8_3 hw8_4 hw8_5 hw8_6 hw8_7
      refine wpOp_step rfl (fun K hK => ?_)
      go_simp
      exact hK _ _ ⟨fun k => if k = 69 then .pointer (some ⟨n3, 4, none⟩) else xs k, by simp, RR.out.s1⟩
    · have l1 := waited hi hw2_1
      have f69 := RR.out.x69 l1
      clear hi hw2_1 hw3_0 hw3_2 hw5_4 hw6_3 hw6_5 hw7_6 hw8_0 hw8_1 hw8_2 hw8_3 hw8_4 hw8_5 hw8_6 hw8_7
      refine wpOp_step rfl (fun K hK => ?_)
      simp only [f69]
      go_simp
      exact hK _ _ ⟨fun k => if k = 70 then .slice a rn c else xs k, by simp [f69], RR.out.s2⟩
    · have l0 := waited hi hw3_0
      have l2 := waited hi hw3_2
      have f70 := RR.out.x70 l2
      obtain ⟨g, f68, ho, -⟩ := RR.out.x68 l0 HNO.out
      obtain ⟨i0, hi0, hz0, hz1, hz2⟩ := info_parts infoFld
      clear hi hw2_1 hw3_0 hw3_2 hw5_4 hw6_3 hw6_5 hw7_6 hw8_0 hw8_1 hw8_2 hw8_3 hw8_4 hw8_5 hw8_6 hw8_7
      refine wpOp_step rfl (fun K hK => ?_)
      rw [if_pos (show Region.wanted _ _ = true from rfl)]
      refine wp_append_at fldE_len (by decide) fldE_one (.tmp 68) (.tmp 70) 29 rfl A.heap.size 46 i0 _ ⟨[], [], [], 0, none, 0⟩ 64 Tryd.underlying29 hi0 hz0 hz1 hz2 rfl g 0 [] 0 rfl f68 ho a rn c rf f70 HRN.out (fun d hd j u hj => Rows.cells fldE_len (by decide) (by have := HAW.out.1; rw [hd] at this; exact this) j u hj) (fun hn => by
        obtain ⟨a', c', he, -, hx⟩ := HAW.out.1
        cases he
        rcases hx with h | ⟨b, o, h, -⟩
        · exact h
        · rw [hn] at h; cases h) (by unfold maxLen; omega) (by omega) BEL.out.size ?_
      intro g' cap' w' ho' hgr hg'
      rw [Nat.zero_add] at ho'
      have ho'' : OwnF w' A.heap.size (Sl g' rn cap') rf := ho'
      refine hK _ _ ⟨fun k => if k = 71 then Sl g' rn cap' else xs k, by simp [Act.put, Nat.zero_add], RR.out.s3 HNO.out l0 f68 ho'' hgr (ho.lt g (by simp [Value.ownBlock])).1 hg'⟩
    · clear hi hw2_1 hw3_0 hw3_2 hw5_4 hw6_3 hw6_5 hw7_6 hw8_0 hw8_1 hw8_2 hw8_3 hw8_4 hw8_5 hw8_6 hw8_7
      refine wpOp_step rfl (fun K hK => ?_)
      go_simp
      exact hK _ _ ⟨fun k => if k = 72 then .agg #[.string T, .string I, .slice f.sa sn f.sc, .int .i64 f.auth] else xs k, by simp, RR.out.s4⟩
    · have l4 := waited hi hw5_4
      have f72 := RR.out.x72 l4
      clear hi hw2_1 hw3_0 hw3_2 hw5_4 hw6_3 hw6_5 hw7_6 hw8_0 hw8_1 hw8_2 hw8_3 hw8_4 hw8_5 hw8_6 hw8_7
      refine wpOp_step rfl (fun K hK => ?_)
      simp only [f72]
      go_simp
      refine hK _ _ ⟨fun k => if k = 73 then Sl W.heap.size 1 1 else xs k, by simp [f72], (RR.out.world ((Below.refl _ _).alloc (Nat.le_refl _) _) H8.out).s5 HNO.out BEL.out.size (alloc_at rfl) (fun h1 h2 b e => ?_) (fun h1 h2 b cap e => ?_)⟩
      · obtain ⟨b', e1, e2, -⟩ := RR.out.x68 h1 h2
        rw [e] at e1
        cases e1
        exact Nat.ne_of_lt (e2.lt b (by simp [Value.ownBlock])).2
      · obtain ⟨b', cap', e1, e2, -⟩ := RR.out.x71 h1 h2
        rw [e] at e1
        cases e1
        exact Nat.ne_of_lt (e2.lt b (by simp [Value.ownBlock])).2
    · have l3 := waited hi hw6_3
      have l5 := waited hi hw6_5
      obtain ⟨g, cap, f71, ho, -⟩ := RR.out.x71 l3 HNO.out
      obtain ⟨h, f73, hB, hh⟩ := RR.out.x73 l5 HNO.out
      obtain ⟨i0, hi0, hz0, hz1, hz2⟩ := info_parts infoFld
      clear hi hw2_1 hw3_0 hw3_2 hw5_4 hw6_3 hw6_5 hw7_6 hw8_0 hw8_1 hw8_2 hw8_3 hw8_4 hw8_5 hw8_6 hw8_7
      refine wpOp_step rfl (fun K hK => ?_)
      rw [if_pos (show Region.wanted _ _ = true from rfl)]
      refine wp_append_at fldE_len (by decide) fldE_one (.tmp 71) (.tmp 73) 29 rfl A.heap.size 46 i0 _ ⟨[], [], [], 0, none, 0⟩ 64 Tryd.underlying29 hi0 hz0 hz1 hz2 rfl g cap rf rn HRN.out f71 ho (some ⟨h, 0, none⟩) 1 1 [f] f73 rfl (fun d hd => by
        cases hd
        refine cells_fld ⟨?_, ?_, ?_, ?_⟩
        · rw [Lib.cell_of_heap hh, ← HTT.out]; rfl
        · rw [Lib.cell_of_heap hh, ← HII.out]; rfl
        · rw [Lib.cell_of_heap hh, ← HSN.out]; rfl
        · rw [Lib.cell_of_heap hh]; rfl) (fun hn => by cases hn) (by unfold maxLen; omega) (by omega) BEL.out.size ?_
      intro g' cap' w' ho' hgr hg'
      refine hK _ _ ⟨fun k => if k = 74 then Sl g' (rn + 1) cap' else xs k, by simp [Act.put], RR.out.s6 HNO.out l3 l5 ho' hgr (ho.lt g (by simp [Value.ownBlock])).1⟩
    · have l6 := waited hi hw7_6
      clear hi hw2_1 hw3_0 hw3_2 hw5_4 hw6_3 hw6_5 hw7_6 hw8_0 hw8_1 hw8_2 hw8_3 hw8_4 hw8_5 hw8_6 hw8_7
      refine wpOp_step rfl (fun K hK => ?_)
      go_simp
      exact hK _ _ ⟨fun k => if k = 75 then .pointer (some ⟨n3, 4, none⟩) else xs k, by simp, RR.out.s7⟩
    · have l0 := waited hi hw8_0
      have l1 := waited hi hw8_1
      have l2 := waited hi hw8_2
      have l3 := waited hi hw8_3
      have l4 := waited hi hw8_4
      have l5 := waited hi hw8_5
      have l6 := waited hi hw8_6
      have l7 := waited hi hw8_7
      obtain ⟨g, cap, f74, ho⟩ := RR.out.x74 l6 H8.out
      have f75 := RR.out.x75 l7
      clear hi hw2_1 hw3_0 hw3_2 hw5_4 hw6_3 hw6_5 hw7_6 hw8_0 hw8_1 hw8_2 hw8_3 hw8_4 hw8_5 hw8_6 hw8_7
      refine wpOp_step rfl (fun K hK => ?_)
      simp only [f74, f75]
      go_simp
      exact hK _ _ ⟨xs, by simp [f74, f75], RR.out.s8 H8.out (fun m hm => by
        rcases (by omega : m = 0 ∨ m = 1 ∨ m = 2 ∨ m = 3 ∨ m = 4 ∨ m = 5 ∨ m = 6 ∨ m = 7) with rfl | rfl | rfl | rfl | rfl | rfl | rfl | rfl <;> assumption) ho⟩
end Go.Proofs.YtcdlgmncalmihaaDoor
