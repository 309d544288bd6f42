/- Own rows whose spare cells are known too: append writes in place or into a new block, and what else lies in memory stays, whatever it is (layers 18, 16, 08). -/
import Derived.Test.YtkfjeolpbopcnaaGreatDoorGel
import Derived.Test.YtkfjeolpbopcnaaGreatDoorMwr
import Derived.Laws.AppendOwn
namespace Go.Proofs.YtkfjeolpbopcnaaGreatDoor
open Go Go.RowKit

/-- A row of one's own: its block holds these elements and spare ones. -/
def OwnE {α : Type} (E : α → List Value) (T : TypeId) (w : World) (B : Nat) (v : Value) (l : List α) : Prop :=
  (v = .slice none 0 0 ∧ l = []) ∨
  ∃ (g cap : Nat) (spare : List α), v = .slice (some ⟨g, 0, none⟩) l.length cap ∧ B ≤ g ∧ w.heap[g]? = some (.cells (flatE E (l ++ spare)).toArray T (0, 0)) ∧ (l ++ spare).length = cap ∧ cap ≤ maxLen
theorem OwnE.nil {α : Type} (E : α → List Value) (T : TypeId) (w : World) (B : Nat) : OwnE E T w B (.slice none 0 0) [] := .inl ⟨rfl, rfl⟩
theorem OwnE.made {α : Type} (E : α → List Value) (T : TypeId) (w : World) (n B : Nat) (hn : n = w.heap.size) (hB : B ≤ n) : OwnE E T (w.alloc (.cells #[] T)) B (.slice (some ⟨n, 0, none⟩) 0 0) [] := by
  subst hn
  exact .inr ⟨w.heap.size, 0, [], rfl, hB, heap_alloc_new w _, rfl, Nat.zero_le _⟩
theorem OwnE.made_row {α : Type} (E : α → List Value) (T : TypeId) (w : World) (n B : Nat) (hn : n = w.heap.size) (hB : B ≤ n) (l : List α) (cs : Array Value) (hc : cs = (flatE E l).toArray) (m : Nat) (hm : m = l.length) (hl : m ≤ maxLen) : OwnE E T (w.alloc (.cells cs T)) B (.slice (some ⟨n, 0, none⟩) m m) l := by
  subst hn
  subst hc
  subst hm
  exact .inr ⟨w.heap.size, l.length, [], rfl, hB, by rw [List.append_nil]; exact heap_alloc_new w _, by simp, hl⟩
theorem OwnE.below {α : Type} {E : α → List Value} {T : TypeId} {w w' : World} {B : Nat} {v : Value} {l : List α} (h : OwnE E T w B v l) {A : Nat} (b : Below A w w') (hA : w.heap.size ≤ A) : OwnE E T w' B v l := by
  rcases h with h | ⟨g, cap, sp, h1, h2, h3, h4⟩
  · exact .inl h
  · exact .inr ⟨g, cap, sp, h1, h2, (b.block g (Nat.lt_of_lt_of_le (Array.getElem?_eq_some_iff.1 h3).1 hA)).trans h3, h4⟩
theorem OwnE.lt {α : Type} {E : α → List Value} {T : TypeId} {w : World} {B : Nat} {v : Value} {l : List α} (h : OwnE E T w B v l) : ∀ k, v.ownBlock = some k → B ≤ k ∧ k < w.heap.size := by
  intro k hk
  rcases h with ⟨rfl, -⟩ | ⟨g, cap, sp, rfl, h2, h3, -⟩
  · simp [Value.ownBlock] at hk
  · simp [Value.ownBlock] at hk
    subst hk
    exact ⟨h2, (Array.getElem?_eq_some_iff.1 h3).1⟩
theorem OwnE.own {α : Type} {E : α → List Value} {k : Nat} (hk : ∀ p, (E p).length = k) {T : TypeId} {w : World} {B : Nat} {v : Value} {l : List α} (h : OwnE E T w B v l) : w.ownsRow B T k v l.length (flatE E l) := by
  refine ⟨flatE_len hk l, ?_⟩
  rcases h with ⟨rfl, rfl⟩ | ⟨g, cap, sp, rfl, h2, h3, h4, h5⟩
  · exact .inl ⟨rfl, rfl⟩
  · refine .inr ⟨g, cap, _, rfl, h2, h3, ?_, h5, ?_, ?_⟩
    · rw [List.length_append] at h4; omega
    · rw [List.size_toArray, flatE_len hk, h4]
    · show (flatE E (l ++ sp)).take (l.length * k) = flatE E l
      rw [flatE_append, ← flatE_len hk l]
      exact List.take_left
theorem OwnE.rows {α : Type} {E : α → List Value} {k : Nat} (hk : ∀ p, (E p).length = k) {T : TypeId} {w : World} {B : Nat} {v : Value} {l : List α} (h : OwnE E T w B v l) : Rows E k w v l := Rows.of_own hk (h.own hk) rfl

theorem zeroCells_flat {α : Type} {E : α → List Value} {k : Nat} (hk : ∀ p, (E p).length = k) (hk0 : 0 < k) (z : α) (n : Nat) : (Builtin.zeroCells (E z).toArray n).toList = flatE E (List.replicate n z) := by
  apply List.ext_getElem?
  intro j
  have hl : (flatE E (List.replicate n z)).length = n * k := by rw [flatE_len hk, List.length_replicate]
  have hs : (Builtin.zeroCells (E z).toArray n).toList.length = n * k := by simp [Builtin.zeroCells, hk]
  by_cases hj : j < n * k
  · have hd : j / k < n := Nat.div_lt_of_lt_mul (by rw [Nat.mul_comm]; exact hj)
    have hm : j % k < k := Nat.mod_lt _ hk0
    have e : j / k * k + j % k = j := by rw [Nat.mul_comm]; exact Nat.div_add_mod j k
    have := flatE_at hk (List.replicate n z) (j / k) z (by rw [List.getElem?_replicate]; simp [hd]) (j % k) hm
    rw [e] at this
    rw [this]
    have hm' : j % k < (E z).length := by rw [hk]; exact hm
    rw [List.getElem?_eq_getElem (by rw [hs]; exact hj), List.getElem?_eq_getElem hm']
    congr 1
    simp [Builtin.zeroCells, hk]
    rw [List.getElem?_eq_getElem hm']
    rfl
  · rw [List.getElem?_eq_none (by omega), List.getElem?_eq_none (by omega)]

section
variable {α : Type} {E : α → List Value} {k : Nat} {P : Program}
theorem run_append_E (hk : ∀ p, (E p).length = k) (hk0 : 0 < k) (h1 : ∀ p, ∀ u ∈ E p, u.oneCell' = true) (w : World) (B : Nat) (t ty e : TypeId) (i : TypeInfo) (z : Value) (z0 : α) (bytes : Nat) (ht : P.underlying t = some (.slice e)) (hi : P.info? e = some i) (hz : i.zero = some z)
    (hsize : i.size = k) (hby : i.bytes = bytes) (hzs : z.cells = (E z0).toArray)
    (v : Value) (l : List α) (hown : OwnE E e w B v l) (a : Addr) (m c : Nat) (news : List α) (hm : m = news.length) (hm0 : 0 < m ∨ v ≠ .slice none 0 0) (hnews : ∀ j u, (flatE E news)[j]? = some u → w.cell? (a.add j) = some u)
    (h63 : l.length + m ≤ maxLen) (hbytes : (l.length + m) * bytes ≤ 140737488355328) (hB : B ≤ w.heap.size) :
    ∃ v' w', (Builtin.append_ #[t, t] ty #[v, .slice (some a) m c]).run P w = .ok v' w' ∧ OwnE E e w' B v' (l ++ news) ∧ w.grownBy w' v.ownBlock := by
  subst hsize
  subst hby
  have hln : (flatE E news).length = m * i.size := by rw [flatE_len hk, hm]
  have ho : ∀ u ∈ flatE E news, u.oneCell' = true := flatE_one h1 news
  have hsz : z.cells.size = i.size := by rw [hzs, List.size_toArray, hk]
  have hgrown : ∀ old, OwnE E e (w.drew.alloc (.cells ((flatE E l).toArray ++ (flatE E news).toArray ++ Builtin.zeroCells z.cells (grownCap w (l.length + m) old e - (l.length + m))) e)) B (.slice (some ⟨w.heap.size, 0, none⟩) (l.length + m) (grownCap w (l.length + m) old e)) (l ++ news) := by
    intro old
    have hge := grownCap_ge w (l.length + m) old e
    have hcm : grownCap w (l.length + m) old e ≤ maxLen := grownCap_le_maxLen w (l.length + m) old e h63
    refine .inr ⟨w.heap.size, _, List.replicate (grownCap w (l.length + m) old e - (l.length + m)) z0, by rw [List.length_append, hm], hB, ?_, ?_, hcm⟩
    · have := heap_alloc_new w.drew (.cells ((flatE E l).toArray ++ (flatE E news).toArray ++ Builtin.zeroCells z.cells (grownCap w (l.length + m) old e - (l.length + m))) e)
      refine Eq.trans this ?_
      congr 2
      apply Array.ext'
      rw [Array.toList_append, Array.toList_append, hzs, zeroCells_flat hk hk0, flatE_append, flatE_append]
    · rw [List.length_append, List.length_append, List.length_replicate, ← hm]
      omega
  rcases hown with ⟨rfl, rfl⟩ | ⟨g, cap, sp, rfl, hbg, hg, hcap, hcm⟩
  · replace hm0 : 0 < m := hm0.elim id (fun h => absurd rfl h)
    have hr := run_append_nil (P := P) w t ty e i z ht hi hz a m c (flatE E news) hln hnews hm0 (by simp only [maxLen] at h63; omega) (by have hb := hbytes; simp only [List.length_nil, Nat.zero_add] at hb; omega)
    have := hgrown 0
    simp only [List.length_nil, Nat.zero_add, flatE_nil, Array.empty_append] at this
    exact ⟨_, _, hr, this, ⟨rfl, rfl, rfl, by simp, fun j hj _ => Go.heap_alloc_old w.drew _ hj⟩⟩
  · rw [List.length_append] at hcap
    by_cases hroom : l.length + m ≤ cap
    · have hcs : (flatE E (l ++ sp)).toArray.size = cap * i.size := by rw [List.size_toArray, flatE_len hk, List.length_append, hcap]
      have hr := run_append_room (P := P) w t ty e i ht hi g l.length cap (flatE E (l ++ sp)).toArray hg a m c (flatE E news) hln hnews ho hroom (by rw [hcs, hln, ← Nat.add_mul]; exact Nat.mul_le_mul_right _ hroom)
      refine ⟨_, _, hr, .inr ⟨g, cap, sp.drop m, by rw [List.length_append, hm], hbg, ?_, by rw [List.length_append, List.length_append, List.length_drop, ← hm]; omega, hcm⟩, ⟨rfl, rfl, rfl, by simp, fun k _ hk => setRow_other w g k _ (fun e => hk (by simp [Value.ownBlock, e]))⟩⟩
      refine Eq.trans (setRow_heap w g _ _ e _ hg) ?_
      congr 3
      have e1 : (flatE E (l ++ sp)).take (l.length * i.size) = flatE E l := by
        rw [flatE_append, ← flatE_len hk l]
        exact List.take_left
      have e2 : (flatE E (l ++ sp)).drop (l.length * i.size + (flatE E news).length) = flatE E (sp.drop m) := by
        have : l ++ sp = (l ++ sp.take m) ++ sp.drop m := by rw [List.append_assoc, List.take_append_drop]
        rw [this, flatE_append, hln, ← Nat.add_mul]
        have hl2 : (l.length + m) * i.size = (flatE E (l ++ sp.take m)).length := by
          rw [flatE_len hk, List.length_append, List.length_take, Nat.min_eq_left (by omega)]
        rw [hl2]
        exact List.drop_left
      rw [e1, e2, flatE_append, flatE_append]
    · have holds : ∀ j u, (flatE E l)[j]? = some u → w.cell? ((⟨g, 0, none⟩ : Addr).add j) = some u := (OwnE.own hk (.inr ⟨g, cap, sp, rfl, hbg, hg, by rw [List.length_append]; exact hcap, hcm⟩ : OwnE E e w B _ l)).cells (g := g) rfl
      have hr := run_append_grow (P := P) w t ty e i z ht hi hz ⟨g, 0, none⟩ l.length cap (flatE E l) (flatE_len hk l) holds a m c (flatE E news) hln hnews (by omega) (by simp only [maxLen] at h63; omega) (growslice_fits (by omega) hbytes)
      exact ⟨_, _, hr, hgrown cap, ⟨rfl, rfl, rfl, by simp, fun j hj _ => Go.heap_alloc_old w.drew _ hj⟩⟩

theorem wp_append_E (hk : ∀ p, (E p).length = k) (hk0 : 0 < k) (h1 : ∀ p, ∀ u ∈ E p, u.oneCell' = true) {o : Oper} {a : Act} {w : World} {K : Act → World → Prop} {Q : Exit → Act → World → Prop} (s x : Operand) (t : TypeId)
    (ho : o.op = .call { callee := .builtin .append, args := #[s, x], argTypes := #[t, t] })
    (B : Nat) (e : TypeId) (i : TypeInfo) (z : Value) (z0 : α) (bytes : Nat) (ht : P.underlying t = some (.slice e)) (hi : P.info? e = some i) (hz : i.zero = some z)
    (hsize : i.size = k) (hby : i.bytes = bytes) (hzs : z.cells = (E z0).toArray)
    (v : Value) (l : List α) (hs : a.eval s = v) (hown : OwnE E e w B v l) (ad : Addr) (m c : Nat) (news : List α) (hx : a.eval x = .slice (some ad) m c) (hm : m = news.length) (hm0 : 0 < m ∨ v ≠ .slice none 0 0) (hnews : ∀ j u, (flatE E news)[j]? = some u → w.cell? (ad.add j) = some u)
    (h63 : l.length + m ≤ maxLen) (hbytes : (l.length + m) * bytes ≤ 140737488355328) (hB : B ≤ w.heap.size)
    (h : ∀ v' w', OwnE E e w' B v' (l ++ news) → w.grownBy w' v.ownBlock → K (a.put o.dst v') w') : o.wp P a w K Q := by
  obtain ⟨v', w', hr, h2, h3⟩ := run_append_E (P := P) hk hk0 h1 w B t o.type e i z z0 bytes ht hi hz hsize hby hzs v l hown ad m c news hm hm0 hnews h63 hbytes hB
  unfold Oper.wp execOp
  simp only [ho, resolve, invoke, builtin, Sem.run_bind, Sem.run_pure, Result.andThen_ok, List.map_toArray, List.map_cons, List.map_nil, hs, hx, hr]
  exact h v' w' h2 h3
end

/-- What lies in memory stays when an own row of other elements grows. -/
theorem Rows.grown {α β : Type} {E : α → List Value} {k : Nat} {E' : β → List Value} {w w' : World} {v : Value} {l : List α} (h : Rows E k w v l) {T : TypeId} {B : Nat} {v' : Value} {l' : List β} (hown : OwnE E' T w B v' l') (hg : w.grownBy w' v'.ownBlock)
    (hn : ∀ (ll : List β) (o : Nat) (p : α), (∀ (i : Nat) (u : Value), (E p)[i]? = some u → (flatE E' ll)[o + i]? = some u) → False) : Rows E k w' v l := by
  obtain ⟨a, c, rfl, hc, h⟩ := h
  refine ⟨a, c, rfl, hc, ?_⟩
  rcases h with h | ⟨b, o, ha, hlt, hx⟩
  · exact .inl h
  · cases l with
    | nil => exact .inl rfl
    | cons p r =>
      have hb : some b ≠ v'.ownBlock := by
        intro hb
        rcases hown with ⟨rfl, -⟩ | ⟨g, cap, sp, rfl, -, h3, -⟩
        · simp [Value.ownBlock] at hb
        · simp [Value.ownBlock] at hb
          subst hb
          refine hn (l' ++ sp) (o + 0 * k) p (fun i u hi => ?_)
          have := hx 0 p rfl i u hi
          have hcell : w.cell? ⟨b, o + 0 * k + i, none⟩ = (flatE E' (l' ++ sp)).toArray[o + 0 * k + i]? := by simp [World.cell?, h3]
          rw [hcell] at this
          simpa using this
      exact .inr ⟨b, o, ha, Nat.lt_of_lt_of_le hlt hg.size, fun j q hj i u hi => (World.cell?_of_block (a := ⟨b, o + j * k + i, none⟩) (hg.block b hlt hb)).trans (hx j q hj i u hi)⟩
/-- A cell of a row of elements. -/
theorem flat_cell {α : Type} {E : α → List Value} {k : Nat} (hk : ∀ p, (E p).length = k) (hk0 : 0 < k) {l : List α} {o : Nat} {u : Value} (h : (flatE E l)[o]? = some u) : ∃ p, (E p)[o % k]? = some u := by
  have ho : o < l.length * k := by have := (List.getElem?_eq_some_iff.1 h).1; rwa [flatE_len hk] at this
  have hd : o / k < l.length := Nat.div_lt_of_lt_mul (by rw [Nat.mul_comm]; exact ho)
  have hm : o % k < k := Nat.mod_lt _ hk0
  have e : o / k * k + o % k = o := by rw [Nat.mul_comm]; exact Nat.div_add_mod o k
  have := flatE_at hk l (o / k) l[o / k] (List.getElem?_eq_getElem hd) (o % k) hm
  rw [e, h] at this
  exact ⟨_, this.symm⟩
theorem sub_not_fld (ll : List Fld) (o : Nat) (p : Nat × ByteArray) (h : ∀ i u, (subE p)[i]? = some u → (flatE fldE ll)[o + i]? = some u) : False := by
  obtain ⟨f, hf⟩ := flat_cell fldE_len (by decide) (h 0 _ rfl)
  have hm : (o + 0) % 4 < 4 := Nat.mod_lt _ (by decide)
  rcases (by omega : (o + 0) % 4 = 0 ∨ (o + 0) % 4 = 1 ∨ (o + 0) % 4 = 2 ∨ (o + 0) % 4 = 3) with e | e | e | e <;> (rw [e] at hf; cases hf)
end Go.Proofs.YtkfjeolpbopcnaaGreatDoor
