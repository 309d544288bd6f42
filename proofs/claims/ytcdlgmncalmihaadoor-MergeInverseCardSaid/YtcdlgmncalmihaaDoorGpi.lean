/- Plain: splitting a merged record to which a field has been appended (layer 16). -/
import Derived.Test.YtcdlgmncalmihaaDoorGpq
namespace Go.Proofs.YtcdlgmncalmihaaDoor
open Go Go.RowKit

/-- The taken fields and their indices. -/
theorem mergeGo_ns (keeps : List (ByteArray × Int)) (into : List Fld) : ∀ (l : List Fld) (k : Nat) (fs : List Fld) (ts : List Int), ∃ (t : List Fld) (ns : List Nat), mergeGo keeps into l k fs ts = (fs ++ t, ts ++ ns.map (fun (n : Nat) => (n : Int))) ∧ ns.length = t.length ∧ ns.Pairwise (· < ·) ∧ (∀ n ∈ ns, k ≤ n ∧ n < k + l.length) ∧ ∀ (j n : Nat) (f : Fld), ns[j]? = some n → t[j]? = some f → l[n - k]? = some f
  | [], _, fs, ts => ⟨[], [], by simp [mergeGo], rfl, List.Pairwise.nil, by simp, by simp⟩
  | e :: l, k, fs, ts => by
    unfold mergeGo
    split
    · obtain ⟨t, ns, h1, h2, h3, h4, h5⟩ := mergeGo_ns keeps into l (k + 1) (fs ++ [e]) (ts ++ [(k : Int)])
      refine ⟨e :: t, k :: ns, by rw [h1]; simp, by simp [h2], List.pairwise_cons.2 ⟨fun n hn => by have := (h4 n hn).1; omega, h3⟩, ?_, ?_⟩
      · intro n hn
        rcases List.mem_cons.1 hn with rfl | hn
        · simp only [List.length_cons]; omega
        · have := h4 n hn
          simp only [List.length_cons]
          omega
      · intro j n f hj hf
        cases j with
        | zero =>
          simp only [List.getElem?_cons_zero, Option.some.injEq] at hj hf
          subst hj; subst hf
          simp
        | succ j =>
          simp only [List.getElem?_cons_succ] at hj hf
          have hg := (h4 n (List.mem_of_getElem? hj)).1
          have := h5 j n f hj hf
          rw [show n - k = (n - (k + 1)) + 1 by omega, List.getElem?_cons_succ]
          exact this
    · obtain ⟨t, ns, h1, h2, h3, h4, h5⟩ := mergeGo_ns keeps into l (k + 1) fs ts
      refine ⟨t, ns, h1, h2, h3, ?_, ?_⟩
      · intro n hn
        have := h4 n hn
        simp only [List.length_cons]
        omega
      · intro j n f hj hf
        have hg := (h4 n (List.mem_of_getElem? hj)).1
        have := h5 j n f hj hf
        rw [show n - k = (n - (k + 1)) + 1 by omega, List.getElem?_cons_succ]
        exact this
/-- Each taken field is taken out again, whatever stands behind that is equal to none of them. -/
theorem parts_back (f : Fld) : ∀ (tr : List Fld) (xf : List Fld), (∀ t ∈ tr, sameF t f = false) → Parts tr (xf ++ tr.reverse ++ [f]) (xf ++ [f])
  | [], xf, _ => by simpa using Parts.nil (xf ++ [f])
  | t :: tr, xf, h => by
    have e : xf ++ (t :: tr).reverse ++ [f] = (xf ++ tr.reverse) ++ t :: [f] := by simp
    rw [e]
    refine Parts.cons (sameF_refl t) (fun y hy => ?_) (parts_back f tr xf (fun s hs => h s (List.mem_cons_of_mem _ hs)))
    cases List.mem_singleton.1 hy
    rw [sameF_symm]
    exact h t List.mem_cons_self
/-- What the law asks of the plain merging. -/
theorem inverse_plain {x y : Rcd} {keeps : List (ByteArray × Int)} {R : Rec} {P : Part} (hM : (R, P, (0 : Int)) = mergeP x y keeps) : ∃ t, R = ⟨x.r.id, x.r.ver, x.r.kind, x.r.lang, x.r.fields ++ t⟩ ∧ P.into = x.r.id ∧ P.frm = y ∧ P.taken.length = t.length ∧ PartOk P ∧ (∀ (k : Nat) (i : Int) (f : Fld), P.taken[k]? = some i → t[k]? = some f → y.r.fields[i.toNat]? = some f) ∧ ∀ f ∈ t, f ∈ y.r.fields := by
  have h0 : (mergeP x y keeps).2.2 = 0 := by rw [← hM]
  obtain ⟨h1, -, h3⟩ := mergeP_ok h0
  obtain ⟨e1, e2, e3, e4, e5, e6⟩ := mergeErr_ok h1
  obtain ⟨t, ns, n1, n2, n3, n4, n5⟩ := mergeGo_ns keeps x.r.fields y.r.fields 0 x.r.fields []
  rw [n1] at h3
  simp only [List.nil_append] at h3
  rw [h3] at hM
  cases hM
  obtain ⟨⟨x1, x2⟩, -, -, -, -, -⟩ := recErr_ok e1
  refine ⟨t, rfl, rfl, rfl, by simpa using n2, ⟨by show 1 ≤ x.r.id; omega, x2, e2, e4, fun h => e5 h.symm, ?_, ?_⟩, ?_, ?_⟩
  · intro i hi
    obtain ⟨n, hn, rfl⟩ := List.mem_map.1 hi
    have := n4 n hn
    exact ⟨by omega, by show (n : Int) < (y.r.fields.length : Int); omega⟩
  · intro k i j hi hj
    simp only [List.getElem?_map, Option.map_eq_some_iff] at hi hj
    obtain ⟨a, ha, rfl⟩ := hi
    obtain ⟨b, hb, rfl⟩ := hj
    obtain ⟨ka, rfl⟩ := List.getElem?_eq_some_iff.1 ha
    obtain ⟨kb, rfl⟩ := List.getElem?_eq_some_iff.1 hb
    have := List.pairwise_iff_getElem.1 n3 k (k + 1) ka kb (by omega)
    omega
  · intro k i f hi hf
    simp only [List.getElem?_map, Option.map_eq_some_iff] at hi
    obtain ⟨a, ha, rfl⟩ := hi
    have := n5 k a f ha hf
    simpa using this
  · intro f hf
    obtain ⟨j, hj, rfl⟩ := List.getElem_of_mem hf
    have hn : j < ns.length := by omega
    exact List.mem_of_getElem? (n5 j ns[j] t[j] (List.getElem?_eq_getElem hn) (List.getElem?_eq_getElem hj))
theorem mergeP_bad {x y : Rcd} {keeps : List (ByteArray × Int)} {R : Rec} {P : Part} {err : Int} (hM : (R, P, err) = mergeP x y keeps) (h : err ≠ 0) : R = rec0 ∧ P = part0 := by
  unfold mergeP at hM
  split at hM
  · cases hM; exact ⟨rfl, rfl⟩
  · split at hM
    · cases hM; exact ⟨rfl, rfl⟩
    · cases hM; exact absurd rfl h
end Go.Proofs.YtcdlgmncalmihaaDoor
