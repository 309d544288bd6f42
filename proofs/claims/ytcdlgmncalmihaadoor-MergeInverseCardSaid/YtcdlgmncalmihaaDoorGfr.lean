/- Two records with rules: the walk of fair, and what it gives (layer 16). -/
import Derived.Test.YtcdlgmncalmihaaDoorGan
namespace Go.Proofs.YtcdlgmncalmihaaDoor
open Go Go.RowKit

/-- Two records and rules, as one value. -/
def pairV (x y : Rcd) (vk : Value) : Value := .agg #[.int .i64 x.r.id, .int .i64 x.r.ver, .int .i64 x.r.kind, .string x.r.lang, .slice x.sa x.r.fields.length x.sc, .int .i64 y.r.id, .int .i64 y.r.ver, .int .i64 y.r.kind, .string y.r.lang, .slice y.sa y.r.fields.length y.sc, vk]
def fairB (x y : Rcd) (keeps : List (ByteArray × Int)) : Bool := littleR x.r && littleR y.r && decide (keeps.length ≤ 40)
abbrev pairO (id ver kind : Int) (lang : ByteArray) (xa : Option Addr) (xn xc : Nat) (id2 ver2 kind2 : Int) (lang2 : ByteArray) (ya : Option Addr) (yn yc : Nat) (vk : Value) : Obj := .cells #[.int .i64 id, .int .i64 ver, .int .i64 kind, .string lang, .slice xa xn xc, .int .i64 id2, .int .i64 ver2, .int .i64 kind2, .string lang2, .slice ya yn yc, vk] 33 (0, 0)

set_option maxRecDepth 100000 in
set_option maxHeartbeats 2000000 in
theorem lFair (x y : Rcd) (vk : Value) (keeps : List (ByteArray × Int)) (w : World) (hx : RcdAt w x) (hy : RcdAt w y) (hk : Keeps w vk keeps) :
    Calls Tryd.prog 12 #[pairV x y vk] w fun e w' => e = .returned (.bool (fairB x y keeps)) ∧ Below w.heap.size w w' := by
  have HSX : Hid (∀ W, Below w.heap.size w W → Calls Tryd.prog 25 #[recV5 x] W fun e w' => e = .returned (.bool (littleR x.r)) ∧ Below W.heap.size W w') := Lib.hid (fun W h => lSmall x W (hx.below h (Nat.le_refl _)))
  have HSY : Hid (∀ W, Below w.heap.size w W → Calls Tryd.prog 25 #[recV5 y] W fun e w' => e = .returned (.bool (littleR y.r)) ∧ Below W.heap.size W w') := Lib.hid (fun W h => lSmall y W (hy.below h (Nat.le_refl _)))
  obtain ⟨ka, kc, rfl, -⟩ := hk.shape
  obtain ⟨R, hR⟩ : ∃ R, R = fairB x y keeps := ⟨_, rfl⟩
  rw [← hR]
  unfold fairB at hR
  unfold pairV
  unfold recV5 at HSX HSY
  obtain ⟨bx, hbx⟩ : ∃ b, b = littleR x.r := ⟨_, rfl⟩
  obtain ⟨by_, hby⟩ : ∃ b, b = littleR y.r := ⟨_, rfl⟩
  rw [← hbx] at HSX hR
  rw [← hby] at HSY hR
  obtain ⟨⟨id, ver, kind, lang, xf⟩, xa, xc⟩ := x
  obtain ⟨⟨id2, ver2, kind2, lang2, yf⟩, ya, yc⟩ := y
  simp only at HSX HSY ⊢
  obtain ⟨xn, hxn⟩ : ∃ n, n = xf.length := ⟨_, rfl⟩
  obtain ⟨yn, hyn⟩ : ∃ n, n = yf.length := ⟨_, rfl⟩
  obtain ⟨kn, hkn⟩ : ∃ n, n = keeps.length := ⟨_, rfl⟩
  rw [← hxn] at HSX ⊢
  rw [← hyn] at HSY ⊢
  rw [← hkn] at hR ⊢
  have HR := Lib.hid hR
  clear hR hx hy hk hbx hby hxn hyn hkn
  have HB0 : Hid (Below w.heap.size w (w.alloc (pairO id ver kind lang xa xn xc id2 ver2 kind2 lang2 ya yn yc (.slice ka kn kc)))) := Lib.hid ((Below.refl _ _).alloc (Nat.le_refl _) _)
  have HCE : Hid (∀ W, Below (w.alloc (pairO id ver kind lang xa xn xc id2 ver2 kind2 lang2 ya yn yc (.slice ka kn kc))).heap.size (w.alloc (pairO id ver kind lang xa xn xc id2 ver2 kind2 lang2 ya yn yc (.slice ka kn kc))) W → W.heap[w.heap.size]? = some (pairO id ver kind lang xa xn xc id2 ver2 kind2 lang2 ya yn yc (.slice ka kn kc))) := Lib.hid (fun W h => (h.block _ (by simp)).trans (alloc_at rfl))
  go_enter Tryd.func12, Tryd.ntmps12
  go_wp2_with fail
  refine (HSX.out _ HB0.out).mono ?_
  rintro e w1 ⟨rfl, b1⟩
  have HC1 := Lib.hid b1
  have HB1 := Lib.hid (HB0.out.bt b1)
  have q := HCE.out w1 b1
  clear b1
  cases bx with
  | false =>
    clear q
    go_wp2
    go_ret
    exact ⟨by rw [HR.out]; rfl, HB1.out⟩
  | true =>
    have c5 := Lib.cell_of_heap q 5
    have c6 := Lib.cell_of_heap q 6
    have c7 := Lib.cell_of_heap q 7
    have c8 := Lib.cell_of_heap q 8
    have c9 := Lib.cell_of_heap q 9
    clear q
    go_wp2_with fail
    refine (HSY.out _ HB1.out).mono ?_
    rintro e w2 ⟨rfl, b2⟩
    have HB2 := Lib.hid (HB1.out.bt b2)
    have q := HCE.out w2 (HC1.out.bt b2)
    clear b2 c5 c6 c7 c8 c9
    cases by_ with
    | false =>
      clear q
      go_wp2
      go_ret
      exact ⟨by rw [HR.out]; rfl, HB2.out⟩
    | true =>
      have c10 := Lib.cell_of_heap q 10
      clear q
      have e : decide (kn ≤ 40) = decide ((kn : Int) ≤ 40) := decide_eq_decide.2 (by omega)
      have HE := Lib.hid e
      clear e
      go_wp2
      go_ret
      exact ⟨by rw [HR.out, HE.out, Bool.true_and, Bool.true_and]; rfl, HB2.out⟩

theorem little_small {r : Rec} (h : littleR r = true) (hq : ∀ f ∈ r.fields, ∀ s ∈ f.subs, s.1 < 256) : r.small ∧ r.fields.length ≤ 20 ∧ ∀ f ∈ r.fields, f.subs.length ≤ 20 := by
  unfold littleR at h
  simp only [Bool.and_eq_true, decide_eq_true_eq] at h
  obtain ⟨⟨h1, -⟩, h3⟩ := h
  have h4 : ∀ f ∈ r.fields, littleF f = true := List.all_eq_true.1 h3
  have h5 : ∀ f ∈ r.fields, f.subs.length ≤ 20 ∧ ∀ s ∈ f.subs, s.2.size ≤ 300 := fun f hf => by
    have := h4 f hf
    unfold littleF at this
    simp only [Bool.and_eq_true, decide_eq_true_eq] at this
    exact ⟨this.1.1.1, fun s hs => by simpa using List.all_eq_true.1 this.2 s hs⟩
  refine ⟨⟨by omega, fun f hf => ⟨by have := (h5 f hf).1; omega, fun s hs => by have := (h5 f hf).2 s hs; omega, hq f hf⟩⟩, h1, fun f hf => (h5 f hf).1⟩
theorem fair_split {x y : Rcd} {keeps : List (ByteArray × Int)} (h : fairB x y keeps = true) : littleR x.r = true ∧ littleR y.r = true ∧ keeps.length ≤ 40 := by
  unfold fairB at h
  simp only [Bool.and_eq_true, decide_eq_true_eq] at h
  exact ⟨h.1.1, h.1.2, h.2⟩
theorem mergeGo_tlen (keeps : List (ByteArray × Int)) (into : List Fld) : ∀ (l : List Fld) (k : Nat) (fs : List Fld) (ts : List Int), (mergeGo keeps into l k fs ts).2.length ≤ ts.length + l.length
  | [], _, fs, ts => by simp [mergeGo]
  | f :: l, k, fs, ts => by
    unfold mergeGo
    split
    · have := mergeGo_tlen keeps into l (k + 1) (fs ++ [f]) (ts ++ [(k : Int)])
      simp only [List.length_append, List.length_cons, List.length_nil] at this ⊢
      omega
    · have := mergeGo_tlen keeps into l (k + 1) fs ts
      simp only [List.length_cons]
      omega
theorem mergeP_small {x y : Rcd} {keeps : List (ByteArray × Int)} (hx : x.r.small) (hy : y.r.small) (lx : x.r.fields.length ≤ 20) (ly : y.r.fields.length ≤ 20) : (mergeP x y keeps).1.small ∧ (mergeP x y keeps).2.1.frm.r.small ∧ (mergeP x y keeps).2.1.taken.length ≤ 20 ∧ (mergeP x y keeps).1.fields.length ≤ 40 := by
  have h0 : rec0.small := ⟨Nat.zero_le _, fun f hf => by cases hf⟩
  unfold mergeP
  split
  · exact ⟨h0, h0, Nat.zero_le _, Nat.zero_le _⟩
  · split
    · exact ⟨h0, h0, Nat.zero_le _, Nat.zero_le _⟩
    · have h1 := mergeGo_len keeps x.r.fields y.r.fields 0 x.r.fields []
      have h2 := mergeGo_tlen keeps x.r.fields y.r.fields 0 x.r.fields []
      simp only [List.length_nil] at h2
      refine ⟨⟨by simp only; omega, fun f hf => ?_⟩, hy, by simp only; omega, by simp only; omega⟩
      rcases mergeGo_mem keeps x.r.fields y.r.fields 0 x.r.fields [] f hf with h | h
      · exact hx.2 f h
      · exact hy.2 f h
end Go.Proofs.YtcdlgmncalmihaaDoor
