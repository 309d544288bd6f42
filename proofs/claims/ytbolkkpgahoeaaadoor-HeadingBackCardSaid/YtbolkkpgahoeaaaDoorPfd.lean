/- The walk of package text's Fold. -/
import Derived.Test.YtbolkkpgahoeaaaDoorEnv
import Derived.Test.YtbolkkpgahoeaaaDoorShelf
import Derived.Test.YtbolkkpgahoeaaaDoorBws
import Derived.Test.YtbolkkpgahoeaaaDoorBwr
import Derived.Test.YtbolkkpgahoeaaaDoorBse
namespace Go.Proofs.YtbolkkpgahoeaaaDoor
open Go Go.RowKit

/-- The program's list of replacements, from U+00C0 on. -/
def accL : List UInt8 :=
  ([97, 44, 97, 44, 97, 44, 97, 44, 97, 44, 97, 44, 97, 101, 44, 99, 44, 101, 44, 101, 44, 101, 44, 101, 44, 105, 44, 105, 44, 105, 44, 105].append [44, 100, 44, 110, 44, 111, 44, 111, 44, 111, 44, 111, 44, 111, 44, 44, 111, 44, 117, 44, 117, 44, 117, 44, 117, 44, 121, 44, 116, 104, 44, 115, 115]).append ([44, 97, 44, 97, 44, 97, 44, 97, 44, 97, 44, 97, 44, 97, 101, 44, 99, 44, 101, 44, 101, 44, 101, 44, 101, 44, 105, 44, 105, 44, 105, 44].append [105, 44, 100, 44, 110, 44, 111, 44, 111, 44, 111, 44, 111, 44, 111, 44, 44, 111, 44, 117, 44, 117, 44, 117, 44, 117, 44, 121, 44, 116, 104, 44, 121])
def accB : ByteArray := ⟨accL.toArray⟩
def tbl : List (List Nat) :=
  [[97], [97], [97], [97], [97], [97], [97, 101], [99], [101], [101], [101], [101], [105], [105], [105], [105], [100], [110], [111], [111], [111], [111], [111], [], [111], [117], [117], [117], [117], [121], [116, 104], [115, 115],
   [97], [97], [97], [97], [97], [97], [97, 101], [99], [101], [101], [101], [101], [105], [105], [105], [105], [100], [110], [111], [111], [111], [111], [111], [], [111], [117], [117], [117], [117], [121], [116, 104], [121]]
set_option maxRecDepth 1000000 in
theorem acc_count : Lib.countB accB ⟨#[44]⟩ = 63 := by decide +kernel
set_option maxRecDepth 1000000 in
theorem acc_splitK : Lib.splitK [44] 0 63 accL = tbl.map enc := by decide +kernel
theorem of_data : ∀ (l : List ByteArray) (t : List (List Nat)), l.map (·.data.toList) = t.map enc → l = t.map bs
  | [], [], _ => rfl
  | [], _ :: _, h => by simp at h
  | _ :: _, [], h => by simp at h
  | a :: l, x :: t, h => by
    simp only [List.map_cons, List.cons.injEq] at h
    rw [List.map_cons, of_data l t h.2, ba_of_list a _ h.1]; rfl
theorem acc_split : Lib.splitB ⟨#[44]⟩ 0 63 accB = tbl.map bs := by
  apply of_data
  rw [Lib.splitB_data]
  exact acc_splitK
theorem acc_size : accB.size < 4294967281 := by decide +kernel
set_option maxRecDepth 100000 in
theorem tbl_fold : ∀ x : Fin 64, foldc (x.val + 192) = if tbl.getD x.val [] = [] then [x.val + 192] else tbl.getD x.val [] := by decide
theorem tbl_len : tbl.length = 64 := rfl
theorem split_acc (w : World) (hE : Env w) :
    Calls Tryd.prog 30 #[.string accB, .string ⟨#[44]⟩] w fun e w' => e = .returned (.slice (some ⟨w.heap.size, 0, none⟩) 64 64) ∧ w' = w.alloc (.cells ((tbl.map bs).map Value.string).toArray 9) := by
  obtain ⟨m, hm⟩ := hE.max
  have := Tryd.strings_Split accB ⟨#[44]⟩ m w acc_size hm (by decide)
  rw [acc_count, acc_split] at this
  exact this
theorem cells_rune (p : List Nat) (c : Nat) (h : okc c = true) : Lib.byteCells (enc p) ++ Lib.runeCells (c : Int) = Lib.byteCells (enc (p ++ [c])) := by
  rw [← Lib.byteCells_encodeRune, encodeRune_ok c h, ← Lib.byteCells_append, enc_append]
  simp [enc]
theorem cells_str (p q : List Nat) : Lib.byteCells (enc p) ++ Lib.strCells (bs q) = Lib.byteCells (enc (p ++ q)) := by
  rw [enc_append, Lib.byteCells_append]
  congr 1
set_option maxRecDepth 100000 in
set_option maxHeartbeats 4000000 in
theorem pFold (cs : List Nat) (w : World) (hE : Env w) (hok : okt cs = true) (hs : (bs cs).size ≤ 4000000000) :
    Calls Tryd.prog 50 #[.string (bs cs)] w fun e w' => e = .returned (.string (bs (fold cs))) ∧ Below w.heap.size w w' := by
  obtain ⟨A, hA⟩ : ∃ A, A = fold cs := ⟨_, rfl⟩
  rw [← hA]
  have HA := Lib.hid hA; clear hA
  go_enter Tryd.func50, Tryd.ntmps50
  go_wp2_with (go_at_call 30; refine (split_acc _ hE).mono ?_)
  rintro e w1 ⟨rfl, rfl⟩
  obtain ⟨T, hT⟩ : ∃ T : Array Value, T = ((tbl.map bs).map Value.string).toArray := ⟨_, rfl⟩
  rw [← hT]
  have HT := Lib.hid hT
  clear hT
  have hcellT : ∀ (j : Nat) (x : List Nat), tbl[j]? = some x → T[j]? = some (Value.string (bs x)) := by
    intro j x hx
    rw [HT.out, List.getElem?_toArray, List.getElem?_map, List.getElem?_map, hx]; rfl
  have HC := Lib.hid hcellT
  clear hcellT
  obtain ⟨w1, hw1⟩ : ∃ w1, w1 = w.alloc (.cells T 9) := ⟨_, rfl⟩
  have hw1s : w1.heap.size = w.heap.size + 1 := by rw [hw1]; simp
  have hb1 : Below w.heap.size w w1 := by rw [hw1]; exact (Below.refl _ _).alloc (Nat.le_refl _) _
  have hT1 : ∀ (j : Nat) (x : List Nat), tbl[j]? = some x → w1.cell? ⟨w.heap.size, j, none⟩ = some (.string (bs x)) := by
    intro j x hx
    rw [hw1, Lib.cell_of_heap (heap_alloc_new w _)]
    exact HC.out j x hx
  have HT1 := Lib.hid hT1
  clear hT1
  have HW1 := Lib.hid hw1
  have HW1S := Lib.hid hw1s
  go_wp2
  rw [show w.alloc (.cells T 9) = w1 from HW1.out.symm, show w.heap.size + 1 = w1.heap.size from HW1S.out.symm]
  clear hw1 hw1s
  go_loopw [] (fun wr => ∃ (k : Nat) (r p : List Nat), At cs k r ∧ Hid (A = p ++ fold r) ∧ (bs p).size ≤ k ∧ IsB w1.heap.size w1.heap.size (Lib.byteCells (enc p)) wr ∧ wr.heap[w1.heap.size + 1]? = some (.stringIter (bs cs) k) ∧ Below w1.heap.size w1 wr) (fun wr => (bs cs).size - wr.iterPos (w1.heap.size + 1))
  case atStart =>
    refine ⟨0, cs, [], At.start cs, HA, by rw [bs_size, enc_nil]; simp, (Lib.IsBuilderF.of (Lib.fresh_isBuilder 53 5 w1)).alloc _, ?_, ((Below.refl _ w1).alloc (Nat.le_refl _) _).alloc (by simp) _⟩
    have := World.iter_heap (w1.alloc (.cells #[.pointer none, .slice none 0 0] 53)) (bs cs) 0
    simpa using this
  case round =>
    obtain ⟨k, r, p, hat, HM, hp, hI, hit, hbw⟩ := hrel
    have hsz : w1.heap.size + 1 < wr.heap.size := lt_of_block hit
    have hlen := Lib.byteCells_length (enc p)
    have HLEN := Lib.hid hlen
    have hkk := hat.le
    have hbk : k ≤ (bs cs).size := by omega
    have hpe : (Lib.byteCells (enc p)).length ≤ 4000000000 := by rw [hlen, ← bs_size]; omega
    clear hlen hkk HA
    cases r with
    | nil =>
      have hnx := fun ty => next_end_at wr (w1.heap.size + 1) hit hat ty
      have H : Hid (A = p) := Lib.hid (by rw [HM.out]; simp [fold])
      clear HM
      go_wp2_with (go_at_call 54; refine (Tryd.Builder_String_any_k w1.heap.size w1.heap.size (enc p) _ hI (by omega)).mono ?_)
      rintro e w2 ⟨rfl, _, b1, _⟩
      go_wp2
      go_ret
      refine ⟨by rw [H.out]; rfl, ?_⟩
      exact hb1.trans ((hbw.trans b1).mono hb1.size)
    | cons c r =>
      obtain ⟨h1, h2⟩ := hat.lt
      have h3 := enc1_len c
      have hc := hat.okc hok
      obtain ⟨hc1, hc2⟩ := okc_small hc
      have hfo := foldc_okc c hc
      have HM2 : Hid (A = (p ++ foldc c) ++ fold r) := Lib.hid (by rw [HM.out, List.append_assoc]; rfl)
      clear HM
      have hnx := fun ty => next_char_at wr (w1.heap.size + 1) hit hat hok ty
      have hI2 := hI.iterAt hit (k + (enc1 c).length)
      have hit2 := Lib.iterAt_heap wr (w1.heap.size + 1) (bs cs) k (k + (enc1 c).length) hit
      have hbw2 := Lib.below_iterAt hbw (k := w1.heap.size + 1) (by omega) (bs cs) (k + (enc1 c).length)
      have hsz2 : w1.heap.size ≤ (wr.iterAt (w1.heap.size + 1) (bs cs) (k + (enc1 c).length)).heap.size := by rw [Lib.iterAt_size]; omega
      have HIT := Lib.hid hit
      have HIT2 := Lib.hid hit2
      have HOK := Lib.hid hc
      clear hit hit2 hI hc
      have hfe := foldc_enc c HOK.out
      by_cases ha : 65 ≤ c ∧ c ≤ 90
      · obtain ⟨ha1, ha2⟩ := ha
        have hf : foldc c = [c + 32] := by unfold foldc; rw [if_pos ⟨ha1, ha2⟩]
        have HF := Lib.hid hf
        clear hf
        go_wp2_with (go_at_call 65; refine (writeRune_any w1.heap.size w1.heap.size _ _ (by omega) (by omega) _ hI2 (by omega) hsz2).mono ?_; rintro e w2 ⟨rfl, g1, b1, k1⟩)
        go_roundw
        case rel =>
          refine ⟨k + (enc1 c).length, r, p ++ foldc c, hat.next, HM2, ?_, ?_, k1.iter HIT2.out (by omega), hbw2.trans b1⟩
          · rw [bs_size, enc_append, List.length_append]; rw [bs_size] at hp; omega
          · rw [HF.out, ← cells_rune p (c + 32) (hfo _ (by rw [HF.out]; simp))]
            have e : (c : Int) + 97 - 65 = ((c + 32 : Nat) : Int) := by omega
            rw [← e]
            exact .inr g1
        case measure =>
          simp only [World.iterPos, k1.iter HIT2.out (by omega), HIT.out]
          omega
      · by_cases hd : 192 ≤ c ∧ c ≤ 255
        · obtain ⟨hd1, hd2⟩ := hd
          have htf := tbl_fold ⟨c - 192, by omega⟩
          simp only at htf
          rw [show c - 192 + 192 = c by omega] at htf
          have htl : c - 192 < tbl.length := by rw [tbl_len]; omega
          obtain ⟨x, hx⟩ : ∃ x, tbl[c - 192]? = some x := ⟨_, List.getElem?_eq_getElem htl⟩
          have hgd : tbl.getD (c - 192) [] = x := by rw [List.getD_eq_getElem?_getD, hx]; rfl
          rw [hgd] at htf
          have hc3 : (wr.iterAt (w1.heap.size + 1) (bs cs) (k + (enc1 c).length)).cell? ⟨w.heap.size, c - 192, none⟩ = some (.string (bs x)) :=
            (hbw2.cell (p := ⟨w.heap.size, c - 192, none⟩) (by have := HW1S.out; simp; omega)).trans (HT1.out _ _ hx)
          have ht1 : ¬ (c : Int) ≤ 90 := by omega
          clear hgd htl hx ha
          by_cases hx0 : x = []
          · rw [if_pos hx0] at htf
            have he : (bs x).toList.isEmpty = true := by rw [hx0, ByteArray.toList_eq, bs_data]; rfl
            have HF := Lib.hid htf
            clear htf hx0
            go_wp2_with (go_at_call 65; refine (writeRune_any w1.heap.size w1.heap.size _ _ (by omega) (by omega) _ hI2 (by omega) hsz2).mono ?_; rintro e w2 ⟨rfl, g1, b1, k1⟩)
            go_roundw
            case rel =>
              refine ⟨k + (enc1 c).length, r, p ++ foldc c, hat.next, HM2, ?_, ?_, k1.iter HIT2.out (by omega), hbw2.trans b1⟩
              · rw [bs_size, enc_append, List.length_append]; rw [bs_size] at hp; omega
              · rw [HF.out, ← cells_rune p c HOK.out]
                exact .inr g1
            case measure =>
              simp only [World.iterPos, k1.iter HIT2.out (by omega), HIT.out]
              omega
          · rw [if_neg hx0] at htf
            have he : (bs x).toList.isEmpty = false := by
              rw [ByteArray.toList_eq, bs_data]
              cases h : enc x with
              | nil => exact absurd (enc_eq_nil h) hx0
              | cons => rfl
            have hxs : (bs x).size ≤ 3 := by rw [← htf, bs_size]; omega
            have HF := Lib.hid htf
            clear htf hx0
            go_wp2_with (go_at_call 53; refine (writeString_any w1.heap.size w1.heap.size _ _ _ hI2 (by omega) hsz2).mono ?_; rintro e w2 ⟨rfl, g1, b1, k1⟩)
            go_roundw
            case rel =>
              refine ⟨k + (enc1 c).length, r, p ++ foldc c, hat.next, HM2, ?_, ?_, k1.iter HIT2.out (by omega), hbw2.trans b1⟩
              · rw [bs_size, enc_append, List.length_append]; rw [bs_size] at hp; omega
              · rw [HF.out, ← cells_str p x]
                exact .inr g1
            case measure =>
              simp only [World.iterPos, k1.iter HIT2.out (by omega), HIT.out]
              omega
        · have hf : foldc c = [c] := by unfold foldc; rw [if_neg ha, if_pos (by omega)]
          have HF := Lib.hid hf
          clear hf
          rcases (by omega : c < 65 ∨ (90 < c ∧ c < 192) ∨ 255 < c) with g | ⟨g, g'⟩ | g
          all_goals
            clear ha hd
            go_wp2_with (go_at_call 65; refine (writeRune_any w1.heap.size w1.heap.size _ _ (by omega) (by omega) _ hI2 (by omega) hsz2).mono ?_; rintro e w2 ⟨rfl, g1, b1, k1⟩)
            go_roundw
            case rel =>
              refine ⟨k + (enc1 c).length, r, p ++ foldc c, hat.next, HM2, ?_, ?_, k1.iter HIT2.out (by omega), hbw2.trans b1⟩
              · rw [bs_size, enc_append, List.length_append]; rw [bs_size] at hp; omega
              · rw [HF.out, ← cells_rune p c HOK.out]
                exact .inr g1
            case measure =>
              simp only [World.iterPos, k1.iter HIT2.out (by omega), HIT.out]
              omega
end Go.Proofs.YtbolkkpgahoeaaaDoor
