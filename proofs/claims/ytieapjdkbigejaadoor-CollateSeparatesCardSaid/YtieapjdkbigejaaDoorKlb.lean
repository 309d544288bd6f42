/- The walk of the statement CollateSeparates (layer 2). -/
import Derived.Test.YtieapjdkbigejaaDoorKla
namespace Go.Proofs.YtieapjdkbigejaaDoor
open Go Go.RowKit

def plainb (b : UInt8) : Bool := (97 ≤ b.toNat && b.toNat ≤ 122) || (48 ≤ b.toNat && b.toNat ≤ 57) || b.toNat == 32
theorem plainb_enc (cs : List Nat) (hok : okt cs = true) (h : (enc cs).all plainb = true) : ∀ c ∈ cs, plainc c = true := by
  intro c hc
  have ho := okc_small (List.all_eq_true.1 hok c hc)
  have hall : ∀ b ∈ enc1 c, plainb b = true := fun b hb => List.all_eq_true.1 h b (List.mem_flatMap.2 ⟨c, hc, hb⟩)
  unfold enc1 at hall
  by_cases h1 : c < 128
  · rw [if_pos h1] at hall
    have := hall _ (List.mem_singleton.2 rfl)
    unfold plainb at this
    rw [u8 c (by omega)] at this
    exact this
  · exfalso
    rw [if_neg h1] at hall
    by_cases h2 : c < 2048
    · rw [if_pos h2] at hall
      have := hall _ (List.mem_cons_self ..)
      unfold plainb at this
      rw [u8 _ (by omega)] at this
      simp at this
      omega
    · rw [if_neg h2] at hall
      have := hall _ (List.mem_cons_self ..)
      unfold plainb at this
      rw [u8 _ (by omega)] at this
      simp at this
      omega

set_option maxRecDepth 100000 in
set_option maxHeartbeats 1000000 in
theorem lplain (s : ByteArray) (w : World) (hs : s.size ≤ 1000000) :
    Calls Tryd.prog 21 #[.string s] w fun e w' => e = .returned (.bool (s.data.toList.all plainb)) ∧ w' = w := by
  obtain ⟨A, hA⟩ : ∃ A, A = s.data.toList.all plainb := ⟨_, rfl⟩
  rw [← hA]
  have HA := Lib.hid hA
  clear hA
  go_enter Tryd.func21, Tryd.ntmps21
  go_wp2
  go_loop [3, 4, 7] (fun _ _ i => ∃ k : Nat, i = .int .i64 k ∧ k ≤ s.size ∧ Hid (A = (s.data.toList.drop k).all plainb)) (fun _ _ i => s.size - (intOf i).toNat)
  case atStart => exact ⟨0, rfl, by omega, HA⟩
  case round =>
    obtain ⟨k, rfl, hk, HK⟩ := hrel
    by_cases hlt : k < s.size
    · have hdr : s.data.toList.drop k = s[k] :: s.data.toList.drop (k + 1) := List.drop_eq_getElem_cons (by rw [len_data]; exact hlt)
      have hst : A = (plainb s[k] && (s.data.toList.drop (k + 1)).all plainb) := by rw [HK.out, hdr]; rfl
      have hb : s[k].toNat < 256 := s[k].toNat_lt
      unfold plainb at hst
      obtain ⟨c, hc⟩ : ∃ c, c = s[k].toNat := ⟨_, rfl⟩
      rw [← hc] at hst hb
      have HC := Lib.hid hc
      cases hp : ((97 ≤ c && c ≤ 122) || (48 ≤ c && c ≤ 57) || c == 32) with
      | true =>
        have HT : Hid (A = (s.data.toList.drop (k + 1)).all plainb) := Lib.hid (by rw [hst, hp]; rfl)
        simp only [Bool.or_eq_true, Bool.and_eq_true, decide_eq_true_eq, beq_iff_eq] at hp
        clear hst hdr HK HA
        rcases hp with (⟨q1, q2⟩ | ⟨q1, q2⟩) | q
        all_goals
          rw [hc] at *
          go_wp2
          go_round
          case rel => exact ⟨k + 1, by go_num, by omega, HT⟩
          case measure => simp [intOf]; omega
      | false =>
        have HT : Hid (A = false) := Lib.hid (by rw [hst, hp]; rfl)
        have hq : c < 32 ∨ (32 < c ∧ c < 48) ∨ (57 < c ∧ c < 97) ∨ 122 < c := by
          simp only [Bool.or_eq_false_iff, Bool.and_eq_false_iff, decide_eq_false_iff_not, beq_eq_false_iff_ne] at hp
          omega
        clear hst hdr HK HA hp
        rcases hq with q | ⟨q1, q2⟩ | ⟨q1, q2⟩ | q
        all_goals
          have h32 : ((s[k].toNat : Int) == 32) = false := by rw [beq_eq_false_iff_ne]; omega
          rw [hc] at *
          go_wp2
          all_goals first
            | (go_ret; exact ⟨by rw [HT.out]; rfl, rfl⟩)
            | (exfalso; rename_i h; simp only [Bool.not_eq_false', decide_eq_true_eq] at h; omega)
    · have HT : Hid (A = true) := by
        refine Lib.hid (HK.out.trans ?_)
        rw [List.drop_eq_nil_of_le (by rw [len_data]; omega)]
        rfl
      clear HK HA
      go_wp2
      go_ret
      exact ⟨by rw [HT.out]; rfl, rfl⟩

set_option maxRecDepth 100000 in
set_option maxHeartbeats 2000000 in
theorem law_CollateSeparates (lang s t : ByteArray) (w : World) (hE : Env w) (_hl : lang.size ≤ 9223372036854775807) (hs : s.size ≤ 9223372036854775807) (ht : t.size ≤ 9223372036854775807) :
    Calls Tryd.prog 7 #[.string lang, .string s, .string t] w fun e w' => e = .returned (.bool true) ∧ Below w.heap.size w w' := by
  have h1 := small2 s t w hs ht
  cases hv : ((decide (s.size ≤ 300) && isText s.data.toList) && (decide (t.size ≤ 300) && isText t.data.toList)) with
  | false =>
    rw [hv] at h1
    have H1 := Lib.hid h1
    clear h1 hv
    go_enter Tryd.func7, Tryd.ntmps7
    go_wp2_with fail
    refine H1.out.mono ?_
    rintro e w1 ⟨rfl, b1⟩
    go_wp2_with fail
    refine (alive_any _ (hE.below b1)).mono ?_
    rintro e w2 ⟨rfl, b2⟩
    go_wp2
    go_ret
    exact ⟨rfl, b1.bt b2⟩
  | true =>
    rw [hv] at h1
    rw [Bool.and_eq_true] at hv
    obtain ⟨cs, hok, rfl, hsz⟩ := small_text hv.1
    obtain ⟨ds, hok2, rfl, hsz2⟩ := small_text hv.2
    have H1 := Lib.hid h1
    clear h1 hv hs ht
    obtain ⟨m, hm⟩ : ∃ m, m = lcode lang := ⟨_, rfl⟩
    obtain ⟨ko, ks⟩ := key_okt m cs hok
    -- the five keys
    have e2 : (⟨#[32, 34, 40]⟩ : ByteArray) ++ bs cs ++ (⟨#[33, 41, 32]⟩ : ByteArray) = bs ([32, 34, 40] ++ cs ++ [33, 41, 32]) := by
      rw [show (⟨#[32, 34, 40]⟩ : ByteArray) = bs [32, 34, 40] from rfl, show (⟨#[33, 41, 32]⟩ : ByteArray) = bs [33, 41, 32] from rfl, bs_append, bs_append]
    have o2 : okt ([32, 34, 40] ++ cs ++ [33, 41, 32]) = true := by rw [okt_append, okt_append, hok]; rfl
    have z2 : (bs ([32, 34, 40] ++ cs ++ [33, 41, 32])).size ≤ 1000000 := by rw [← e2, ByteArray.size_append, ByteArray.size_append]; have : (⟨#[32, 34, 40]⟩ : ByteArray).size = 3 := rfl; have : (⟨#[33, 41, 32]⟩ : ByteArray).size = 3 := rfl; omega
    have e4 : bs cs ++ (⟨#[32]⟩ : ByteArray) ++ bs ds = bs (cs ++ 32 :: ds) := by
      rw [show (⟨#[32]⟩ : ByteArray) = bs [32] from rfl, bs_append, bs_append, List.append_assoc]; rfl
    have e5 : bs cs ++ (⟨#[32, 32]⟩ : ByteArray) ++ bs ds = bs (cs ++ 32 :: 32 :: ds) := by
      rw [show (⟨#[32, 32]⟩ : ByteArray) = bs [32, 32] from rfl, bs_append, bs_append, List.append_assoc]; rfl
    have o4 : okt (cs ++ 32 :: ds) = true := by
      rw [okt_append, hok, show okt (32 :: ds) = (true && okt ds) from rfl, hok2]; rfl
    have o5 : okt (cs ++ 32 :: 32 :: ds) = true := by
      rw [okt_append, hok, show okt (32 :: 32 :: ds) = (true && (true && okt ds)) from rfl, hok2]; rfl
    have z4 : (bs (cs ++ 32 :: ds)).size ≤ 1000000 := by rw [← e4, ByteArray.size_append, ByteArray.size_append]; have : (⟨#[32]⟩ : ByteArray).size = 1 := rfl; omega
    have z5 : (bs (cs ++ 32 :: 32 :: ds)).size ≤ 1000000 := by rw [← e5, ByteArray.size_append, ByteArray.size_append]; have : (⟨#[32, 32]⟩ : ByteArray).size = 2 := rfl; omega
    have k1 := fun W h => pKey lang cs W h hok (by omega)
    have k2 := fun W h => pKey lang _ W h o2 z2
    have k3 := fun W h => pKey lang (key m cs) W h ko (by omega)
    have k4 := fun W h => pKey lang _ W h o4 z4
    have k5 := fun W h => pKey lang _ W h o5 z5
    rw [← hm] at k1 k2 k3 k4 k5
    rw [key_around m [32, 34, 40] [33, 41, 32] cs (by intro c hc; exact sepc_of c (by simp at hc; omega)) (by intro c hc; exact sepc_of c (by simp at hc; omega)), ← e2] at k2
    rw [← key_gap, ← e5] at k5
    rw [← e4] at k4
    have pl := fun W => lplain (bs (key m cs)) W (by omega)
    rw [bs_data] at pl
    have hpl : m = 1 → ¬ bs (key m (key m cs)) = bs (key m cs) → (enc (key m cs)).all plainb = false := by
      intro h1 h2
      cases hp : (enc (key m cs)).all plainb with
      | false => rfl
      | true =>
        have := key_plain cs m (plainb_enc _ ko hp)
        rw [← h1] at this
        exact absurd (by rw [this]) h2
    obtain ⟨K, hK⟩ : ∃ K, K = bs (key m cs) := ⟨_, rfl⟩
    obtain ⟨K3, hK3⟩ : ∃ K3, K3 = bs (key m (key m cs)) := ⟨_, rfl⟩
    obtain ⟨p, hp⟩ : ∃ p, p = (enc (key m cs)).all plainb := ⟨_, rfl⟩
    rw [← hK, ← hK3, ← hp] at hpl
    rw [← hK] at k1 k2
    rw [← hK, ← hK3] at k3
    rw [← hK, ← hp] at pl
    have K1 := Lib.hid k1
    have K2 := Lib.hid k2
    have KK := Lib.hid k3
    have K4 := Lib.hid k4
    have K5 := Lib.hid k5
    have PL := Lib.hid pl
    have hways : (K3.toList == K.toList) = true ∨ ((K3.toList == K.toList) = false ∧ (lang.toList == [101, 110, 103]) = false) ∨ ((K3.toList == K.toList) = false ∧ (lang.toList == [101, 110, 103]) = true ∧ p = false) := by
      cases ha : (K3.toList == K.toList) with
      | true => exact .inl rfl
      | false =>
        cases hb : (lang.toList == [101, 110, 103]) with
        | false => exact .inr (.inl ⟨rfl, rfl⟩)
        | true =>
          refine .inr (.inr ⟨rfl, rfl, hpl (by rw [hm]; exact lc1 (eq_of_beq hb)) ?_⟩)
          intro e
          rw [e] at ha
          simp at ha
    clear k1 k2 k3 k4 k5 pl hpl hK hK3 hp e2 e4 e5 o2 o4 o5 hm ko ks z2
    rcases hways with ha | ⟨ha, hb⟩ | ⟨ha, hb, rfl⟩
    all_goals
      go_enter Tryd.func7, Tryd.ntmps7
      go_wp2_with fail
      refine H1.out.mono ?_
      rintro e w1 ⟨rfl, b1⟩
      go_wp2_with fail
      refine (K1.out _ (hE.below b1)).mono ?_
      rintro e w2 ⟨rfl, c2⟩
      have b2 := b1.bt c2
      go_wp2_with fail
      refine (K2.out _ (hE.below b2)).mono ?_
      rintro e w3 ⟨rfl, c3⟩
      have b3 := b2.bt c3
      go_wp2_with fail
      refine (KK.out _ (hE.below b3)).mono ?_
      rintro e w4 ⟨rfl, c4⟩
      have b4 := b3.bt c4
      try (go_wp2_with fail; refine (PL.out _).mono ?_; rintro e w9 ⟨rfl, rfl⟩)
      go_wp2_with fail
      refine (K4.out _ (hE.below b4)).mono ?_
      rintro e w5 ⟨rfl, c5⟩
      have b5 := b4.bt c5
      go_wp2_with fail
      refine (K5.out _ (hE.below b5)).mono ?_
      rintro e w6 ⟨rfl, c6⟩
      have b6 := b5.bt c6
      go_wp2_with fail
      refine (alive_any _ (hE.below b6)).mono ?_
      rintro e w7 ⟨rfl, c7⟩
      go_wp2
      go_ret
      exact ⟨rfl, b6.bt c7⟩
end Go.Proofs.YtieapjdkbigejaaDoor
