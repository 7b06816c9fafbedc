/- Walks: prints. -/
import Derived.Test.YtnedkfmbeeodfaaPrintP
import Derived.Test.YtnedkfmbeeodfaaTy
namespace Go.Proofs.Ytnedkfmbeeodfaa
open Go.RowKit

theorem printOf_off {l : List UInt8} (h : textOk l = false) : printOf l = -1 := by unfold printOf; rw [h]; rfl
theorem printOf_on {l : List UInt8} (h : textOk l = true) : printOf l = prFold l := by unfold printOf; rw [h]; rfl
theorem prFold_succ {l : List UInt8} {k : Nat} {c : UInt8} (h : l[k]? = some c) : prFold (l.take (k + 1)) = prStep (prFold (l.take k)) c := foldl_succ _ _ h

set_option maxHeartbeats 400000 in
theorem impl_PrintOf_c (s : ByteArray) (w : World) :
    Calls Try.prog 69 #[.string s] w fun e w' => e = .returned (.int .i64 (printOf (bs s))) ∧ w = w' := by
  cases ht : textOk (bs s)
  · have HO := hid (printOf_off ht)
    go_enter Try.func69, Try.ntmps69
    go_wp2_with (go_at_call 81; refine (impl_TextValid_c _ _).mono ?_; rw [ht]; rintro e w' ⟨rfl, rfl⟩)
    go_ret
    exact ⟨ret_i HO.out.symm, rfl⟩
  · have HO := hid (printOf_on ht)
    have h60 := textOk_len ht
    rw [bs_len] at h60
    go_enter Try.func69, Try.ntmps69
    go_wp2_with (go_at_call 81; refine (impl_TextValid_c _ _).mono ?_; rw [ht]; rintro e w' ⟨rfl, rfl⟩)
    clear ht
    go_loop [3, 4] (fun n i => ∃ (k : Nat) (x : Int), k ≤ s.size ∧ i = .int .i64 k ∧ n = .int .i64 x ∧ 0 ≤ x ∧ x ≤ 16777212 ∧ Hid (x = prFold ((bs s).take k))) (fun _ i => s.size - (intOf i).toNat)
    case atStart => exact ⟨0, 1, Nat.zero_le _, rfl, rfl, by omega, by omega, rfl⟩
    case round =>
      obtain ⟨k, x, hk, rfl, rfl, x0, x1, hx⟩ := hrel
      by_cases hlt : k < s.size
      · have hc := hid (prFold_succ (bs_get s hlt))
        have hst := prStep_in x s[k]
        have hlb : (s[k].toNat : Int) ≤ 255 := by have := s[k].toNat_lt; omega
        have HE := hid (show (x * 257 + (s[k].toNat : Int)) % 16777213 = prStep x s[k] from rfl)
        go_wp2
        go_round
        case rel => exact ⟨k + 1, prStep x s[k], by omega, by go_num, by first | rfl | (rw [HE.out]), hst.1, hst.2, by unfold Hid; rw [hc.out, ← hx.out]⟩
        case measure => simp [intOf]; omega
      · have HX := hid (show printOf (bs s) = x by rw [HO.out, hx.out, take_all (n := s.size) (by simp) (show s.size ≤ k by omega)])
        go_wp2
        go_ret
        exact ⟨ret_i HX.out.symm, rfl⟩

set_option maxHeartbeats 400000 in
theorem spec_PrintOf_c (s : ByteArray) (w : World) (hs : s.size ≤ 4611686018427387904) :
    Calls Try.prog 67 #[.string s] w fun e w' => e = .returned (.int .i64 (printOf (bs s))) ∧ w = w' := by
  cases ht : textOk (bs s)
  · have HO := hid (printOf_off ht)
    go_enter Try.func67, Try.ntmps67
    go_wp2_with (go_at_call 79; refine (spec_TextValid_c _ _ hs).mono ?_; rw [ht]; rintro e w' ⟨rfl, rfl⟩)
    go_ret
    exact ⟨ret_i HO.out.symm, rfl⟩
  · have HO := hid (printOf_on ht)
    have h60 := textOk_len ht
    rw [bs_len] at h60
    go_enter Try.func67, Try.ntmps67
    go_wp2_with (go_at_call 79; refine (spec_TextValid_c _ _ hs).mono ?_; rw [ht]; rintro e w' ⟨rfl, rfl⟩)
    clear ht
    go_loop [3, 4] (fun n i => ∃ (k : Nat) (x : Int), k ≤ s.size ∧ i = .int .i64 k ∧ n = .int .i64 x ∧ 0 ≤ x ∧ x ≤ 16777212 ∧ Hid (x = prFold ((bs s).take k))) (fun _ i => s.size - (intOf i).toNat)
    case atStart => exact ⟨0, 1, Nat.zero_le _, rfl, rfl, by omega, by omega, rfl⟩
    case round =>
      obtain ⟨k, x, hk, rfl, rfl, x0, x1, hx⟩ := hrel
      by_cases hlt : k < s.size
      · have hc := hid (prFold_succ (bs_get s hlt))
        have hst := prStep_in x s[k]
        have hlb : (s[k].toNat : Int) ≤ 255 := by have := s[k].toNat_lt; omega
        have HE := hid (show (257 * x + (s[k].toNat : Int)) % 16777213 = prStep x s[k] by rw [Int.mul_comm]; rfl)
        go_wp2
        go_round
        case rel => exact ⟨k + 1, prStep x s[k], by omega, by go_num, by first | rfl | (rw [HE.out]), hst.1, hst.2, by unfold Hid; rw [hc.out, ← hx.out]⟩
        case measure => simp [intOf]; omega
      · have HX := hid (show printOf (bs s) = x by rw [HO.out, hx.out, take_all (n := s.size) (by simp) (show s.size ≤ k by omega)])
        go_wp2
        go_ret
        exact ⟨ret_i HX.out.symm, rfl⟩

set_option maxHeartbeats 400000 in
theorem impl_PrintPair_c (a b : Int) (w : World) :
    Calls Try.prog 80 #[.int .i64 a, .int .i64 b] w fun e w' => e = .returned (.int .i64 (pair a b)) ∧ w = w' := by
  cases ha : inB a 0 16777212
  · have HO := hid (show pair a b = -1 by unfold pair; simp [ha])
    go_enter Try.func80, Try.ntmps80
    go_wp2_with (go_at_call 56; refine (impl_printValid_c _ _).mono ?_; rintro e w' ⟨rfl, rfl⟩)
    go_ret
    exact ⟨ret_i HO.out.symm, rfl⟩
  · cases hb : inB b 0 16777212
    · have HO := hid (show pair a b = -1 by unfold pair; simp [hb])
      go_enter Try.func80, Try.ntmps80
      go_wp2_with (go_at_call 56; refine (impl_printValid_c _ _).mono ?_; rintro e w' ⟨rfl, rfl⟩)
      go_ret
      exact ⟨ret_i HO.out.symm, rfl⟩
    · have HO := hid (pair_val ha hb)
      obtain ⟨a0, a1⟩ := inB_yes ha
      obtain ⟨b0, b1⟩ := inB_yes hb
      go_enter Try.func80, Try.ntmps80
      go_wp2_with (go_at_call 56; refine (impl_printValid_c _ _).mono ?_; rintro e w' ⟨rfl, rfl⟩)
      go_ret
      exact ⟨ret_i HO.out.symm, rfl⟩

set_option maxHeartbeats 400000 in
theorem spec_PrintPair_c (a b : Int) (w : World) :
    Calls Try.prog 78 #[.int .i64 a, .int .i64 b] w fun e w' => e = .returned (.int .i64 (pair a b)) ∧ w = w' := by
  cases ha : inB a 0 16777212
  · have HO := hid (show pair a b = -1 by unfold pair; simp [ha])
    go_enter Try.func78, Try.ntmps78
    go_wp2_with (go_at_call 54; refine (spec_l1In_c _ _ _ _).mono ?_; rintro e w' ⟨rfl, rfl⟩)
    go_ret
    exact ⟨ret_i HO.out.symm, rfl⟩
  · cases hb : inB b 0 16777212
    · have HO := hid (show pair a b = -1 by unfold pair; simp [hb])
      go_enter Try.func78, Try.ntmps78
      go_wp2_with (go_at_call 54; refine (spec_l1In_c _ _ _ _).mono ?_; rintro e w' ⟨rfl, rfl⟩)
      go_ret
      exact ⟨ret_i HO.out.symm, rfl⟩
    · have HO := hid (show pair a b = (7919 * a + 104729 * b + 3) % 16777213 by rw [pair_val ha hb, Int.mul_comm a, Int.mul_comm b])
      obtain ⟨a0, a1⟩ := inB_yes ha
      obtain ⟨b0, b1⟩ := inB_yes hb
      go_enter Try.func78, Try.ntmps78
      go_wp2_with (go_at_call 54; refine (spec_l1In_c _ _ _ _).mono ?_; rintro e w' ⟨rfl, rfl⟩)
      go_ret
      exact ⟨ret_i HO.out.symm, rfl⟩

theorem pairs_succ {l : List Int} {k : Nat} {x : Int} (h : l[k]? = some x) : (l.take (k + 1)).foldl pair 5 = pair ((l.take k).foldl pair 5) x := foldl_succ _ _ h

set_option maxHeartbeats 400000 in
theorem impl_PrintList_c (v : Value) (xs : List Int) (B : Nat) (w : World) (h : Ints w B v xs) :
    Calls Try.prog 68 #[v] w fun e w' => e = .returned (.int .i64 (plist xs)) ∧ w = w' := by
  obtain ⟨n, hn⟩ : ∃ n, xs.length = n := ⟨_, rfl⟩
  obtain ⟨a, c, rfl, h1, h2, h3⟩ := h.ints hn
  have HN := hid hn
  clear hn
  by_cases c1 : 20 < n
  · have HO := hid (plist_off (l := xs) (by have := HN.out; simp [plOk]; omega))
    clear h3
    go_enter Try.func68, Try.ntmps68
    go_wp2
    go_ret
    exact ⟨ret_i HO.out.symm, rfl⟩
  · cases hv : xs.all pv
    · have HO := hid (plist_off (l := xs) (by simp [plOk, hv]))
      clear h3
      go_enter Try.func68, Try.ntmps68
      go_wp2_with (go_at_call 61; refine (impl_printsValid_c _ _ _ _ h).mono ?_; rw [hv]; rintro e w' ⟨rfl, rfl⟩)
      go_ret
      exact ⟨ret_i HO.out.symm, rfl⟩
    · have HO := hid (plist_on (l := xs) (by have := HN.out; simp [plOk, hv]; omega))
      go_enter Try.func68, Try.ntmps68
      go_wp2_with (go_at_call 61; refine (impl_printsValid_c _ _ _ _ h).mono ?_; rw [hv]; rintro e w' ⟨rfl, rfl⟩)
      clear hv h
      go_loop [3, 16] (fun t i => ∃ (k : Nat) (x : Int), k ≤ n ∧ i = .int .i64 k ∧ t = .int .i64 x ∧ Hid (x = (xs.take k).foldl pair 5)) (fun _ i => n - (intOf i).toNat)
      case atStart => exact ⟨0, 5, Nat.zero_le _, rfl, rfl, rfl⟩
      case round =>
        obtain ⟨k, x, hk, rfl, rfl, hx⟩ := hrel
        by_cases hlt : k < n
        · obtain ⟨b, o, y, rfl, hb, hy, hc⟩ := h3 k hlt
          have hs := hid (pairs_succ hy.out)
          clear h3
          go_wp2_with (go_at_call 80; refine (impl_PrintPair_c _ _ _).mono ?_; rintro e w' ⟨rfl, rfl⟩)
          go_round
          case rel => exact ⟨k + 1, _, by omega, by go_num, rfl, by unfold Hid; rw [hs.out, ← hx.out]⟩
          case measure => simp [intOf]; omega
        · have HX := hid (show plist xs = x by rw [HO.out, hx.out, take_all HN.out (show n ≤ k by omega)])
          go_wp2
          go_ret
          exact ⟨ret_i HX.out.symm, rfl⟩

theorem pairs_neg {l : List Int} : ∀ {n : Int}, pv n = true → l.all pv = true → ¬ (l.foldl pair n < 0) := by
  intro n h h'
  have := pv_iff.1 (pairs_in h h')
  omega

set_option maxHeartbeats 400000 in
theorem spec_PrintList_c (v : Value) (xs : List Int) (B : Nat) (w : World) (h : Ints w B v xs) (hl : xs.length ≤ 1099511627776) :
    Calls Try.prog 66 #[v] w fun e w' => e = .returned (.int .i64 (plist xs)) ∧ w = w' := by
  obtain ⟨n, hn⟩ : ∃ n, xs.length = n := ⟨_, rfl⟩
  obtain ⟨a, c, rfl, h1, h2, h3⟩ := h.ints hn
  rw [hn] at hl
  have HN := hid hn
  clear hn h
  go_enter Try.func66, Try.ntmps66
  go_wp2
  go_loop [3, 4] (fun t i => ∃ (k : Nat) (x : Int), k ≤ n ∧ (0 < k → n ≤ 20) ∧ i = .int .i64 k ∧ t = .int .i64 x ∧ Hid (x = (xs.take k).foldl pair 5 ∧ (xs.take k).all pv = true)) (fun _ i => n - (intOf i).toNat)
  case atStart => exact ⟨0, 5, Nat.zero_le _, by omega, rfl, rfl, rfl, rfl⟩
  case round =>
    obtain ⟨k, x, hk, h20, rfl, rfl, hx⟩ := hrel
    by_cases hlt : k < n
    · obtain ⟨b, o, y, rfl, hb, hy, hc⟩ := h3 k hlt
      clear h3
      have hpx : pv x = true := by rw [hx.out.1]; exact pairs_in (by decide) hx.out.2
      cases hp : pv y
      · have HO := hid (plist_off (l := xs) (by simp [plOk, all_no pv hy.out hp]))
        have hpr : pair x y = -1 := by unfold pair; simp [hp]
        go_wp2_with (go_at_call 78; refine (spec_PrintPair_c _ _ _).mono ?_; rw [hpr]; rintro e w' ⟨rfl, rfl⟩)
        go_ret
        exact ⟨ret_i HO.out.symm, rfl⟩
      · have hpp := pv_iff.1 (pair_in hpx hp)
        obtain ⟨q, hq⟩ : ∃ q, pair x y = q := ⟨_, rfl⟩
        rw [hq] at hpp
        obtain ⟨q0, q1⟩ := hpp
        by_cases hn20 : 20 < n
        · have HO := hid (plist_off (l := xs) (by have := HN.out; simp [plOk]; omega))
          go_wp2_with (go_at_call 78; refine (spec_PrintPair_c _ _ _).mono ?_; rw [hq]; rintro e w' ⟨rfl, rfl⟩)
          go_ret
          exact ⟨ret_i HO.out.symm, rfl⟩
        · have hs := hid (show q = (xs.take (k + 1)).foldl pair 5 ∧ (xs.take (k + 1)).all pv = true from ⟨by rw [pairs_succ hy.out, ← hx.out.1, hq], by rw [all_succ pv hy.out, hx.out.2, hp]; rfl⟩)
          go_wp2_with (go_at_call 78; refine (spec_PrintPair_c _ _ _).mono ?_; rw [hq]; rintro e w' ⟨rfl, rfl⟩)
          go_round
          case rel => exact ⟨k + 1, q, by omega, by omega, by go_num, rfl, hs.out⟩
          case measure => simp [intOf]; omega
    · have hx' := hx.out
      rw [take_all HN.out (show n ≤ k by omega)] at hx'
      have HX := hid (show plist xs = x by rw [hx'.1]; exact plist_on (by have := HN.out; simp [plOk, hx'.2]; omega))
      clear hx' h3
      go_wp2
      go_ret
      exact ⟨ret_i HX.out.symm, rfl⟩

/-- A word's beginning. -/
def wpre (l : List UInt8) : Bool := !(l.head?.any fun c => isDig c.toNat) && l.all wordCh
theorem wpre_zero {l : List UInt8} {c : UInt8} (h : l[0]? = some c) (hs : isSm c.toNat = true) : wpre (l.take 1) = true := by
  have hd : isDig c.toNat = false := by
    have := inB_yes hs
    simp [isDig, inB]; omega
  rw [take_snoc' h]
  simp [wpre, wordCh, hs, hd]
theorem wpre_succ {l : List UInt8} {k : Nat} {c : UInt8} (h : l[k]? = some c) (hk : 0 < k) (hw : wordCh c = true) (hp : wpre (l.take k) = true) : wpre (l.take (k + 1)) = true := by
  obtain ⟨j, rfl⟩ : ∃ j, k = j + 1 := ⟨k - 1, by omega⟩
  unfold wpre at hp ⊢
  rw [all_succ wordCh h, hw]
  cases l with
  | nil => simp at h
  | cons x r => simpa using hp
theorem word_no1 {l : List UInt8} {k : Nat} {c : UInt8} (h : l[k]? = some c) (hw : wordCh c = false) : wordOk l = false := by
  unfold wordOk; rw [all_no wordCh h hw]; simp
theorem word_no2 {l : List UInt8} {c : UInt8} (h : l[0]? = some c) (hs : isSm c.toNat = false) : wordOk l = false := by
  cases hd : isDig c.toNat
  · exact word_no1 h (by simp [wordCh, hs, hd])
  · cases l with
    | nil => simp at h
    | cons x r => simp at h; subst h; simp [wordOk, hd]

set_option maxHeartbeats 400000 in
theorem spec_WordValid_c (s : ByteArray) (w : World) (hs : s.size ≤ 4611686018427387904) :
    Calls Try.prog 65 #[.string s] w fun e w' => e = .returned (.bool (wordOk (bs s))) ∧ w = w' := by
  go_enter Try.func65, Try.ntmps65
  go_wp2
  go_loop [3] (fun i => ∃ k : Nat, k ≤ s.size ∧ i = .int .i64 k ∧ Hid (wpre ((bs s).take k) = true)) (fun i => s.size - (intOf i).toNat)
  case atStart => exact ⟨0, Nat.zero_le _, rfl, rfl⟩
  case round =>
    obtain ⟨k, hk, rfl, hall⟩ := hrel
    by_cases hlt : k < s.size
    · have hx := hid (bs_get s hlt)
      by_cases c1 : (s[k].toNat : Int) < 97
      · by_cases hk0 : k = 0
        · subst hk0
          have HN := hid (word_no2 hx.out (show isSm s[0].toNat = false by simp [isSm, inB]; omega))
          go_wp2
          go_ret
          exact ⟨ret_b HN.out.symm, rfl⟩
        · have hkb : ((k : Int) == 0) = false := beq_eq_false_iff_ne.2 (by omega)
          by_cases c2 : (s[k].toNat : Int) < 48
          · have HN := hid (word_no1 hx.out (show wordCh s[k] = false by simp [wordCh, isSm, isDig, inB]; omega))
            go_wp2
            go_ret
            exact ⟨ret_b HN.out.symm, rfl⟩
          · by_cases c3 : 57 < (s[k].toNat : Int)
            · have HN := hid (word_no1 hx.out (show wordCh s[k] = false by simp [wordCh, isSm, isDig, inB]; omega))
              go_wp2
              go_ret
              exact ⟨ret_b HN.out.symm, rfl⟩
            · have HY := hid (wpre_succ hx.out (by omega) (show wordCh s[k] = true by simp [wordCh, isDig, inB]; omega) hall.out)
              go_wp2
              go_round
              case rel => exact ⟨k + 1, by omega, by go_num, HY.out⟩
              case measure => simp [intOf]; omega
      · by_cases c4 : 122 < (s[k].toNat : Int)
        · have hd4 : decide ((s[k].toNat : Int) ≤ 122) = false := by simp; omega
          by_cases hk0 : k = 0
          · subst hk0
            have HN := hid (word_no2 hx.out (show isSm s[0].toNat = false by simp [isSm, inB]; omega))
            go_wp2
            go_ret
            exact ⟨ret_b HN.out.symm, rfl⟩
          · have hkb : ((k : Int) == 0) = false := beq_eq_false_iff_ne.2 (by omega)
            have HN := hid (word_no1 hx.out (show wordCh s[k] = false by simp [wordCh, isSm, isDig, inB]; omega))
            go_wp2
            go_ret
            exact ⟨ret_b HN.out.symm, rfl⟩
        · have HS : isSm s[k].toNat = true := inB_iff.2 ⟨by omega, by omega⟩
          have HY : Hid (wpre ((bs s).take (k + 1)) = true) := by
            unfold Hid
            by_cases hk0 : k = 0
            · subst hk0; exact wpre_zero hx.out HS
            · exact wpre_succ hx.out (by omega) (by simp [wordCh, HS]) hall.out
          clear HS
          go_wp2
          go_round
          case rel => exact ⟨k + 1, by omega, by go_num, HY.out⟩
          case measure => simp [intOf]; omega
    · have hall' := hall.out
      rw [take_all (xs := bs s) (n := s.size) (by simp) (show s.size ≤ k by omega)] at hall'
      have HO : Hid (inB s.size 1 8 = wordOk (bs s)) := by
        unfold Hid
        simp only [wpre, Bool.and_eq_true] at hall'
        unfold wordOk
        rw [hall'.1, hall'.2, bs_len]
        simp only [inB, Bool.and_true]
        congr 1
        · simp; omega
        · simp; omega
      clear hall' hall
      go_wp2_with (go_at_call 54; refine (spec_l1In_c _ _ _ _).mono ?_; rintro e w' ⟨rfl, rfl⟩)
      go_ret
      exact ⟨ret_b HO.out, rfl⟩

end Go.Proofs.Ytnedkfmbeeodfaa
