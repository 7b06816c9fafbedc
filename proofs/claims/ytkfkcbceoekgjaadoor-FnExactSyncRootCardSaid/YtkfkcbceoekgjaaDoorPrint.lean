/- Walks: prints. -/
import Derived.Test.YtkfkcbceoekgjaaDoorPrintP
import Derived.Test.YtkfkcbceoekgjaaDoorTy
namespace Go.Proofs.YtkfkcbceoekgjaaDoor
open Go.RowKit

theorem printOf_off {l : List UInt8} (h : textOk l = false) : printOf l = -1 := by unfold printOf; rw [h]; rfl
theorem printOf_on {l : List UInt8} (h : textOk l = true) : printOf l = prFold l := by unfold printOf; rw [h]; rfl
theorem prFold_succ {l : List UInt8} {k : Nat} {c : UInt8} (h : l[k]? = some c) : prFold (l.take (k + 1)) = prStep (prFold (l.take k)) c := foldl_succ _ _ h

set_option maxHeartbeats 400000 in
theorem impl_PrintOf_c (s : ByteArray) (w : World) :
    Calls Tryd.prog 48 #[.string s] w fun e w' => e = .returned (.int .i64 (printOf (bs s))) ∧ w = w' := by
  cases ht : textOk (bs s)
  · have HO := hid (printOf_off ht)
    go_enter Tryd.func48, Tryd.ntmps48
    go_wp2_with (go_at_call 47; refine (impl_TextValid_c _ _).mono ?_; rw [ht]; rintro e w' ⟨rfl, rfl⟩)
    go_ret
    exact ⟨ret_i HO.out.symm, rfl⟩
  · have HO := hid (printOf_on ht)
    have h60 := textOk_len ht
    rw [bs_len] at h60
    go_enter Tryd.func48, Tryd.ntmps48
    go_wp2_with (go_at_call 47; refine (impl_TextValid_c _ _).mono ?_; rw [ht]; rintro e w' ⟨rfl, rfl⟩)
    clear ht
    go_loop [3, 4] (fun n i => ∃ (k : Nat) (x : Int), k ≤ s.size ∧ i = .int .i64 k ∧ n = .int .i64 x ∧ 0 ≤ x ∧ x ≤ 16777212 ∧ Hid (x = prFold ((bs s).take k))) (fun _ i => s.size - (intOf i).toNat)
    case atStart => exact ⟨0, 1, Nat.zero_le _, rfl, rfl, by omega, by omega, rfl⟩
    case round =>
      obtain ⟨k, x, hk, rfl, rfl, x0, x1, hx⟩ := hrel
      by_cases hlt : k < s.size
      · have hc := hid (prFold_succ (bs_get s hlt))
        have hst := prStep_in x s[k]
        have hlb : (s[k].toNat : Int) ≤ 255 := by have := s[k].toNat_lt; omega
        have HE := hid (show (x * 257 + (s[k].toNat : Int)) % 16777213 = prStep x s[k] from rfl)
        go_wp2
        go_round
        case rel => exact ⟨k + 1, prStep x s[k], by omega, by go_num, by first | rfl | (rw [HE.out]), hst.1, hst.2, by unfold Hid; rw [hc.out, ← hx.out]⟩
        case measure => simp [intOf]; omega
      · have HX := hid (show printOf (bs s) = x by rw [HO.out, hx.out, take_all (n := s.size) (by simp) (show s.size ≤ k by omega)])
        go_wp2
        go_ret
        exact ⟨ret_i HX.out.symm, rfl⟩

set_option maxHeartbeats 400000 in
theorem spec_PrintOf_c (s : ByteArray) (w : World) (hs : s.size ≤ 4611686018427387904) :
    Calls Tryd.prog 44 #[.string s] w fun e w' => e = .returned (.int .i64 (printOf (bs s))) ∧ w = w' := by
  cases ht : textOk (bs s)
  · have HO := hid (printOf_off ht)
    go_enter Tryd.func44, Tryd.ntmps44
    go_wp2_with (go_at_call 43; refine (spec_TextValid_c _ _ hs).mono ?_; rw [ht]; rintro e w' ⟨rfl, rfl⟩)
    go_ret
    exact ⟨ret_i HO.out.symm, rfl⟩
  · have HO := hid (printOf_on ht)
    have h60 := textOk_len ht
    rw [bs_len] at h60
    go_enter Tryd.func44, Tryd.ntmps44
    go_wp2_with (go_at_call 43; refine (spec_TextValid_c _ _ hs).mono ?_; rw [ht]; rintro e w' ⟨rfl, rfl⟩)
    clear ht
    go_loop [3, 4] (fun n i => ∃ (k : Nat) (x : Int), k ≤ s.size ∧ i = .int .i64 k ∧ n = .int .i64 x ∧ 0 ≤ x ∧ x ≤ 16777212 ∧ Hid (x = prFold ((bs s).take k))) (fun _ i => s.size - (intOf i).toNat)
    case atStart => exact ⟨0, 1, Nat.zero_le _, rfl, rfl, by omega, by omega, rfl⟩
    case round =>
      obtain ⟨k, x, hk, rfl, rfl, x0, x1, hx⟩ := hrel
      by_cases hlt : k < s.size
      · have hc := hid (prFold_succ (bs_get s hlt))
        have hst := prStep_in x s[k]
        have hlb : (s[k].toNat : Int) ≤ 255 := by have := s[k].toNat_lt; omega
        have HE := hid (show (257 * x + (s[k].toNat : Int)) % 16777213 = prStep x s[k] by rw [Int.mul_comm]; rfl)
        go_wp2
        go_round
        case rel => exact ⟨k + 1, prStep x s[k], by omega, by go_num, by first | rfl | (rw [HE.out]), hst.1, hst.2, by unfold Hid; rw [hc.out, ← hx.out]⟩
        case measure => simp [intOf]; omega
      · have HX := hid (show printOf (bs s) = x by rw [HO.out, hx.out, take_all (n := s.size) (by simp) (show s.size ≤ k by omega)])
        go_wp2
        go_ret
        exact ⟨ret_i HX.out.symm, rfl⟩



theorem pairs_succ {l : List Int} {k : Nat} {x : Int} (h : l[k]? = some x) : (l.take (k + 1)).foldl pair 5 = pair ((l.take k).foldl pair 5) x := foldl_succ _ _ h


theorem pairs_neg {l : List Int} : ∀ {n : Int}, pv n = true → l.all pv = true → ¬ (l.foldl pair n < 0) := by
  intro n h h'
  have := pv_iff.1 (pairs_in h h')
  omega


/-- A word's beginning. -/
def wpre (l : List UInt8) : Bool := !(l.head?.any fun c => isDig c.toNat) && l.all wordCh
theorem wpre_zero {l : List UInt8} {c : UInt8} (h : l[0]? = some c) (hs : isSm c.toNat = true) : wpre (l.take 1) = true := by
  have hd : isDig c.toNat = false := by
    have := inB_yes hs
    simp [isDig, inB]; omega
  rw [take_snoc' h]
  simp [wpre, wordCh, hs, hd]
theorem wpre_succ {l : List UInt8} {k : Nat} {c : UInt8} (h : l[k]? = some c) (hk : 0 < k) (hw : wordCh c = true) (hp : wpre (l.take k) = true) : wpre (l.take (k + 1)) = true := by
  obtain ⟨j, rfl⟩ : ∃ j, k = j + 1 := ⟨k - 1, by omega⟩
  unfold wpre at hp ⊢
  rw [all_succ wordCh h, hw]
  cases l with
  | nil => simp at h
  | cons x r => simpa using hp
theorem word_no1 {l : List UInt8} {k : Nat} {c : UInt8} (h : l[k]? = some c) (hw : wordCh c = false) : wordOk l = false := by
  unfold wordOk; rw [all_no wordCh h hw]; simp
theorem word_no2 {l : List UInt8} {c : UInt8} (h : l[0]? = some c) (hs : isSm c.toNat = false) : wordOk l = false := by
  cases hd : isDig c.toNat
  · exact word_no1 h (by simp [wordCh, hs, hd])
  · cases l with
    | nil => simp at h
    | cons x r => simp at h; subst h; simp [wordOk, hd]

set_option maxHeartbeats 400000 in
theorem spec_WordValid_c (s : ByteArray) (w : World) (hs : s.size ≤ 4611686018427387904) :
    Calls Tryd.prog 69 #[.string s] w fun e w' => e = .returned (.bool (wordOk (bs s))) ∧ w = w' := by
  go_enter Tryd.func69, Tryd.ntmps69
  go_wp2
  go_loop [3] (fun i => ∃ k : Nat, k ≤ s.size ∧ i = .int .i64 k ∧ Hid (wpre ((bs s).take k) = true)) (fun i => s.size - (intOf i).toNat)
  case atStart => exact ⟨0, Nat.zero_le _, rfl, rfl⟩
  case round =>
    obtain ⟨k, hk, rfl, hall⟩ := hrel
    by_cases hlt : k < s.size
    · have hx := hid (bs_get s hlt)
      by_cases c1 : (s[k].toNat : Int) < 97
      · by_cases hk0 : k = 0
        · subst hk0
          have HN := hid (word_no2 hx.out (show isSm s[0].toNat = false by simp [isSm, inB]; omega))
          go_wp2
          go_ret
          exact ⟨ret_b HN.out.symm, rfl⟩
        · have hkb : ((k : Int) == 0) = false := beq_eq_false_iff_ne.2 (by omega)
          by_cases c2 : (s[k].toNat : Int) < 48
          · have HN := hid (word_no1 hx.out (show wordCh s[k] = false by simp [wordCh, isSm, isDig, inB]; omega))
            go_wp2
            go_ret
            exact ⟨ret_b HN.out.symm, rfl⟩
          · by_cases c3 : 57 < (s[k].toNat : Int)
            · have HN := hid (word_no1 hx.out (show wordCh s[k] = false by simp [wordCh, isSm, isDig, inB]; omega))
              go_wp2
              go_ret
              exact ⟨ret_b HN.out.symm, rfl⟩
            · have HY := hid (wpre_succ hx.out (by omega) (show wordCh s[k] = true by simp [wordCh, isDig, inB]; omega) hall.out)
              go_wp2
              go_round
              case rel => exact ⟨k + 1, by omega, by go_num, HY.out⟩
              case measure => simp [intOf]; omega
      · by_cases c4 : 122 < (s[k].toNat : Int)
        · have hd4 : decide ((s[k].toNat : Int) ≤ 122) = false := by simp; omega
          by_cases hk0 : k = 0
          · subst hk0
            have HN := hid (word_no2 hx.out (show isSm s[0].toNat = false by simp [isSm, inB]; omega))
            go_wp2
            go_ret
            exact ⟨ret_b HN.out.symm, rfl⟩
          · have hkb : ((k : Int) == 0) = false := beq_eq_false_iff_ne.2 (by omega)
            have HN := hid (word_no1 hx.out (show wordCh s[k] = false by simp [wordCh, isSm, isDig, inB]; omega))
            go_wp2
            go_ret
            exact ⟨ret_b HN.out.symm, rfl⟩
        · have HS : isSm s[k].toNat = true := inB_iff.2 ⟨by omega, by omega⟩
          have HY : Hid (wpre ((bs s).take (k + 1)) = true) := by
            unfold Hid
            by_cases hk0 : k = 0
            · subst hk0; exact wpre_zero hx.out HS
            · exact wpre_succ hx.out (by omega) (by simp [wordCh, HS]) hall.out
          clear HS
          go_wp2
          go_round
          case rel => exact ⟨k + 1, by omega, by go_num, HY.out⟩
          case measure => simp [intOf]; omega
    · have hall' := hall.out
      rw [take_all (xs := bs s) (n := s.size) (by simp) (show s.size ≤ k by omega)] at hall'
      have HO : Hid (inB s.size 1 8 = wordOk (bs s)) := by
        unfold Hid
        simp only [wpre, Bool.and_eq_true] at hall'
        unfold wordOk
        rw [hall'.1, hall'.2, bs_len]
        simp only [inB, Bool.and_true]
        congr 1
        · simp; omega
        · simp; omega
      clear hall' hall
      go_wp2_with (go_at_call 68; refine (spec_l1In_c _ _ _ _).mono ?_; rintro e w' ⟨rfl, rfl⟩)
      go_ret
      exact ⟨ret_b HO.out, rfl⟩

end Go.Proofs.YtkfkcbceoekgjaaDoor
