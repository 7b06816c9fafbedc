/- Walks: valid caches. -/
import Derived.Test.YtnedkfmbeeodfaaHas
namespace Go.Proofs.Ytnedkfmbeeodfaa
open Go.RowKit

/-- A cache's value. -/
abbrev cv (m : Int) (v : Value) : Value := .agg #[.int .i64 m, v]

set_option maxHeartbeats 2000000 in
theorem impl_CacheValid_c (m : Int) (v : Value) (xs : List Int) (B : Nat) (w : World) (h : Ints w B v xs) (hB : B ≤ w.heap.size) :
    Calls Try.prog 18 #[cv m v] w fun e w' => e = .returned (.bool (cacheOk m xs)) ∧ Below w.heap.size w w' := by
  obtain ⟨n, hn⟩ : ∃ n, xs.length = n := ⟨_, rfl⟩
  obtain ⟨a, c, rfl, h1, h2, h3⟩ := h.ints hn
  have HN := hid hn
  clear hn
  by_cases c1 : m < 1
  · have HO := hid (show cacheOk m xs = false by simp [cacheOk, inB]; omega)
    clear h3
    go_enter Try.func18, Try.ntmps18
    go_wp2
    go_ret
    exact ⟨ret_b HO.out.symm, (Below.refl _ _).alloc (Nat.le_refl _) _⟩
  · by_cases c2 : 8 < m
    · have HO := hid (show cacheOk m xs = false by simp [cacheOk, inB]; omega)
      clear h3
      go_enter Try.func18, Try.ntmps18
      go_wp2
      go_ret
      exact ⟨ret_b HO.out.symm, (Below.refl _ _).alloc (Nat.le_refl _) _⟩
    · by_cases c3 : m < n
      · have HO := hid (show cacheOk m xs = false by have := HN.out; simp [cacheOk]; omega)
        clear h3
        go_enter Try.func18, Try.ntmps18
        go_wp2
        go_ret
        exact ⟨ret_b HO.out.symm, (Below.refl _ _).alloc (Nat.le_refl _) _⟩
      · have HC := hid (show inB m 1 8 = true ∧ decide ((xs.length : Int) ≤ m) = true from ⟨inB_iff.2 (by omega), by have := HN.out; simp; omega⟩)
        have b1 := fun cs t => (Below.refl w.heap.size w).alloc (Nat.le_refl _) (.cells cs t)
        go_enter Try.func18, Try.ntmps18
        go_wp2
        go_loop [24] (fun i => ∃ k : Nat, k ≤ n ∧ i = .int .i64 k ∧ Hid (keepOk (xs.take k) = true)) (fun i => n - (intOf i).toNat)
        case atStart => exact ⟨0, Nat.zero_le _, rfl, rfl⟩
        case round =>
          obtain ⟨k, hk, rfl, hall⟩ := hrel
          by_cases hlt : k < n
          · obtain ⟨b, o, x, rfl, hb, hx, hc⟩ := h3 k hlt
            have hfr := (h.front (show k ≤ n by omega)).below (b1 #[.int .i64 m, .slice (some ⟨b, o, none⟩) n c] 27) (by omega)
            have hbl : b < w.heap.size := by omega
            clear h3 h b1
            cases hp : inB x 0 16777212
            · have HO := hid (cacheOk_no (m := m) (keepOk_no1 hx.out hp))
              go_wp2_with (go_at_call 56; refine (impl_printValid_c _ _).mono ?_; rintro e w' ⟨rfl, rfl⟩)
              go_ret
              exact ⟨ret_b HO.out.symm, (Below.refl _ _).alloc (Nat.le_refl _) _⟩
            · cases hh : hasI (xs.take k) x
              · go_wp2_with (first | (go_at_call 56; refine (impl_printValid_c _ _).mono ?_; rintro e w' ⟨rfl, rfl⟩) | (go_at_call 57; refine (slices_Contains_c _ _ _ _ _ hfr).mono ?_; rintro e w' ⟨rfl, rfl⟩))
                go_round
                case rel => exact ⟨k + 1, by omega, by go_num, keepOk_succ hx.out hall.out hp hh⟩
                case measure => simp [intOf]; omega
              · have HO := hid (cacheOk_no (m := m) (keepOk_no2 hx.out hh))
                go_wp2_with (first | (go_at_call 56; refine (impl_printValid_c _ _).mono ?_; rintro e w' ⟨rfl, rfl⟩) | (go_at_call 57; refine (slices_Contains_c _ _ _ _ _ hfr).mono ?_; rintro e w' ⟨rfl, rfl⟩))
                go_ret
                exact ⟨ret_b HO.out.symm, (Below.refl _ _).alloc (Nat.le_refl _) _⟩
          · have hall' := hall.out
            rw [take_all HN.out (show n ≤ k by omega)] at hall'
            have HO := hid (show cacheOk m xs = true by unfold cacheOk; rw [HC.out.1, HC.out.2, hall']; rfl)
            clear hall'
            go_wp2
            go_ret
            exact ⟨ret_b HO.out.symm, (Below.refl _ _).alloc (Nat.le_refl _) _⟩

set_option maxHeartbeats 2000000 in
theorem spec_CacheValid_c (m : Int) (v : Value) (xs : List Int) (B : Nat) (w : World) (h : Ints w B v xs) (hB : B ≤ w.heap.size) :
    Calls Try.prog 16 #[cv m v] w fun e w' => e = .returned (.bool (cacheOk m xs)) ∧ Below w.heap.size w w' := by
  obtain ⟨n, hn⟩ : ∃ n, xs.length = n := ⟨_, rfl⟩
  obtain ⟨a, c, rfl, h1, h2, h3⟩ := h.ints hn

  have HN := hid hn
  clear hn
  go_enter Try.func16, Try.ntmps16
  go_wp2
  go_loopw [3] (fun i wr => ∃ (k q : Nat), k ≤ n ∧ i = .int .i64 k ∧ Hid (keepOk (xs.take k) = true) ∧ wr = (w.alloc (.cells #[.int .i64 m, .slice a n c] 27)).drewN q) (fun i _ => n - (intOf i).toNat)
  case atStart => exact ⟨0, 0, Nat.zero_le _, rfl, rfl, rfl⟩
  case round =>
    obtain ⟨k, q, hk, rfl, hall, rfl⟩ := hrel
    by_cases hlt : k < n
    · obtain ⟨b, o, x, rfl, hb, hx, hc⟩ := h3 k hlt
      have hfr : ∀ q', Ints ((w.alloc (.cells #[.int .i64 m, .slice (some ⟨b, o, none⟩) n c] 27)).drewN q') B (.slice (some ⟨b, o, none⟩) k c) (xs.take k) := fun q' => ((h.front (show k ≤ n by omega)).below ((Below.refl w.heap.size w).alloc (Nat.le_refl _) _) (by omega)).drewN q'
      have hbl : b < w.heap.size := by omega
      have hkc : k ≤ c := by omega
      clear h3 h
      cases hp : inB x 0 16777212
      · have HO := hid (cacheOk_no (m := m) (keepOk_no1 hx.out hp))
        go_wp2
        go_quiet (first | (go_at_call 54; exact qsame (spec_l1In_c _ _ _ _)) | (go_at_call 55; exact qsame (spec_l19Has_c _ _ _ _ _ (hfr _))))
        go_wp2
        go_ret
        exact ⟨ret_b HO.out.symm, bl_drewN (bl_drewN ((Below.refl _ _).alloc (Nat.le_refl _) _) _) _⟩
      · cases hh : hasI (xs.take k) x
        · go_wp2
          go_quiet (first | (go_at_call 54; exact qsame (spec_l1In_c _ _ _ _)) | (go_at_call 55; exact qsame (spec_l19Has_c _ _ _ _ _ (hfr _))))
          go_wp2
          go_roundw
          case rel => exact ⟨k + 1, _, by omega, by go_num, keepOk_succ hx.out hall.out hp hh, rfl⟩
          case measure => simp [intOf]; omega
        · have HO := hid (cacheOk_no (m := m) (keepOk_no2 hx.out hh))
          go_wp2
          go_quiet (first | (go_at_call 54; exact qsame (spec_l1In_c _ _ _ _)) | (go_at_call 55; exact qsame (spec_l19Has_c _ _ _ _ _ (hfr _))))
          go_wp2
          go_ret
          exact ⟨ret_b HO.out.symm, bl_drewN (bl_drewN ((Below.refl _ _).alloc (Nat.le_refl _) _) _) _⟩
    · have hall' := hall.out
      rw [take_all HN.out (show n ≤ k by omega)] at hall'
      have HK := hid hall'
      clear hall' h3
      cases hi : inB m 1 8
      · have HO := hid (show cacheOk m xs = false by simp [cacheOk, hi])
        go_wp2_with (go_at_call 54; refine (spec_l1In_c _ _ _ _).mono ?_; rintro e w' ⟨rfl, rfl⟩)
        go_ret
        exact ⟨ret_b HO.out.symm, bl_drewN ((Below.refl _ _).alloc (Nat.le_refl _) _) _⟩
      · have HO := hid (show cacheOk m xs = decide ((n : Int) ≤ m) by have := HN.out; have := HK.out; simp [cacheOk, *])
        go_wp2_with (go_at_call 54; refine (spec_l1In_c _ _ _ _).mono ?_; rintro e w' ⟨rfl, rfl⟩)
        go_ret
        exact ⟨ret_b HO.out.symm, bl_drewN ((Below.refl _ _).alloc (Nat.le_refl _) _) _⟩

end Go.Proofs.Ytnedkfmbeeodfaa
