/- Walks: deltas, the reference's. -/
import Derived.Test.YtdfkiphdieoaaaaDelta
namespace Go.Proofs.Ytdfkiphdieoaaaa
open Go.RowKit

set_option maxHeartbeats 2000000 in
theorem spec_DeltaOf_c (a b : ByteArray) (w : World) (ha0 : a.size ≤ 4611686018427387904) (hb0 : b.size ≤ 4611686018427387904) :
    Calls Try.prog 16 #[.string a, .string b] w fun e w' => e = .returned (.tuple #[(deltaOf a b).1, .bool (deltaOf a b).2]) ∧ Below w.heap.size w w' := by
  cases ha : textOk (bs a)
  · have HD := hid (show deltaOf a b = (dv 0 0 ⟨#[]⟩, false) by simp [deltaOf, ha])
    go_enter Try.func16, Try.ntmps16
    go_wp2_with (go_at_call 28; refine (spec_TextValid_c _ _ (by assumption)).mono ?_; rintro e w' ⟨rfl, rfl⟩)
    go_returns
    rw [HD.out]
    exact ⟨rfl, (Below.refl _ _).alloc (Nat.le_refl _) _⟩
  · cases hb : textOk (bs b)
    · have HD := hid (show deltaOf a b = (dv 0 0 ⟨#[]⟩, false) by simp [deltaOf, hb])
      go_enter Try.func16, Try.ntmps16
      go_wp2_with (go_at_call 28; refine (spec_TextValid_c _ _ (by assumption)).mono ?_; rintro e w' ⟨rfl, rfl⟩)
      go_returns
      rw [HD.out]
      exact ⟨rfl, (Below.refl _ _).alloc (Nat.le_refl _) _⟩
    · have HD := hid (show deltaOf a b = (dv (dHead a b) (dTail a b) (b.extract (dHead a b) (b.size - dTail a b)), true) by simp [deltaOf, ha, hb])
      have ha' := textOk_len ha
      have hb' := textOk_len hb
      rw [bs_len] at ha' hb'
      go_enter Try.func16, Try.ntmps16
      go_wp2_with (go_at_call 28; refine (spec_TextValid_c _ _ (by assumption)).mono ?_; rintro e w' ⟨rfl, rfl⟩)
      go_loopw [6] (fun i wr => ∃ (k q : Nat), k ≤ a.size ∧ k ≤ b.size ∧ i = .int .i64 k ∧ Hid (dHead a b = k + lcp ((bs a).drop k) ((bs b).drop k)) ∧ wr = (w.alloc (.cells #[.int .i64 0, .int .i64 0, .string ⟨#[]⟩] 27)).drewN q) (fun i _ => a.size - (intOf i).toNat)
      case atStart => exact ⟨0, 0, Nat.zero_le _, Nat.zero_le _, rfl, (by unfold Hid dHead; simp), rfl⟩
      case round =>
        obtain ⟨k, q, hk1, hk2, rfl, hlcp, rfl⟩ := hrel
        rcases lcp_ways a b k with ⟨hka, hkb, hE, hN⟩ | ⟨hka, hkb, hE, hN⟩ | ⟨hka, hkb, hN⟩ | ⟨hka, hN⟩
        · have hm : (k : Int) < (a.size : Int) := by omega
          have hn : (k : Int) < (b.size : Int) := by omega
          go_wp2
          go_quiet (fail)
          go_wp2
          go_roundw
          case rel => exact ⟨k + 1, _, by omega, by omega, by go_num, by have h1 := hlcp.out; rw [hN.out] at h1; unfold Hid; omega, rfl⟩
          case measure => simp [intOf]; omega
        all_goals
          have hH := hid (show dHead a b = k by have h1 := hlcp.out; rw [hN.out] at h1; omega)
          clear hlcp hN
          first
          | ((have hm : (k : Int) < (a.size : Int) := (by omega)); (have hn : (k : Int) < (b.size : Int) := (by omega)))
          | ((have hm : (k : Int) < (a.size : Int) := (by omega)); (have hn : decide (k < b.size) = false := (by simp; omega)))
          | (have hm : decide (k < a.size) = false := (by simp; omega))
          go_wp2
          go_quiet (fail)
          go_wp2
          go_loopw [7] (fun i wr => ∃ (j q : Nat), j + k ≤ a.size ∧ j + k ≤ b.size ∧ i = .int .i64 j ∧ Hid (dTail a b = j + lcp (((bs a).drop k).reverse.drop j) (((bs b).drop k).reverse.drop j)) ∧ wr = (w.alloc (.cells #[.int .i64 0, .int .i64 0, .string ⟨#[]⟩] 27)).drewN q) (fun i _ => a.size - (intOf i).toNat)
          case atStart => exact ⟨0, _, by omega, by omega, rfl, (by unfold Hid dTail; rw [hH.out]; simp), World.drewN_drewN _ _ _⟩
          case round =>
            obtain ⟨j, q, hj1, hj2, rfl, hlcp, rfl⟩ := hrel
            rcases lcp_ways' a b k j with ⟨p, r, hp, hr, ep, er, g1, g2, hE, hN⟩ | ⟨p, r, hp, hr, ep, er, g1, g2, hE, hN⟩ | ⟨g1, g2, hN⟩ | ⟨g1, hN⟩
            · have hm' : (j : Int) < (a.size : Int) - k := by omega
              have hn' : (j : Int) < (b.size : Int) - k := by omega
              have f1 : (a.size : Int) - 1 - j = (p : Int) := by omega
              have f2 : (b.size : Int) - 1 - j = (r : Int) := by omega
              go_wp2
              go_quiet (fail)
              go_wp2
              go_roundw
              case rel => exact ⟨j + 1, _, by omega, by omega, by go_num, by have h1 := hlcp.out; rw [hN.out] at h1; unfold Hid; omega, rfl⟩
              case measure => simp [intOf]; omega
            all_goals
              have hT := hid (show dTail a b = j by have h1 := hlcp.out; rw [hN.out] at h1; omega)
              clear hlcp hN
              first
              | (exfalso; omega)
              | ((first
                  | ((have hm' : (j : Int) < (a.size : Int) - k := (by omega)); (have hn' : (j : Int) < (b.size : Int) - k := (by omega)); (have f1 : (a.size : Int) - 1 - j = (p : Int) := (by omega)); (have f2 : (b.size : Int) - 1 - j = (r : Int) := (by omega)))
                  | ((have hm' : (j : Int) < (a.size : Int) - k := (by omega)); (have hn' : decide ((j : Int) < (b.size : Int) - k) = false := (by simp; omega)))
                  | (have hm' : decide ((j : Int) < (a.size : Int) - k) = false := (by simp; omega)))
                 go_wp2
                 go_quiet (fail)
                 go_wp2
                 go_returns
                 refine ⟨by rw [HD.out, hH.out, hT.out], ?_⟩
                 refine Below.setCell (Below.setCell (Below.setCell (bl_drewN ((Below.refl _ _).alloc (Nat.le_refl _) _) _) ?_ _) ?_ _) ?_ _ <;> exact Nat.le_refl _)

end Go.Proofs.Ytdfkiphdieoaaaa
