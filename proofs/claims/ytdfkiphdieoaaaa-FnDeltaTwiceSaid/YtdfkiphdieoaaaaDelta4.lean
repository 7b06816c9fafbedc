/- Walks: deltas that are applied, the reference's. -/
import Derived.Test.YtdfkiphdieoaaaaDelta3
namespace Go.Proofs.Ytdfkiphdieoaaaa
open Go.RowKit

set_option maxHeartbeats 2000000 in
theorem spec_ApplyDelta_c (a : ByteArray) (h t : Int) (p : ByteArray) (w : World) (ha : a.size ≤ 1099511627776) (hp : p.size ≤ 1099511627776) :
    Calls Try.prog 13 #[.string a, dv h t p] w fun e w' => e = .returned (.tuple #[.string (applyDelta a h t p), .bool (applyOk a h t p)]) ∧ Below w.heap.size w w' := by
  cases h1 : textOk (bs a)
  · have HO := hid (show applyOk a h t p = false by simp [applyOk, h1])
    go_enter Try.func13, Try.ntmps13
    go_wp2_with (go_at_call 28; refine (spec_TextValid_c _ _ (by omega)).mono ?_; rintro e w' ⟨rfl, rfl⟩)
    go_returns
    rw [apply_off HO.out, HO.out]
    exact ⟨rfl, (Below.refl _ _).alloc (Nat.le_refl _) _⟩
  · cases h2 : dFits a h t
    · have HO := hid (show applyOk a h t p = false by simp [applyOk, h2])
      cases h3 : inB h 0 a.size
      all_goals
        first
        | ((have h4 : inB t 0 ((a.size : Int) - h) = false := (by simp [dFits, h3] at h2; exact h2)); (have h5 := inB_yes h3); (obtain ⟨h6, h7⟩ := h5))
        | skip
        go_enter Try.func13, Try.ntmps13
        go_wp2_with (first | (go_at_call 28; refine (spec_TextValid_c _ _ (by omega)).mono ?_; rintro e w' ⟨rfl, rfl⟩) | (go_at_call 29; refine (spec_l1In_c _ _ _ _).mono ?_; rintro e w' ⟨rfl, rfl⟩))
        go_returns
        rw [apply_off HO.out, HO.out]
        exact ⟨rfl, (Below.refl _ _).alloc (Nat.le_refl _) _⟩
    · have hf := h2
      simp only [dFits, Bool.and_eq_true] at hf
      obtain ⟨⟨g1, g2⟩, ⟨g3, g4⟩⟩ := And.intro (inB_yes hf.1) (inB_yes hf.2)
      clear hf
      obtain ⟨hn, rfl⟩ : ∃ n : Nat, h = n := ⟨h.toNat, by omega⟩
      obtain ⟨tn, rfl⟩ : ∃ n : Nat, t = n := ⟨t.toNat, by omega⟩
      obtain ⟨m, hm⟩ : ∃ m : Nat, (a.size : Int) - tn = m := ⟨a.size - tn, by omega⟩
      have h60 := textOk_len h1
      rw [bs_len] at h60
      have hsz := hid (dText_size a p hn tn (by omega))
      have h3 : inB (hn : Int) 0 a.size = true := inB_iff.2 ⟨g1, g2⟩
      have h4 : inB (tn : Int) 0 ((a.size : Int) - hn) = true := inB_iff.2 ⟨g3, g4⟩
      · go_enter Try.func13, Try.ntmps13
        go_wp2_with (first | (go_at_call 28; refine (spec_TextValid_c _ _ (by omega)).mono ?_; rintro e w' ⟨rfl, rfl⟩) | (go_at_call 29; refine (spec_l1In_c _ _ _ _).mono ?_; rintro e w' ⟨rfl, rfl⟩))
        go_quiet (fail)
        obtain ⟨D, hD⟩ : ∃ D, D = a.extract 0 hn ++ p ++ a.extract m a.size := ⟨_, rfl⟩
        have HD := hid (show dText a hn tn p = D by rw [hD]; unfold dText; rw [hm]; simp)
        have hDs : D.size ≤ 2199023255552 := by rw [hD]; simp only [ByteArray.size_append, ByteArray.size_extract]; omega
        rw [← hD]
        clear hD
        have c2 := bl_drewN ((Below.refl w.heap.size w).alloc (Nat.le_refl _) (.cells #[.int .i64 hn, .int .i64 tn, .string p] 27)) nq
        skip
        cases h5 : textOk (bs D)
        · have HO := hid (show applyOk a hn tn p = false by simp [applyOk, HD.out, h5])
          go_wp2_with (go_at_call 28; refine (spec_TextValid_c _ _ (by omega)).mono ?_; rintro e w' ⟨rfl, rfl⟩)
          go_returns
          rw [apply_off HO.out, HO.out]
          exact ⟨rfl, c2⟩
        · have HO := hid (show applyOk a hn tn p = true by simp [applyOk, HD.out, h5, h1, h2])
          go_wp2_with (go_at_call 28; refine (spec_TextValid_c _ _ (by omega)).mono ?_; rintro e w' ⟨rfl, rfl⟩)
          go_returns
          rw [apply_on HO.out, HO.out, HD.out]
          exact ⟨rfl, c2⟩

end Go.Proofs.Ytdfkiphdieoaaaa
