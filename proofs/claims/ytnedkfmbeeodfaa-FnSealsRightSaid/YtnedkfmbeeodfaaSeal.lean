/- Walks: the next seal. -/
import Derived.Test.YtnedkfmbeeodfaaPrint
import Derived.Test.YtnedkfmbeeodfaaDrawT
namespace Go.Proofs.Ytnedkfmbeeodfaa
open Go.RowKit

/-- A version's value. -/
abbrev vv (v : Ver) : Value := .agg #[.int .i64 v.root, .int .i64 v.before, .string v.note]

theorem sealOk_cases (s : Int) (v : Ver) : (sealOk s v = false ∧ (pv s = false ∨ (pv s = true ∧ pv v.root = false) ∨ (pv s = true ∧ pv v.root = true ∧ inB v.before (-1) 12 = false) ∨ (pv s = true ∧ pv v.root = true ∧ inB v.before (-1) 12 = true ∧ wordOk (bs v.note) = false))) ∨
    (sealOk s v = true ∧ pv s = true ∧ pv v.root = true ∧ inB v.before (-1) 12 = true ∧ wordOk (bs v.note) = true) := by
  unfold sealOk
  cases pv s <;> cases pv v.root <;> cases inB v.before (-1) 12 <;> cases wordOk (bs v.note) <;> simp

set_option maxHeartbeats 2000000 in
theorem impl_SealNext_c (s : Int) (v : Ver) (w : World) :
    Calls Try.prog 38 #[.int .i64 s, vv v] w fun e w' => e = .returned (.int .i64 (sealNext s v)) ∧ Below w.heap.size w w' := by
  rcases sealOk_cases s v with ⟨ho, hc⟩ | ⟨ho, h1, h2, h3, h4⟩
  · have HO := hid (seal_off ho)
    obtain ⟨r, b, t⟩ := v
    simp only at hc
    rcases hc with h1 | ⟨h1, h2⟩ | ⟨h1, h2, h3⟩ | ⟨h1, h2, h3, h4⟩
    · go_enter Try.func38, Try.ntmps38
      go_wp2_with (go_at_call 56; refine (impl_printValid_c _ _).mono ?_; rintro e w' ⟨rfl, rfl⟩)
      go_ret
      exact ⟨ret_i HO.out.symm, (Below.refl _ _).alloc (Nat.le_refl _) _⟩
    · go_enter Try.func38, Try.ntmps38
      go_wp2_with (go_at_call 56; refine (impl_printValid_c _ _).mono ?_; rintro e w' ⟨rfl, rfl⟩)
      go_ret
      exact ⟨ret_i HO.out.symm, (Below.refl _ _).alloc (Nat.le_refl _) _⟩
    · rcases inB_no h3 with h3' | h3'
      · go_enter Try.func38, Try.ntmps38
        go_wp2_with (go_at_call 56; refine (impl_printValid_c _ _).mono ?_; rintro e w' ⟨rfl, rfl⟩)
        go_ret
        exact ⟨ret_i HO.out.symm, (Below.refl _ _).alloc (Nat.le_refl _) _⟩
      · have h5 : -1 ≤ b := by omega
        go_enter Try.func38, Try.ntmps38
        go_wp2_with (go_at_call 56; refine (impl_printValid_c _ _).mono ?_; rintro e w' ⟨rfl, rfl⟩)
        go_ret
        exact ⟨ret_i HO.out.symm, (Below.refl _ _).alloc (Nat.le_refl _) _⟩
    · obtain ⟨h5, h6⟩ := inB_yes h3
      go_enter Try.func38, Try.ntmps38
      go_wp2_with (first | (go_at_call 56; refine (impl_printValid_c _ _).mono ?_; rintro e w' ⟨rfl, rfl⟩) | (go_at_call 60; refine (impl_WordValid_c _ _).mono ?_; rintro e w' ⟨rfl, rfl⟩))
      go_ret
      exact ⟨ret_i HO.out.symm, (Below.refl _ _).alloc (Nat.le_refl _) _⟩
  · have HO := hid (show sealNext s v = plist [s, v.root, v.before + 1, printOf (bs v.note)] by unfold sealNext; rw [if_pos ho])
    obtain ⟨r, b, t⟩ := v
    simp only at h2 h3 h4
    obtain ⟨h5, h6⟩ := inB_yes h3
    obtain ⟨q, hq⟩ : ∃ q, printOf (bs t) = q := ⟨_, rfl⟩
    have HQ := hid hq
    simp only [hq] at HO
    have hb1 : IntKind.i64.wrap (b + 1) = b + 1 := IntWalk.i64_in _ (by omega)
    go_enter Try.func38, Try.ntmps38
    go_wp2_with (first | (go_at_call 56; refine (impl_printValid_c _ _).mono ?_; rintro e w' ⟨rfl, rfl⟩) | (go_at_call 60; refine (impl_WordValid_c _ _).mono ?_; rintro e w' ⟨rfl, rfl⟩))
    go_wp2_with fail
    refine wp_region_early (n := 9) _ rfl rfl (by kernel_rfl) (by kernel_rfl) (fun _ _ _ _ h => h) ?_
    simp only [List.take_succ_cons, List.take_zero, List.drop_succ_cons, List.drop_zero, Act.put, Act.eval, List.setIfInBounds_toArray, List.set_cons_succ, List.set_cons_zero]
    repeat (go_big_quiet_step ((go_at_call 69; exact qsame (impl_PrintOf_c _ _))))
    refine wpQuiet_nil ?_
    intro q1
    obtain ⟨W, hW⟩ : ∃ W, W = (w.alloc (.cells #[.int .i64 r, .int .i64 b, .string t] 52)).drewN q1 := ⟨_, rfl⟩
    have hsz : W.heap.size = w.heap.size + 1 := by rw [hW]; simp
    have hbW : Below w.heap.size w W := by rw [hW]; exact bl_drewN ((Below.refl _ _).alloc (Nat.le_refl _) _) _
    obtain ⟨B, hlit⟩ : ∃ B, Ints (W.alloc (.cells #[.int .i64 s, .int .i64 r, .int .i64 (b + 1), .int .i64 q] 3)) B (.slice (some ⟨w.heap.size + 1, 0, none⟩) 4 4) [s, r, b + 1, q] := ⟨_, by rw [← hsz]; exact Rd.of_own (Own.lit (enc := encI) (e := 3) (k := 1) W (B := 0) (Nat.zero_le _) [s, r, b + 1, q] #[.int .i64 s, .int .i64 r, .int .i64 (b + 1), .int .i64 q] 4 rfl rfl rfl (by simp [maxLen]))⟩
    have hal : Below w.heap.size w (W.alloc (.cells #[.int .i64 s, .int .i64 r, .int .i64 (b + 1), .int .i64 q] 3)) := hbW.alloc hbW.size _
    rw [hW] at hlit hal
    obtain ⟨z, hz⟩ : ∃ z, plist [s, r, b + 1, q] = z := ⟨_, rfl⟩
    rw [hz] at HO
    have hcall := impl_PrintList_c _ [s, r, b + 1, q] _ _ hlit
    rw [hz] at hcall
    have HAL := hid hal
    clear hlit hz hbW hsz hW hal
    rw [HQ.out]
    go_wp2_with fail
    refine hcall.mono ?_
    rintro e w' ⟨rfl, rfl⟩
    clear hcall
    go_wp2
    go_ret
    exact ⟨ret_i HO.out.symm, HAL.out⟩


set_option maxHeartbeats 2000000 in
theorem spec_SealNext_c (s : Int) (v : Ver) (w : World) (hv : v.note.size ≤ 4611686018427387904) :
    Calls Try.prog 36 #[.int .i64 s, vv v] w fun e w' => e = .returned (.int .i64 (sealNext s v)) ∧ Below w.heap.size w w' := by
  rcases sealOk_cases s v with ⟨ho, hc⟩ | ⟨ho, h1, h2, h3, h4⟩
  · have HO := hid (seal_off ho)
    obtain ⟨r, b, t⟩ := v
    simp only at hc hv
    rcases hc with h1 | ⟨h1, h2⟩ | ⟨h1, h2, h3⟩ | ⟨h1, h2, h3, h4⟩
    · go_enter Try.func36, Try.ntmps36
      go_wp2_with (go_at_call 54; refine (spec_l1In_c _ _ _ _).mono ?_; rintro e w' ⟨rfl, rfl⟩)
      go_ret
      exact ⟨ret_i HO.out.symm, (Below.refl _ _).alloc (Nat.le_refl _) _⟩
    · go_enter Try.func36, Try.ntmps36
      go_wp2_with (go_at_call 54; refine (spec_l1In_c _ _ _ _).mono ?_; rintro e w' ⟨rfl, rfl⟩)
      go_ret
      exact ⟨ret_i HO.out.symm, (Below.refl _ _).alloc (Nat.le_refl _) _⟩
    · rcases inB_no h3 with h3' | h3'
      · go_enter Try.func36, Try.ntmps36
        go_wp2_with (go_at_call 54; refine (spec_l1In_c _ _ _ _).mono ?_; rintro e w' ⟨rfl, rfl⟩)
        go_ret
        exact ⟨ret_i HO.out.symm, (Below.refl _ _).alloc (Nat.le_refl _) _⟩
      · have h5 : -1 ≤ b := by omega
        go_enter Try.func36, Try.ntmps36
        go_wp2_with (go_at_call 54; refine (spec_l1In_c _ _ _ _).mono ?_; rintro e w' ⟨rfl, rfl⟩)
        go_ret
        exact ⟨ret_i HO.out.symm, (Below.refl _ _).alloc (Nat.le_refl _) _⟩
    · obtain ⟨h5, h6⟩ := inB_yes h3
      go_enter Try.func36, Try.ntmps36
      go_wp2_with (first | (go_at_call 54; refine (spec_l1In_c _ _ _ _).mono ?_; rintro e w' ⟨rfl, rfl⟩) | (go_at_call 65; refine (spec_WordValid_c _ _ hv).mono ?_; rintro e w' ⟨rfl, rfl⟩))
      go_ret
      exact ⟨ret_i HO.out.symm, (Below.refl _ _).alloc (Nat.le_refl _) _⟩
  · have HO := hid (show sealNext s v = plist [s, v.root, v.before + 1, printOf (bs v.note)] by unfold sealNext; rw [if_pos ho])
    obtain ⟨r, b, t⟩ := v
    simp only at h2 h3 h4 hv
    obtain ⟨h5, h6⟩ := inB_yes h3
    obtain ⟨q, hq⟩ : ∃ q, printOf (bs t) = q := ⟨_, rfl⟩
    have HQ := hid hq
    simp only [hq] at HO
    have hb1 : IntKind.i64.wrap (b + 1) = b + 1 := IntWalk.i64_in _ (by omega)
    go_enter Try.func36, Try.ntmps36
    go_wp2_with (first | (go_at_call 54; refine (spec_l1In_c _ _ _ _).mono ?_; rintro e w' ⟨rfl, rfl⟩) | (go_at_call 65; refine (spec_WordValid_c _ _ hv).mono ?_; rintro e w' ⟨rfl, rfl⟩))
    go_wp2_with fail
    refine wp_region_early (n := 9) _ rfl rfl (by kernel_rfl) (by kernel_rfl) (fun _ _ _ _ h => h) ?_
    simp only [List.take_succ_cons, List.take_zero, List.drop_succ_cons, List.drop_zero, Act.put, Act.eval, List.setIfInBounds_toArray, List.set_cons_succ, List.set_cons_zero]
    repeat (go_big_quiet_step ((go_at_call 67; exact qsame (spec_PrintOf_c _ _ hv))))
    refine wpQuiet_nil ?_
    intro q1
    obtain ⟨W, hW⟩ : ∃ W, W = (w.alloc (.cells #[.int .i64 r, .int .i64 b, .string t] 52)).drewN q1 := ⟨_, rfl⟩
    have hsz : W.heap.size = w.heap.size + 1 := by rw [hW]; simp
    have hbW : Below w.heap.size w W := by rw [hW]; exact bl_drewN ((Below.refl _ _).alloc (Nat.le_refl _) _) _
    obtain ⟨B, hlit⟩ : ∃ B, Ints (W.alloc (.cells #[.int .i64 s, .int .i64 r, .int .i64 (b + 1), .int .i64 q] 3)) B (.slice (some ⟨w.heap.size + 1, 0, none⟩) 4 4) [s, r, b + 1, q] := ⟨_, by rw [← hsz]; exact Rd.of_own (Own.lit (enc := encI) (e := 3) (k := 1) W (B := 0) (Nat.zero_le _) [s, r, b + 1, q] #[.int .i64 s, .int .i64 r, .int .i64 (b + 1), .int .i64 q] 4 rfl rfl rfl (by simp [maxLen]))⟩
    have hal : Below w.heap.size w (W.alloc (.cells #[.int .i64 s, .int .i64 r, .int .i64 (b + 1), .int .i64 q] 3)) := hbW.alloc hbW.size _
    rw [hW] at hlit hal
    obtain ⟨z, hz⟩ : ∃ z, plist [s, r, b + 1, q] = z := ⟨_, rfl⟩
    rw [hz] at HO
    have hcall := spec_PrintList_c _ [s, r, b + 1, q] _ _ hlit (by simp)
    rw [hz] at hcall
    have HAL := hid hal
    clear hlit hz hbW hsz hW hal
    rw [HQ.out]
    go_wp2_with fail
    refine hcall.mono ?_
    rintro e w' ⟨rfl, rfl⟩
    clear hcall
    go_wp2
    go_ret
    exact ⟨ret_i HO.out.symm, HAL.out⟩


end Go.Proofs.Ytnedkfmbeeodfaa
