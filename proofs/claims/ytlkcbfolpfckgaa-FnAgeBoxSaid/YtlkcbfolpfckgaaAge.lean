/- Walks: ages. -/
import Derived.Test.YtlkcbfolpfckgaaKeepP
import Derived.Test.YtlkcbfolpfckgaaExI
namespace Go.Proofs.Ytlkcbfolpfckgaa
open Go.RowKit

set_option maxHeartbeats 400000 in
theorem spec_AgeBox_c (a : Int) (w : World) :
    Calls Try.prog 15 #[.int .i64 a] w fun e w' => e = .returned (.int .i64 (ageBox a)) ∧ w = w' := by
  have hb : inB a 0 10000 = true ∨ inB a 0 10000 = false := by cases inB a 0 10000 <;> simp
  rcases hb with hb | hb
  · have h : 0 ≤ a ∧ a ≤ 10000 := by simpa [inB] using hb
    have h' := h.2
    have h := h.1
    by_cases h7 : a < 7
    · go_enter Try.func15, Try.ntmps15
      go_wp2_with (go_at_call 39; refine (spec_l1In_c _ _ _ _).mono ?_; rintro e w' ⟨rfl, rfl⟩)
      go_ret
      exact ⟨ret_i (by unfold ageBox; (repeat' split) <;> first | rfl | omega), rfl⟩
    · by_cases h28 : a < 28
      all_goals
        go_enter Try.func15, Try.ntmps15
        go_wp2_with (go_at_call 39; refine (spec_l1In_c _ _ _ _).mono ?_; rintro e w' ⟨rfl, rfl⟩)
        go_ret
        exact ⟨ret_i (by unfold ageBox; (repeat' split) <;> first | rfl | omega), rfl⟩
  · have h : a < 0 ∨ 10000 < a := inB_no hb
    have H := hid h
    clear h
    go_enter Try.func15, Try.ntmps15
    go_wp2_with (go_at_call 39; refine (spec_l1In_c _ _ _ _).mono ?_; rintro e w' ⟨rfl, rfl⟩)
    go_ret
    exact ⟨ret_i (by have := H.out; unfold ageBox; (repeat' split) <;> first | rfl | omega), rfl⟩

set_option maxHeartbeats 400000 in
theorem impl_AgeBox_c (a : Int) (w : World) :
    Calls Try.prog 16 #[.int .i64 a] w fun e w' => e = .returned (.int .i64 (ageBox a)) ∧ w = w' := by
  by_cases h : a < 0
  · go_enter Try.func16, Try.ntmps16
    go_wp2
    go_ret
    exact ⟨ret_i (by unfold ageBox; (repeat' split) <;> first | rfl | omega), rfl⟩
  · by_cases h' : 10000 < a
    · go_enter Try.func16, Try.ntmps16
      go_wp2
      go_ret
      exact ⟨ret_i (by unfold ageBox; (repeat' split) <;> first | rfl | omega), rfl⟩
    · by_cases h7 : a < 7
      · go_enter Try.func16, Try.ntmps16
        go_wp2
        go_ret
        exact ⟨ret_i (by unfold ageBox; (repeat' split) <;> first | rfl | omega), rfl⟩
      · by_cases h28 : a < 28
        all_goals
          go_enter Try.func16, Try.ntmps16
          go_wp2
          go_ret
          exact ⟨ret_i (by unfold ageBox; (repeat' split) <;> first | rfl | omega), rfl⟩

set_option maxHeartbeats 400000 in
theorem laws_FnExactAgeBox_c (a : Int) (w : World) :
    Calls Try.prog 4 #[.int .i64 a] w fun e w' => e = .returned (.bool true) ∧ w = w' := by
  go_enter Try.func4, Try.ntmps4
  go_wp2_with (first | (go_at_call 15; refine (spec_AgeBox_c _ _).mono ?_; rintro e w' ⟨rfl, rfl⟩) | (go_at_call 16; refine (impl_AgeBox_c _ _).mono ?_; rintro e w' ⟨rfl, rfl⟩))
  go_ret
  exact ⟨rfl, rfl⟩

end Go.Proofs.Ytlkcbfolpfckgaa
