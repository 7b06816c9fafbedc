/- Walks: ages. -/
import Derived.Test.YtlkcbfolpfckgaaW4
namespace Go.Proofs.Ytlkcbfolpfckgaa
open Go.RowKit

set_option maxHeartbeats 400000 in
theorem laws_FnExactFilterHas_c (f p : Int) (w : World) :
    Calls Try.prog 5 #[.int .i64 f, .int .i64 p] w fun e w' => e = .returned (.bool true) ∧ ∃ n, w' = w.drewN n := by
  go_enter Try.func5, Try.ntmps5
  go_wp2_with (first | (go_at_call 17; refine (specFilterHas_c _ _ _).mono ?_; rintro e w' ⟨rfl, n, rfl⟩) | (go_at_call 18; refine (implFilterHas_c _ _ _).mono ?_; rintro e w' ⟨rfl, m, rfl⟩))
  go_ret
  exact ⟨rfl, _, rfl⟩

def ageBox (a : Int) : Int := if a < 0 ∨ 10000 < a then -1 else if a < 7 then a else if a < 28 then 100 + a / 7 else 200 + a / 28

set_option maxHeartbeats 400000 in
theorem spec_AgeBox_c (a : Int) (w : World) :
    Calls Try.prog 15 #[.int .i64 a] w fun e w' => e = .returned (.int .i64 (ageBox a)) ∧ w = w' := by
  have hb : inB a 0 10000 = true ∨ inB a 0 10000 = false := by cases inB a 0 10000 <;> simp
  rcases hb with hb | hb
  · have h : 0 ≤ a ∧ a ≤ 10000 := by simpa [inB] using hb
    have h' := h.2
    have h := h.1
    by_cases h7 : a < 7
    · go_enter Try.func15, Try.ntmps15
      go_wp2_with (go_at_call 39; refine (l1In_c _ _ _ _).mono ?_; rintro e w' ⟨rfl, rfl⟩)
      go_ret
      exact ⟨ret_i (by unfold ageBox; (repeat' split) <;> first | rfl | omega), rfl⟩
    · by_cases h28 : a < 28
      all_goals
        go_enter Try.func15, Try.ntmps15
        go_wp2_with (go_at_call 39; refine (l1In_c _ _ _ _).mono ?_; rintro e w' ⟨rfl, rfl⟩)
        go_ret
        exact ⟨ret_i (by unfold ageBox; (repeat' split) <;> first | rfl | omega), rfl⟩
  · have h : a < 0 ∨ 10000 < a := by simp [inB] at hb; omega
    have H := hid h
    clear h
    go_enter Try.func15, Try.ntmps15
    go_wp2_with (go_at_call 39; refine (l1In_c _ _ _ _).mono ?_; rintro e w' ⟨rfl, rfl⟩)
    go_ret
    exact ⟨ret_i (by have := H.out; unfold ageBox; (repeat' split) <;> first | rfl | omega), rfl⟩

set_option maxHeartbeats 400000 in
theorem impl_AgeBox_c (a : Int) (w : World) :
    Calls Try.prog 16 #[.int .i64 a] w fun e w' => e = .returned (.int .i64 (ageBox a)) ∧ w = w' := by
  by_cases h : a < 0
  · go_enter Try.func16, Try.ntmps16
    go_wp2
    go_ret
    exact ⟨ret_i (by unfold ageBox; (repeat' split) <;> first | rfl | omega), rfl⟩
  · by_cases h' : 10000 < a
    · go_enter Try.func16, Try.ntmps16
      go_wp2
      go_ret
      exact ⟨ret_i (by unfold ageBox; (repeat' split) <;> first | rfl | omega), rfl⟩
    · by_cases h7 : a < 7
      · go_enter Try.func16, Try.ntmps16
        go_wp2
        go_ret
        exact ⟨ret_i (by unfold ageBox; (repeat' split) <;> first | rfl | omega), rfl⟩
      · by_cases h28 : a < 28
        all_goals
          go_enter Try.func16, Try.ntmps16
          go_wp2
          go_ret
          exact ⟨ret_i (by unfold ageBox; (repeat' split) <;> first | rfl | omega), rfl⟩

set_option maxHeartbeats 400000 in
theorem laws_FnExactAgeBox_c (a : Int) (w : World) :
    Calls Try.prog 4 #[.int .i64 a] w fun e w' => e = .returned (.bool true) ∧ w = w' := by
  go_enter Try.func4, Try.ntmps4
  go_wp2_with (first | (go_at_call 15; refine (spec_AgeBox_c _ _).mono ?_; rintro e w' ⟨rfl, rfl⟩) | (go_at_call 16; refine (impl_AgeBox_c _ _).mono ?_; rintro e w' ⟨rfl, rfl⟩))
  go_ret
  exact ⟨rfl, rfl⟩
end Go.Proofs.Ytlkcbfolpfckgaa
