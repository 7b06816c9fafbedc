/- Walks: bounds, filters of one print. -/
import Derived.Test.YtlkcbfolpfckgaaProg
import Derived.Test.YtlkcbfolpfckgaaBase
import Derived.BigQuiet
namespace Go.Proofs.Ytlkcbfolpfckgaa
open Go.RowKit

def inB (n lo hi : Int) : Bool := decide (lo ≤ n) && decide (n ≤ hi)

set_option maxHeartbeats 400000 in
theorem l1In_c (n lo hi : Int) (w : World) :
    Calls Try.prog 39 #[.int .i64 n, .int .i64 lo, .int .i64 hi] w fun e w' => e = .returned (.bool (inB n lo hi)) ∧ w = w' := by
  go_enter Try.func39, Try.ntmps39
  go_wp2
  all_goals
    go_ret
    first | (have h : lo ≤ n := by assumption); exact ⟨by simp [inB, h], rfl⟩ | (have h : n < lo := by assumption); exact ⟨by simp [inB]; omega, rfl⟩

set_option maxHeartbeats 400000 in
theorem filterValid_c (n : Int) (w : World) :
    Calls Try.prog 40 #[.int .i64 n] w fun e w' => e = .returned (.bool (inB n 0 1073741823)) ∧ w = w' := by
  go_enter Try.func40, Try.ntmps40
  go_wp2
  all_goals
    go_ret
    first | (have h : 0 ≤ n := by assumption); exact ⟨by simp [inB, h], rfl⟩ | (have h : n < 0 := by assumption); exact ⟨by simp [inB]; omega, rfl⟩

set_option maxHeartbeats 400000 in
theorem printValid_c (n : Int) (w : World) :
    Calls Try.prog 42 #[.int .i64 n] w fun e w' => e = .returned (.bool (inB n 0 16777212)) ∧ w = w' := by
  go_enter Try.func42, Try.ntmps42
  go_wp2
  all_goals
    go_ret
    first | (have h : 0 ≤ n := by assumption); exact ⟨by simp [inB, h], rfl⟩ | (have h : n < 0 := by assumption); exact ⟨by simp [inB]; omega, rfl⟩

def fjoin (a b : Int) : Int := if inB a 0 1073741823 && inB b 0 1073741823 then bits .or .i64 a b else -1

set_option maxHeartbeats 400000 in
theorem specFilterJoin_c (a b : Int) (w : World) :
    Calls Try.prog 13 #[.int .i64 a, .int .i64 b] w fun e w' => e = .returned (.int .i64 (fjoin a b)) ∧ w = w' := by
  cases h1 : inB a 0 1073741823 <;> cases h2 : inB b 0 1073741823
  all_goals
    go_enter Try.func13, Try.ntmps13
    go_wp2_with (go_at_call 39; refine (l1In_c _ _ _ _).mono ?_; rintro e w' ⟨rfl, rfl⟩)
    go_ret
    exact ⟨by simp [fjoin, h1, h2], rfl⟩

set_option maxHeartbeats 400000 in
theorem implFilterJoin_c (a b : Int) (w : World) :
    Calls Try.prog 14 #[.int .i64 a, .int .i64 b] w fun e w' => e = .returned (.int .i64 (fjoin a b)) ∧ w = w' := by
  cases h1 : inB a 0 1073741823 <;> cases h2 : inB b 0 1073741823
  all_goals
    go_enter Try.func14, Try.ntmps14
    go_wp2_with (go_at_call 40; refine (filterValid_c _ _).mono ?_; rintro e w' ⟨rfl, rfl⟩)
    go_ret
    exact ⟨by simp [fjoin, h1, h2], rfl⟩

set_option maxHeartbeats 400000 in
theorem fnExactFilterJoin_c (a b : Int) (w : World) :
    Calls Try.prog 3 #[.int .i64 a, .int .i64 b] w fun e w' => e = .returned (.bool true) ∧ w = w' := by
  go_enter Try.func3, Try.ntmps3
  go_wp2_with (first | (go_at_call 13; refine (specFilterJoin_c _ _ _).mono ?_; rintro e w' ⟨rfl, rfl⟩) | (go_at_call 14; refine (implFilterJoin_c _ _ _).mono ?_; rintro e w' ⟨rfl, rfl⟩))
  go_ret
  exact ⟨rfl, rfl⟩
end Go.Proofs.Ytlkcbfolpfckgaa
