/- Walks: bounds and prints. -/
import Derived.Test.YtkfkcbceoekgjaaDoorTy
namespace Go.Proofs.YtkfkcbceoekgjaaDoor
open Go.RowKit

def inB (n lo hi : Int) : Bool := decide (lo ≤ n) && decide (n ≤ hi)
theorem inB_iff {n lo hi : Int} : inB n lo hi = true ↔ lo ≤ n ∧ n ≤ hi := by simp [inB]
theorem inB_yes {n lo hi : Int} (h : inB n lo hi = true) : lo ≤ n ∧ n ≤ hi := inB_iff.1 h
theorem inB_no {n lo hi : Int} (h : inB n lo hi = false) : n < lo ∨ hi < n := by simp [inB] at h; omega
abbrev pv (p : Int) : Bool := inB p 0 16777212

set_option maxHeartbeats 400000 in
theorem spec_l1In_c (n lo hi : Int) (w : World) :
    Calls Tryd.prog 68 #[.int .i64 n, .int .i64 lo, .int .i64 hi] w fun e w' => e = .returned (.bool (inB n lo hi)) ∧ w = w' := by
  go_enter Tryd.func68, Tryd.ntmps68
  go_wp2
  all_goals
    go_ret
    first | (have h : lo ≤ n := by assumption); exact ⟨by simp [inB, h], rfl⟩ | (have h : n < lo := by assumption); exact ⟨by simp [inB]; omega, rfl⟩


set_option maxHeartbeats 400000 in
theorem impl_printValid_c (n : Int) (w : World) :
    Calls Tryd.prog 79 #[.int .i64 n] w fun e w' => e = .returned (.bool (inB n 0 16777212)) ∧ w = w' := by
  go_enter Tryd.func79, Tryd.ntmps79
  go_wp2
  all_goals
    go_ret
    first | (have h : 0 ≤ n := by assumption); exact ⟨by simp [inB, h], rfl⟩ | (have h : n < 0 := by assumption); exact ⟨by simp [inB]; omega, rfl⟩


end Go.Proofs.YtkfkcbceoekgjaaDoor
