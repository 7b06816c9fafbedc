/- Walks: bounds and prints. -/
import Derived.Test.YtdfkiphdieoaaaaTy
namespace Go.Proofs.Ytdfkiphdieoaaaa
open Go.RowKit

def inB (n lo hi : Int) : Bool := decide (lo ≤ n) && decide (n ≤ hi)
theorem inB_iff {n lo hi : Int} : inB n lo hi = true ↔ lo ≤ n ∧ n ≤ hi := by simp [inB]
theorem inB_yes {n lo hi : Int} (h : inB n lo hi = true) : lo ≤ n ∧ n ≤ hi := inB_iff.1 h
theorem inB_no {n lo hi : Int} (h : inB n lo hi = false) : n < lo ∨ hi < n := by simp [inB] at h; omega
abbrev pv (p : Int) : Bool := inB p 0 16777212

set_option maxHeartbeats 400000 in
theorem spec_l1In_c (n lo hi : Int) (w : World) :
    Calls Try.prog 29 #[.int .i64 n, .int .i64 lo, .int .i64 hi] w fun e w' => e = .returned (.bool (inB n lo hi)) ∧ w = w' := by
  go_enter Try.func29, Try.ntmps29
  go_wp2
  all_goals
    go_ret
    first | (have h : lo ≤ n := by assumption); exact ⟨by simp [inB, h], rfl⟩ | (have h : n < lo := by assumption); exact ⟨by simp [inB]; omega, rfl⟩




end Go.Proofs.Ytdfkiphdieoaaaa
