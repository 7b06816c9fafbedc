/- Walks: bounds and prints. -/
import Derived.Test.YtkfkcbceoekgjaaTy
namespace Go.Proofs.Ytkfkcbceoekgjaa
open Go.RowKit

def inB (n lo hi : Int) : Bool := decide (lo ≤ n) && decide (n ≤ hi)
theorem inB_iff {n lo hi : Int} : inB n lo hi = true ↔ lo ≤ n ∧ n ≤ hi := by simp [inB]
theorem inB_yes {n lo hi : Int} (h : inB n lo hi = true) : lo ≤ n ∧ n ≤ hi := inB_iff.1 h
theorem inB_no {n lo hi : Int} (h : inB n lo hi = false) : n < lo ∨ hi < n := by simp [inB] at h; omega
abbrev pv (p : Int) : Bool := inB p 0 16777212





end Go.Proofs.Ytkfkcbceoekgjaa
