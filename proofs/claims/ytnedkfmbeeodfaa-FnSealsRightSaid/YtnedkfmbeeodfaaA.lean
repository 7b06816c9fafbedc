/- Walks: bounds and prints. -/
import Derived.Test.YtnedkfmbeeodfaaTy
namespace Go.Proofs.Ytnedkfmbeeodfaa
open Go.RowKit

def inB (n lo hi : Int) : Bool := decide (lo ≤ n) && decide (n ≤ hi)
theorem inB_iff {n lo hi : Int} : inB n lo hi = true ↔ lo ≤ n ∧ n ≤ hi := by simp [inB]
theorem inB_yes {n lo hi : Int} (h : inB n lo hi = true) : lo ≤ n ∧ n ≤ hi := inB_iff.1 h
theorem inB_no {n lo hi : Int} (h : inB n lo hi = false) : n < lo ∨ hi < n := by simp [inB] at h; omega
abbrev pv (p : Int) : Bool := inB p 0 16777212

set_option maxHeartbeats 400000 in
theorem spec_l1In_c (n lo hi : Int) (w : World) :
    Calls Try.prog 54 #[.int .i64 n, .int .i64 lo, .int .i64 hi] w fun e w' => e = .returned (.bool (inB n lo hi)) ∧ w = w' := by
  go_enter Try.func54, Try.ntmps54
  go_wp2
  all_goals
    go_ret
    first | (have h : lo ≤ n := by assumption); exact ⟨by simp [inB, h], rfl⟩ | (have h : n < lo := by assumption); exact ⟨by simp [inB]; omega, rfl⟩


set_option maxHeartbeats 400000 in
theorem impl_printValid_c (n : Int) (w : World) :
    Calls Try.prog 56 #[.int .i64 n] w fun e w' => e = .returned (.bool (inB n 0 16777212)) ∧ w = w' := by
  go_enter Try.func56, Try.ntmps56
  go_wp2
  all_goals
    go_ret
    first | (have h : 0 ≤ n := by assumption); exact ⟨by simp [inB, h], rfl⟩ | (have h : n < 0 := by assumption); exact ⟨by simp [inB]; omega, rfl⟩

set_option maxHeartbeats 400000 in
theorem impl_printsValid_c (v : Value) (xs : List Int) (B : Nat) (w : World) (h : Ints w B v xs) :
    Calls Try.prog 61 #[v] w fun e w' => e = .returned (.bool (xs.all pv)) ∧ w = w' := by
  obtain ⟨n, hn⟩ : ∃ n, xs.length = n := ⟨_, rfl⟩
  obtain ⟨a, c, rfl, h1, h2, h3⟩ := h.ints hn
  have HN := hid hn
  clear hn
  go_enter Try.func61, Try.ntmps61
  go_wp2
  go_loop [7] (fun i => ∃ k : Nat, k ≤ n ∧ i = .int .i64 k ∧ Hid ((xs.take k).all pv = true)) (fun i => n - (intOf i).toNat)
  case atStart => exact ⟨0, Nat.zero_le _, rfl, rfl⟩
  case round =>
    obtain ⟨k, hk, rfl, hall⟩ := hrel
    by_cases hlt : k < n
    · obtain ⟨b, o, x, rfl, hb, hx, hc⟩ := h3 k hlt
      clear h3
      cases hp : inB x 0 16777212
      · go_wp2_with (go_at_call 56; refine (impl_printValid_c _ _).mono ?_; rintro e w' ⟨rfl, rfl⟩)
        go_ret
        exact ⟨ret_b (all_no pv hx.out hp).symm, rfl⟩
      · go_wp2_with (go_at_call 56; refine (impl_printValid_c _ _).mono ?_; rintro e w' ⟨rfl, rfl⟩)
        go_round
        case rel => exact ⟨k + 1, by omega, by go_num, by unfold Hid; rw [all_succ pv hx.out, hall.out]; exact hp⟩
        case measure => simp [intOf]; omega
    · go_wp2
      go_ret
      exact ⟨ret_b (by rw [← take_all HN.out (show n ≤ k by omega)]; exact hall.out.symm), rfl⟩

end Go.Proofs.Ytnedkfmbeeodfaa
