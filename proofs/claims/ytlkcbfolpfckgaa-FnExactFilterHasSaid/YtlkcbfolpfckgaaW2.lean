/- Walks: lists of prints. -/
import Derived.Test.YtlkcbfolpfckgaaW1
namespace Go.Proofs.Ytlkcbfolpfckgaa
open Go.RowKit

def pv (p : Int) : Bool := inB p 0 16777212

set_option maxHeartbeats 400000 in
theorem printsValid_c (v : Value) (xs : List Int) (B : Nat) (w : World) (h : Ints w B v xs) :
    Calls Try.prog 44 #[v] w fun e w' => e = .returned (.bool (xs.all pv)) ∧ w = w' := by
  obtain ⟨a, c, rfl, h1, h2, h3⟩ := h.open_
  go_enter Try.func44, Try.ntmps44
  go_wp2
  go_loop [7] (fun i => ∃ k : Nat, k ≤ xs.length ∧ i = .int .i64 k ∧ (xs.take k).all pv = true) (fun i => xs.length - (intOf i).toNat)
  case atStart => exact ⟨0, Nat.zero_le _, rfl, rfl⟩
  case round =>
    obtain ⟨k, hk, rfl, hall⟩ := hrel
    by_cases hlt : k < xs.length
    · obtain ⟨b, o, rfl, hb, hc⟩ := h3 k hlt
      have HS := hid (all_take_succ pv xs k hlt)
      have HA := hid hall
      clear hall h3
      cases hp : inB xs[k] 0 16777212
      · go_wp2_with (go_at_call 42; refine (printValid_c _ _).mono ?_; rintro e w' ⟨rfl, rfl⟩)
        go_ret
        exact ⟨ret_b (all_false_of pv xs k hlt hp).symm, rfl⟩
      · go_wp2_with (go_at_call 42; refine (printValid_c _ _).mono ?_; rintro e w' ⟨rfl, rfl⟩)
        go_round
        case rel => exact ⟨k + 1, by omega, by go_num, by rw [HS.out, HA.out]; exact hp⟩
        case measure => simp [intOf]; omega
    · have : k = xs.length := by omega
      subst this
      go_wp2
      go_ret
      exact ⟨ret_b (by rw [List.take_length] at hall; exact hall.symm), rfl⟩

def mask (p : Int) : Int := bits .or .i64 (wrap64 (2 ^ (p % 30).toNat)) (wrap64 (2 ^ (p / 30 % 30).toNat))

set_option maxHeartbeats 400000 in
theorem bitsOf_c (p : Int) (w : World) (h0 : 0 ≤ p) (h1 : p ≤ 16777212) :
    Calls Try.prog 43 #[.int .i64 p] w fun e w' => e = .returned (.int .i64 (mask p)) ∧ ∃ n, w' = w.drewN n := by
  have a1 : 0 ≤ p % 30 := by omega
  have a2 : p % 30 ≤ 29 := by omega
  have a3 : 0 ≤ p / 30 % 30 := by omega
  have a4 : p / 30 % 30 ≤ 29 := by omega
  go_enter Try.func43, Try.ntmps43
  go_wp2
  go_quiet (fail)
  go_wp2
  go_ret
  exact ⟨rfl, _, rfl⟩

set_option maxHeartbeats 400000 in
theorem l26Mask_c (p : Int) (w : World) (h0 : 0 ≤ p) (h1 : p ≤ 16777212) :
    Calls Try.prog 41 #[.int .i64 p] w fun e w' => e = .returned (.int .i64 (mask p)) ∧ ∃ n, w' = w.drewN n := by
  have a1 : 0 ≤ p % 30 := by omega
  have a2 : p % 30 ≤ 29 := by omega
  have a3 : 0 ≤ p / 30 % 30 := by omega
  have a4 : p / 30 % 30 ≤ 29 := by omega
  go_enter Try.func41, Try.ntmps41
  go_wp2
  go_quiet (fail)
  go_wp2
  go_ret
  exact ⟨rfl, _, rfl⟩

theorem pv_of {p : Int} (h : inB p 0 16777212 = true) : 0 ≤ p ∧ p ≤ 16777212 := by simpa [inB] using h

def fhas (f p : Int) : Bool := inB f 0 1073741823 && inB p 0 16777212 && (bits .and .i64 f (mask p) == mask p)

set_option maxHeartbeats 400000 in
theorem specFilterHas_c (f p : Int) (w : World) :
    Calls Try.prog 17 #[.int .i64 f, .int .i64 p] w fun e w' => e = .returned (.bool (fhas f p)) ∧ ∃ n, w' = w.drewN n := by
  cases h1 : inB f 0 1073741823 <;> cases h2 : inB p 0 16777212
  case true.true =>
    have hp := pv_of h2
    go_enter Try.func17, Try.ntmps17
    go_wp2_with (first | (go_at_call 39; refine (l1In_c _ _ _ _).mono ?_; rintro e w' ⟨rfl, rfl⟩) | (go_at_call 39; refine (l1In_c _ _ _ _).mono ?_; rintro e w' ⟨rfl, rfl⟩) | (go_at_call 41; refine (l26Mask_c _ _ hp.1 hp.2).mono ?_; rintro e w' ⟨rfl, n, rfl⟩))
    go_ret
    exact ⟨by simp [fhas, h1, h2], _, rfl⟩
  all_goals
    go_enter Try.func17, Try.ntmps17
    go_wp2_with (first | (go_at_call 39; refine (l1In_c _ _ _ _).mono ?_; rintro e w' ⟨rfl, rfl⟩) | (go_at_call 39; refine (l1In_c _ _ _ _).mono ?_; rintro e w' ⟨rfl, rfl⟩))
    go_ret
    exact ⟨by simp [fhas, h1, h2], 0, rfl⟩

set_option maxHeartbeats 400000 in
theorem implFilterHas_c (f p : Int) (w : World) :
    Calls Try.prog 18 #[.int .i64 f, .int .i64 p] w fun e w' => e = .returned (.bool (fhas f p)) ∧ ∃ n, w' = w.drewN n := by
  cases h1 : inB f 0 1073741823 <;> cases h2 : inB p 0 16777212
  case true.true =>
    have hp := pv_of h2
    go_enter Try.func18, Try.ntmps18
    go_wp2_with (first | (go_at_call 40; refine (filterValid_c _ _).mono ?_; rintro e w' ⟨rfl, rfl⟩) | (go_at_call 42; refine (printValid_c _ _).mono ?_; rintro e w' ⟨rfl, rfl⟩) | (go_at_call 43; refine (bitsOf_c _ _ hp.1 hp.2).mono ?_; rintro e w' ⟨rfl, n, rfl⟩))
    go_ret
    exact ⟨by simp [fhas, h1, h2], _, rfl⟩
  all_goals
    go_enter Try.func18, Try.ntmps18
    go_wp2_with (first | (go_at_call 40; refine (filterValid_c _ _).mono ?_; rintro e w' ⟨rfl, rfl⟩) | (go_at_call 42; refine (printValid_c _ _).mono ?_; rintro e w' ⟨rfl, rfl⟩))
    go_ret
    exact ⟨by simp [fhas, h1, h2], 0, rfl⟩

end Go.Proofs.Ytlkcbfolpfckgaa
