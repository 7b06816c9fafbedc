/- Walks: the law on used caches. -/
import Derived.Test.YtnedkfmbeeodfaaDrawU
import Derived.Test.YtnedkfmbeeodfaaInvG
namespace Go.Proofs.Ytnedkfmbeeodfaa
open Go.RowKit

set_option maxHeartbeats 400000 in
theorem laws_sameInts_c (v u : Value) (xs ys : List Int) (B B' : Nat) (w : World) (h : Ints w B v xs) (h' : Ints w B' u ys) (he : xs = ys) :
    Calls Try.prog 32 #[v, u] w fun e w' => e = .returned (.bool true) ∧ ∃ m, w' = w.drewN m := by
  subst he
  obtain ⟨n, hn⟩ : ∃ n, xs.length = n := ⟨_, rfl⟩
  obtain ⟨a, c, rfl, h1, h2, h3⟩ := h.ints hn
  obtain ⟨a', c', rfl, h1', h2', h3'⟩ := h'.ints hn
  clear hn h h'
  go_enter Try.func32, Try.ntmps32
  go_wp2
  go_loopw [5] (fun i wr => ∃ (k m : Nat), k ≤ n ∧ i = .int .i64 k ∧ wr = w.drewN m) (fun i _ => n - (intOf i).toNat)
  case atStart => exact ⟨0, 0, Nat.zero_le _, rfl, rfl⟩
  case round =>
    obtain ⟨k, m, hk, rfl, rfl⟩ := hrel
    by_cases hlt : k < n
    · obtain ⟨b, o, x, rfl, hb, hx, hc⟩ := h3 k hlt
      obtain ⟨b', o', y, rfl, hb', hy, hc'⟩ := h3' k hlt
      obtain rfl : x = y := by have := hx.out.symm.trans hy.out; simpa using this
      clear h3 h3' hx hy
      go_wp2
      go_quiet (fail)
      go_wp2
      go_roundw
      case rel => exact ⟨k + 1, _, by omega, by go_num, rfl⟩
      case measure => simp [intOf]; omega
    · go_wp2
      go_ret
      exact ⟨rfl, m, rfl⟩

theorem laws_sameInts_b (v u : Value) (xs ys : List Int) (B B' : Nat) (w : World) (h : Ints w B v xs) (h' : Ints w B' u ys) (he : xs = ys := by rfl) :
    Calls Try.prog 32 #[v, u] w fun e w' => e = .returned (.bool (decide (xs = ys))) ∧ Below w.heap.size w w' :=
  (laws_sameInts_c v u xs ys B B' w h h' he).mono fun _ _ ⟨h1, n, hw⟩ => ⟨by rw [h1]; simp [he], hw ▸ bl_drewN (Below.refl _ _) n⟩

set_option maxHeartbeats 400000 in
theorem laws_sameCache_c (m : Int) (v u : Value) (xs : List Int) (w : World) (h : Ints w w.heap.size v xs) (h' : Ints w w.heap.size u xs) :
    Calls Try.prog 31 #[cv m v, cv m u] w fun e w' => e = .returned (.bool true) ∧ Below w.heap.size w w' := by
  obtain ⟨n, hn⟩ : ∃ n, xs.length = n := ⟨_, rfl⟩
  obtain ⟨a, c, rfl, _, _, _⟩ := h.ints hn
  obtain ⟨a', c', rfl, _, _, _⟩ := h'.ints hn
  have hal : Below w.heap.size w ((w.alloc (.cells #[.int .i64 m, .slice a n c] 27)).alloc (.cells #[.int .i64 m, .slice a' n c'] 27)) := ((Below.refl _ _).alloc (Nat.le_refl _) _).alloc (by simp) _
  clear hn
  go_enter Try.func31, Try.ntmps31
  go_wp2_with (go_at_call 32; refine (laws_sameInts_c _ _ xs xs _ _ _ (h.on hal) (h'.on hal) rfl).mono ?_; rintro e w' ⟨rfl, q, rfl⟩)
  go_ret
  exact ⟨rfl, bl_drewN hal _⟩

def luF (X S xs rs rx ks : Value) (xn : Nat) (p : Int) (hit : Bool) (bx by_ : Nat) : List (Value → World → Prop) := [isV X, isV (.bool true), isV (.bool true), isV (.bool true), isV (.bool true), isV (.bool true), isV S, isV X, isV (.bool true), isV (.bool true), isV (.bool true), isV (.pointer (some ⟨by_, 1, none⟩)), isV xs, isV rs, isV (.pointer (some ⟨by_, 1, none⟩)), isV xs, isV (.int .i64 xn), isV rx, isV (.bool true), isV (.bool true), isV (.bool true), isV (.bool hit), isV (.pointer (some ⟨bx, 1, none⟩)), isV ks, isV (.int .i64 p), isV (.bool hit), isV (.bool true), isV (.bool true), isV (.bool true)]
theorem luF_gr {X S xs rs rx ks : Value} {xn : Nat} {p : Int} {hit : Bool} {bx by_ : Nat} : ∀ f ∈ luF X S xs rs rx ks xn p hit bx by_, Grow f := by
  intro f hf
  simp only [luF, List.mem_cons, List.not_mem_nil, or_false] at hf
  rcases hf with rfl | rfl | rfl | rfl | rfl | rfl | rfl | rfl | rfl | rfl | rfl | rfl | rfl | rfl | rfl | rfl | rfl | rfl | rfl | rfl | rfl | rfl | rfl | rfl | rfl | rfl | rfl | rfl | rfl
  all_goals exact isV_gr _

theorem used_take {m p : Int} {l : List Int} : (p :: others p l).take (usedKeep m l p).length = usedKeep m l p := by
  unfold usedKeep
  rw [List.length_take]
  by_cases h : m.toNat ≤ (p :: others p l).length
  · rw [Nat.min_eq_left h]
  · rw [Nat.min_eq_right (by omega), List.take_of_length_le (Nat.le_refl _), List.take_of_length_le (by omega)]

end Go.Proofs.Ytnedkfmbeeodfaa
