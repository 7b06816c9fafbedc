/- Walks: the laws on kept days. -/
import Derived.Test.YtlkcbfolpfckgaaDrawK
namespace Go.Proofs.Ytlkcbfolpfckgaa
open Go.RowKit

def DaysIn (w : World) (e : Ending) (w' : World) : Prop :=
  ∃ (v : Value) (xs : List Int) (day : Int), e = .returned (.tuple #[v, .int .i64 day]) ∧ OwnI w' w.heap.size v xs ∧ xs.length ≤ 50 ∧ Below w.heap.size w w'

set_option maxHeartbeats 400000 in
theorem spec_DrawKeepMarks_c (v : Value) (l : List Int) (w : World) (h : Rd encU 1 w w.heap.size v l) (hl : ∀ x ∈ l, 0 ≤ x ∧ x ≤ 255) :
    Calls Try.prog 36 #[v] w (DaysIn w) := by
  go_enter Try.func36, Try.ntmps36
  go_wp2_with fail
  refine (spec_l20Open_c v l w h hl).mono ?_
  rintro e w1 ⟨l', rfl, r1, b1⟩
  clear h hl
  go_wp2_with fail
  refine (spec_l20Days_c _ 0 l' 9 _ r1 (by omega) (by omega) (by omega)).mono ?_
  rintro e w2 ⟨x, xs, day, rfl, o, hx, g⟩
  have b2 := b1.grown g b1.size (by simp)
  have o' := o.less b1.size
  clear g r1 b1 o
  go_wp2
  go_ret2
  exact ⟨_, _, _, rfl, o', hx, b2⟩

set_option maxHeartbeats 400000 in
theorem spec_DrawKeptDays_c (v : Value) (l : List Int) (w : World) (h : Rd encU 1 w w.heap.size v l) (hl : ∀ x ∈ l, 0 ≤ x ∧ x ≤ 255) :
    Calls Try.prog 37 #[v] w (DaysIn w) := by
  go_enter Try.func37, Try.ntmps37
  go_wp2_with fail
  refine (spec_l20Open_c v l w h hl).mono ?_
  rintro e w1 ⟨l', rfl, r1, b1⟩
  clear h hl
  go_wp2_with fail
  refine (spec_l20Days_c _ 0 l' 9 _ r1 (by omega) (by omega) (by omega)).mono ?_
  rintro e w2 ⟨x, xs, day, rfl, o, hx, g⟩
  have b2 := b1.grown g b1.size (by simp)
  have o' := o.less b1.size
  clear g r1 b1 o
  go_wp2
  go_ret2
  exact ⟨_, _, _, rfl, o', hx, b2⟩

set_option maxHeartbeats 400000 in
theorem laws_sameInts_c (v u : Value) (xs ys : List Int) (B B' : Nat) (w : World) (h : Ints w B v xs) (h' : Ints w B' u ys) :
    Calls Try.prog 38 #[v, u] w (EqPost (decide (xs = ys)) w) := by
  by_cases hl : xs.length = ys.length
  · obtain ⟨n, hn⟩ : ∃ n, xs.length = n := ⟨_, rfl⟩
    obtain ⟨a, c, rfl, h1, h2, h3⟩ := h.ints hn
    obtain ⟨a', c', rfl, h1', h2', h3'⟩ := h'.ints (hl.symm.trans hn)
    have HN := hid hn
    have HL := hid hl
    clear hn hl h h'
    go_enter Try.func38, Try.ntmps38
    go_wp2
    go_loopw [5] (fun i wr => ∃ (k m : Nat), k ≤ n ∧ i = .int .i64 k ∧ Hid (xs.take k = ys.take k) ∧ wr = w.drewN m) (fun i _ => n - (intOf i).toNat)
    case atStart => exact ⟨0, 0, Nat.zero_le _, rfl, by simp [Hid], rfl⟩
    case round =>
      obtain ⟨k, m, hk, rfl, heq, rfl⟩ := hrel
      by_cases hlt : k < n
      · obtain ⟨b, o, x, rfl, hb, hx, hc⟩ := h3 k hlt
        obtain ⟨b', o', y, rfl, hb', hy, hc'⟩ := h3' k hlt
        clear h3 h3'
        by_cases hxy : x = y
        · subst hxy
          go_wp2
          go_quiet (fail)
          go_wp2
          go_roundw
          case rel => exact ⟨k + 1, _, by omega, by go_num, take_eq_succ heq.out hx.out hy.out, rfl⟩
          case measure => simp [intOf]; omega
        · have hb1 : (x != y) = true := by simp [hxy]
          go_wp2
          go_quiet (fail)
          go_wp2
          go_ret
          exact ⟨ret_b (by simpa using ne_of_get hx.out hy.out hxy), _, World.drewN_drewN _ _ _⟩
      · go_wp2
        go_ret
        exact ⟨ret_b (by symm; simpa using eq_of_take HN.out (HL.out.symm.trans HN.out) (by omega) heq.out), m, rfl⟩
  · obtain ⟨a, c, rfl, h1, h2, h3⟩ := h.ints rfl
    obtain ⟨a', c', rfl, h1', h2', h3'⟩ := h'.ints rfl
    have hl' : ((xs.length : Int) != (ys.length : Int)) = true := by simp; omega
    have HL := hid hl
    clear hl h3 h3'
    go_enter Try.func38, Try.ntmps38
    go_wp2
    go_ret
    exact ⟨ret_b (by symm; simp; intro he; exact HL.out (by rw [he])), 0, rfl⟩

theorem laws_sameInts_b (v u : Value) (xs ys : List Int) (B B' : Nat) (w : World) (h : Ints w B v xs) (h' : Ints w B' u ys) :
    Calls Try.prog 38 #[v, u] w fun e w' => e = .returned (.bool (decide (xs = ys))) ∧ Below w.heap.size w w' :=
  (laws_sameInts_c v u xs ys B B' w h h').mono fun _ _ ⟨he, n, hw⟩ => ⟨he, hw ▸ bl_drewN (Below.refl _ _) n⟩

set_option maxHeartbeats 2000000 in
theorem laws_FnKeptDays_c (v : Value) (l : List Int) (w : World) (h : Rd encU 1 w w.heap.size v l) (hl : ∀ x ∈ l, 0 ≤ x ∧ x ≤ 255) :
    Calls Try.prog 12 #[v] w fun e w' => e = .returned (.bool true) ∧ Below w.heap.size w w' := by
  obtain ⟨n, hn⟩ : ∃ n, l.length = n := ⟨_, rfl⟩
  obtain ⟨a, c, rfl, h1, h2, h3⟩ := Rd.openN h (fun _ => rfl) hn
  clear h3 hn
  by_cases hb : 1048576 < n
  · go_enter Try.func12, Try.ntmps12
    go_wp2
    go_ret
    exact ⟨rfl, Below.refl _ _⟩
  · go_enter Try.func12, Try.ntmps12
    go_wp2_with fail
    refine (spec_DrawKeptDays_c _ l w h hl).mono ?_
    rintro e w1 ⟨x, xs, day, rfl, o1, hx, b1⟩
    have hx' : xs.length ≤ 1048576 := by omega
    clear h hl
    go_wp2_with fail
    refine (impl_KeptDays_c _ xs day _ (Rd.of_own o1) hx').mono ?_
    rintro e w2 ⟨y, rfl, o2, b2⟩
    have c2 := bl_then b1 b2
    go_wp2_with fail
    refine (spec_KeptDays_c _ xs day _ ((Rd.of_own o1).on b2) hx').mono ?_
    rintro e w3 ⟨z, rfl, o3, b3⟩
    have c3 := bl_then c2 b3
    go_wp2_with fail
    refine (laws_sameInts_b _ _ (keptDays xs day) (keptDays xs day) _ _ _ ((Rd.of_own o2).on b3) (Rd.of_own o3)).mono ?_
    rintro e w4 ⟨rfl, b4⟩
    have c4 := bl_then c3 b4
    go_wp2_with fail
    refine (impl_KeptDays_c _ (keptDays xs day) day _ (((Rd.of_own o2).on b3).on b4) (Nat.le_trans (keptDays_len xs day) hx')).mono ?_
    rintro e w5 ⟨q, rfl, o5, b5⟩
    rw [keptDays_again] at o5
    have c5 := bl_then c4 b5
    go_wp2_with fail
    refine (laws_sameInts_b _ _ (keptDays xs day) (keptDays xs day) _ _ _ (Rd.of_own o5) ((((Rd.of_own o2).on b3).on b4).on b5)).mono ?_
    rintro e w6 ⟨rfl, b6⟩
    have c6 := bl_then c5 b6
    obtain ⟨ya, yc, rfl, _, _, _⟩ := (Rd.of_own o2).ints rfl
    obtain ⟨xa, xc, rfl, _, _, _⟩ := (Rd.of_own o1).ints rfl
    have hlen := keptDays_len xs day
    clear o1 o2 o3 o5
    go_wp2_with (go_at_call 24; refine (laws_alive_c _).mono ?_; rintro e w' ⟨rfl, rfl⟩)
    go_ret
    exact ⟨by first | rfl | simp, c6⟩

end Go.Proofs.Ytlkcbfolpfckgaa
