/- Walks: whether a list has a number. -/
import Derived.Test.YtkfkcbceoekgjaaDoorCacheP
import Derived.Test.YtkfkcbceoekgjaaDoorReg
namespace Go.Proofs.YtkfkcbceoekgjaaDoor
open Go.RowKit

/-- A beginning of a slice. -/
theorem Rd.front {w : World} {B n k c : Nat} {a : Option Addr} {xs : List Int} (h : Ints w B (.slice a n c) xs) (hk : k ≤ n) : Ints w B (.slice a k c) (xs.take k) := by
  obtain ⟨a', c', he, g1, g2, g3, g4⟩ := h
  simp only [Value.slice.injEq] at he
  obtain ⟨rfl, hn, rfl⟩ := he
  have hlen : (xs.take k).length = k := by simp; omega
  refine ⟨a, c, by rw [hlen], by omega, g2, by rw [← List.map_eq_flatMap, List.length_map, hlen]; omega, fun hk0 => ?_⟩
  obtain ⟨b, o, rfl, hb, hat⟩ := g4 (by omega)
  refine ⟨b, o, rfl, hb, fun j u hu => hat j u ?_⟩
  rw [← List.map_eq_flatMap] at hu ⊢
  rw [List.getElem?_map] at hu ⊢
  rw [List.getElem?_take] at hu
  split at hu
  · exact hu
  · simp at hu

/-- A beginning of a row of the call's own. -/
def OwnCut (w : World) (B : Nat) (v : Value) (xs : List Int) : Prop :=
  ∃ a n k c full, OwnI w B (.slice a n c) full ∧ full.length = n ∧ v = .slice a k c ∧ k ≤ n ∧ xs = full.take k
theorem OwnCut.of {w : World} {B : Nat} {v : Value} {xs : List Int} (h : OwnI w B v xs) : OwnCut w B v xs := by
  obtain ⟨a, c, rfl, _, _, _⟩ := (Rd.of_own h).ints rfl
  exact ⟨a, _, _, c, xs, h, rfl, rfl, Nat.le_refl _, by simp⟩
theorem OwnCut.rd {w : World} {B : Nat} {v : Value} {xs : List Int} (h : OwnCut w B v xs) : Ints w w.heap.size v xs := by
  obtain ⟨a, n, k, c, full, ho, hn, rfl, hk, rfl⟩ := h
  exact (Rd.of_own ho).front hk
theorem OwnCut.far {w w' : World} {B : Nat} {v : Value} {xs : List Int} {row : Option Nat} (h : OwnCut w B v xs) (hg : w.grownBy w' row) (hr : ∀ g, row = some g → g < B) : OwnCut w' B v xs := by
  obtain ⟨a, n, k, c, full, ho, hn, rfl, hk, rfl⟩ := h
  exact ⟨a, n, k, c, full, ho.far hg hr, hn, rfl, hk, rfl⟩
theorem OwnCut.on {w w' : World} {B : Nat} {v : Value} {xs : List Int} (h : OwnCut w B v xs) (hb : Below w.heap.size w w') : OwnCut w' B v xs := by
  obtain ⟨a, n, k, c, full, ho, hn, rfl, hk, rfl⟩ := h
  exact ⟨a, n, k, c, full, ho.on hb, hn, rfl, hk, rfl⟩
theorem OwnCut.less {w : World} {B B' : Nat} {v : Value} {xs : List Int} (h : OwnCut w B v xs) (hB : B' ≤ B) : OwnCut w B' v xs := by
  obtain ⟨a, n, k, c, full, ho, hn, rfl, hk, rfl⟩ := h
  exact ⟨a, n, k, c, full, ho.less hB, hn, rfl, hk, rfl⟩
theorem OwnCut.nil {w : World} {B : Nat} : OwnCut w B (.slice none 0 0) [] := OwnCut.of Own.nil_

set_option maxHeartbeats 400000 in
theorem slices_Index_c (v : Value) (xs : List Int) (y : Int) (B : Nat) (w : World) (h : Ints w B v xs) :
    Calls Tryd.prog 53 #[v, .int .i64 y] w fun e w' => (∃ i : Int, e = .returned (.int .i64 i) ∧ decide (0 ≤ i) = hasI xs y) ∧ w = w' := by
  obtain ⟨n, hn⟩ : ∃ n, xs.length = n := ⟨_, rfl⟩
  obtain ⟨a, c, rfl, h1, h2, h3⟩ := h.ints hn
  have HN := hid hn
  clear hn h
  go_enter Tryd.func53, Tryd.ntmps53
  go_wp2
  go_loop [8] (fun i => ∃ k : Nat, k ≤ n ∧ i = .int .i64 k ∧ Hid (hasI (xs.take k) y = false)) (fun i => n - (intOf i).toNat)
  case atStart => exact ⟨0, Nat.zero_le _, rfl, rfl⟩
  case round =>
    obtain ⟨k, hk, rfl, hall⟩ := hrel
    by_cases hlt : k < n
    · obtain ⟨b, o, x, rfl, hb, hx, hc⟩ := h3 k hlt
      clear h3
      by_cases hxy : x = y
      · subst hxy
        go_wp2
        go_ret
        exact ⟨⟨k, rfl, by rw [hasI_get hx.out]; simp⟩, rfl⟩
      · have hb2 : (y == x) = false := by simp; omega
        have HX := hid hxy
        clear hxy
        go_wp2
        go_round
        case rel => exact ⟨k + 1, by omega, by go_num, hasI_succ hx.out HX.out hall.out⟩
        case measure => simp [intOf]; omega
    · have HH := hid (show hasI xs y = false by rw [← take_all HN.out (show n ≤ k by omega)]; exact hall.out)
      go_wp2
      go_ret
      exact ⟨⟨-1, rfl, by rw [HH.out]; simp⟩, rfl⟩

set_option maxHeartbeats 400000 in
theorem slices_Contains_c (v : Value) (xs : List Int) (y : Int) (B : Nat) (w : World) (h : Ints w B v xs) :
    Calls Tryd.prog 34 #[v, .int .i64 y] w fun e w' => e = .returned (.bool (hasI xs y)) ∧ w = w' := by
  obtain ⟨n, hn⟩ : ∃ n, xs.length = n := ⟨_, rfl⟩
  obtain ⟨a, c, rfl, h1, h2, h3⟩ := h.ints hn
  clear h3
  go_enter Tryd.func34, Tryd.ntmps34
  go_wp2_with fail
  refine (slices_Index_c _ xs y _ _ h).mono ?_
  rintro e w' ⟨⟨i, rfl, hi⟩, rfl⟩
  go_wp2
  go_ret
  exact ⟨rfl, rfl⟩

set_option maxHeartbeats 400000 in
theorem spec_l19Has_c (v : Value) (xs : List Int) (y : Int) (B : Nat) (w : World) (h : Ints w B v xs) :
    Calls Tryd.prog 33 #[v, .int .i64 y] w fun e w' => e = .returned (.bool (hasI xs y)) ∧ w = w' := by
  obtain ⟨n, hn⟩ : ∃ n, xs.length = n := ⟨_, rfl⟩
  obtain ⟨a, c, rfl, h1, h2, h3⟩ := h.ints hn
  have HN := hid hn
  clear hn h
  go_enter Tryd.func33, Tryd.ntmps33
  go_wp2
  go_loop [5] (fun i => ∃ k : Nat, k ≤ n ∧ i = .int .i64 k ∧ Hid (hasI (xs.take k) y = false)) (fun i => n - (intOf i).toNat)
  case atStart => exact ⟨0, Nat.zero_le _, rfl, rfl⟩
  case round =>
    obtain ⟨k, hk, rfl, hall⟩ := hrel
    by_cases hlt : k < n
    · obtain ⟨b, o, x, rfl, hb, hx, hc⟩ := h3 k hlt
      clear h3
      by_cases hxy : x = y
      · subst hxy
        go_wp2
        go_ret
        exact ⟨ret_b (hasI_get hx.out).symm, rfl⟩
      · have hb2 : (x == y) = false := by simp; omega
        have HX := hid hxy
        clear hxy
        go_wp2
        go_round
        case rel => exact ⟨k + 1, by omega, by go_num, hasI_succ hx.out HX.out hall.out⟩
        case measure => simp [intOf]; omega
    · have HH := hid (show hasI xs y = false by rw [← take_all HN.out (show n ≤ k by omega)]; exact hall.out)
      go_wp2
      go_ret
      exact ⟨ret_b HH.out.symm, rfl⟩


end Go.Proofs.YtkfkcbceoekgjaaDoor
