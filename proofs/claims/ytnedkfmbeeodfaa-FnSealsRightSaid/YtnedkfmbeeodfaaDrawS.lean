/- Walks: drawn prints, words, seals. -/
import Derived.Test.YtnedkfmbeeodfaaDrawT
import Derived.Test.YtnedkfmbeeodfaaSeal
namespace Go.Proofs.Ytnedkfmbeeodfaa
open Go.RowKit

theorem ofRow {w : World} {b : Nat} {cs : Array Value} {t : TypeId} (h : w.heap[b]? = some (.cells cs t (0, 0))) (j : Nat) {v : Value} (hv : cs[j]? = some v) : w.cell? ⟨b, j, none⟩ = some v := by simp [World.cell?, h, hv]
theorem first_heap2 (w : World) (o o' : Obj) : ((w.alloc o).alloc o').heap[w.heap.size]? = some o :=
  (Below.heap_alloc (w.alloc o) o' _ (by simp)).trans (heap_alloc_new w o)
/-- A number; the reader has been asked at most k times more. -/
def Numbered (k : Nat) (w : World) (g : Nat) (l : List Int) (p : Nat) (e : Ending) (w' : World) : Prop :=
  ∃ (x : Int) (p' : Nat), e = .returned (.int .i64 x) ∧ p' ≤ p + k ∧ Reader w' g l p' ∧ w.grownBy w' (some g)

set_option maxHeartbeats 2000000 in
theorem spec_l20Print_c (g p : Nat) (l : List Int) (n : Int) (w : World) (h : Reader w g l p) (hp : p ≤ 109951162777) (hn0 : 0 ≤ n) (hn9 : n ≤ 1000000) :
    Calls Try.prog 63 #[.pointer (some ⟨g, 0, none⟩), .int .i64 n] w (Numbered 4 w g l p) := by
  go_enter Try.func63, Try.ntmps63
  go_wp2_with fail
  refine (spec_odd_c g p l n _ h (by omega) hn0 hn9).mono ?_
  rintro e w1 ⟨x, p1, rfl, _, hp1, r1, g1⟩
  have hgl : g < w1.heap.size := r1.lt
  have R := hid r1
  have G1 := hid g1
  clear r1 h g1
  cases x
  · go_wp2_with fail
    refine (spec_pick_c g p1 l 100 _ R.out (by omega)).mono ?_
    rintro e w2 ⟨x2, rfl, x20, x23, _, r2, g2⟩
    have x23' := x23 (by omega)
    go_wp2_with fail
    refine (spec_pick_c g _ l 256 _ r2 (by omega)).mono ?_
    rintro e w3 ⟨x3, rfl, x30, x33, _, r3, g3⟩
    have x33' := x33 (by omega)
    have R3 := hid r3
    have G3 := hid ((G1.out.trans g2).trans g3)
    have hg3 : g < w3.heap.size := r3.lt
    clear r2 r3 g2 g3 x23 x33
    have hoA : OwnI (w3.alloc (.cells #[.int .i64 x2, .int .i64 (x3 * 65000), .int .i64 16777212] 3)) w3.heap.size (.slice (some ⟨w3.heap.size, 0, none⟩) 3 3) [x2, x3 * 65000, 16777212] := Own.lit w3 (Nat.le_refl _) _ _ 3 rfl rfl rfl (by simp [maxLen])
    have r3' := (R3.out.alloc (.cells #[.int .i64 x2, .int .i64 (x3 * 65000), .int .i64 16777212] 3)).alloc (.cells #[.int .i64 0, .int .i64 0, .int .i64 0, .int .i64 1, .int .i64 1, .int .i64 1, .int .i64 2] 3)
    have hA0 := first_heap2 w3 (.cells #[.int .i64 x2, .int .i64 (x3 * 65000), .int .i64 16777212] 3) (.cells #[.int .i64 0, .int .i64 0, .int .i64 0, .int .i64 1, .int .i64 1, .int .i64 1, .int .i64 2] 3)
    have hB0 := second_heap w3 (.cells #[.int .i64 x2, .int .i64 (x3 * 65000), .int .i64 16777212] 3) (.cells #[.int .i64 0, .int .i64 0, .int .i64 0, .int .i64 1, .int .i64 1, .int .i64 1, .int .i64 2] 3)
    go_wp2_with fail
    refine (spec_pick_c g _ l 7 _ r3' (by omega)).mono ?_
    rintro e w4 ⟨x4, rfl, h40, h47, _, r4, g4⟩
    have hj := h47 (by omega)
    have hA := (g4.block w3.heap.size (by simp; omega) (some_ne (by omega))).trans hA0
    have hB := (g4.block (w3.heap.size + 1) (by simp) (some_ne (by omega))).trans hB0
    have R4 := hid r4
    have G4 := hid (G3.out.trans (gb_unalloc (gb_unalloc g4)))
    clear r4 g4 h47 r3' hA0 hB0 hoA
    obtain rfl | rfl | rfl | rfl | rfl | rfl | rfl : x4 = 0 ∨ x4 = 1 ∨ x4 = 2 ∨ x4 = 3 ∨ x4 = 4 ∨ x4 = 5 ∨ x4 = 6 := by omega
    all_goals
      have k0 := ofRow hA 0 rfl
      have k1 := ofRow hA 1 rfl
      have k2 := ofRow hA 2 rfl
      have j0 := ofRow hB 0 rfl
      have j1 := ofRow hB 1 rfl
      have j2 := ofRow hB 2 rfl
      have j3 := ofRow hB 3 rfl
      have j4 := ofRow hB 4 rfl
      have j5 := ofRow hB 5 rfl
      have j6 := ofRow hB 6 rfl
      go_wp2
      go_ret
      exact ⟨_, _, rfl, by omega, R4.out, G4.out⟩
  · go_wp2_with fail
    refine (spec_pick_c g p1 l 2 _ (R.out.alloc _) (by omega)).mono ?_
    rintro e w2 ⟨x, rfl, x0, x3, _, r2, g2⟩
    have hh := (g2.block w1.heap.size (by simp) (some_ne (by omega))).trans (heap_alloc_new w1 _)
    have x3' := x3 (by omega)
    have R2 := hid r2
    have G2 := hid (G1.out.trans (gb_unalloc g2))
    have k0 := ofRow hh 0 rfl
    have k1 := ofRow hh 1 rfl
    clear r2 g2 x3
    obtain rfl | rfl : x = 0 ∨ x = 1 := by omega
    all_goals
      go_wp2
      go_ret
      exact ⟨_, _, rfl, by omega, R2.out, G2.out⟩

set_option maxHeartbeats 2000000 in
theorem spec_l20Word_c (g p : Nat) (l : List Int) (n : Int) (w : World) (h : Reader w g l p) (hp : p ≤ 109951162777) (hn0 : 0 ≤ n) (hn9 : n ≤ 1000000) :
    Calls Try.prog 70 #[.pointer (some ⟨g, 0, none⟩), .int .i64 n] w (Texted 9 2 w g l p) := by
  go_enter Try.func70, Try.ntmps70
  go_wp2_with fail
  refine (spec_odd_c g p l n _ h (by omega) hn0 hn9).mono ?_
  rintro e w1 ⟨x, p1, rfl, _, hp1, r1, g1⟩
  have hgl : g < w1.heap.size := r1.lt
  have R := hid r1
  have G1 := hid g1
  clear r1 h g1
  cases x
  all_goals
    go_wp2_with fail
    refine (spec_pick_c g p1 l 5 _ (R.out.alloc _) (by omega)).mono ?_
    rintro e w2 ⟨x, rfl, x0, x3, _, r2, g2⟩
    have hh := (g2.block w1.heap.size (by simp) (some_ne (by omega))).trans (heap_alloc_new w1 _)
    have x3' := x3 (by omega)
    have R2 := hid r2
    have G2 := hid (G1.out.trans (gb_unalloc g2))
    have k0 := ofRow hh 0 rfl
    have k1 := ofRow hh 1 rfl
    have k2 := ofRow hh 2 rfl
    have k3 := ofRow hh 3 rfl
    have k4 := ofRow hh 4 rfl
    clear r2 g2 x3 hh
    obtain rfl | rfl | rfl | rfl | rfl : x = 0 ∨ x = 1 ∨ x = 2 ∨ x = 3 ∨ x = 4 := by omega
    all_goals
      go_wp2
      go_ret
      exact ⟨_, _, rfl, by decide, by omega, R2.out, G2.out⟩

end Go.Proofs.Ytnedkfmbeeodfaa
