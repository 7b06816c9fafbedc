/- Walks: drawn ages and days. -/
import Derived.Test.YtlkcbfolpfckgaaDraw
import Derived.Test.YtlkcbfolpfckgaaAge
import Derived.Test.YtlkcbfolpfckgaaExB
namespace Go.Proofs.Ytlkcbfolpfckgaa
open Go.RowKit

/-- A number in small range. -/
def SomeInt (w : World) (e : Ending) (w' : World) : Prop := ∃ x : Int, e = .returned (.int .i64 x) ∧ Below w.heap.size w w'

set_option maxHeartbeats 400000 in
theorem spec_DrawAgeBox_c (v : Value) (l : List Int) (w : World) (h : Rd encU 1 w w.heap.size v l) (hl : ∀ x ∈ l, 0 ≤ x ∧ x ≤ 255) :
    Calls Try.prog 23 #[v] w (SomeInt w) := by
  go_enter Try.func23, Try.ntmps23
  go_wp2_with fail
  refine (spec_l20Open_c v l w h hl).mono ?_
  rintro e w1 ⟨l', rfl, r1, b1⟩
  have z1 := r1.lt
  clear h hl
  go_wp2_with fail
  refine (spec_pick_c _ 0 l' 80 _ r1 (by omega)).mono ?_
  rintro e w2 ⟨x2, rfl, _, _, _, r2, g2⟩
  go_wp2_with fail
  refine (spec_pick_c _ _ l' 256 _ r2 (by omega)).mono ?_
  rintro e w3 ⟨x3, rfl, _, hx3, _, r3, g3⟩
  have hx3' := hx3 (by omega)
  have s2 := g2.size
  have s3 := g3.size
  have b3 : Below w.heap.size w w3 := (b1.grown g2 b1.size (by simp)).grown g3 (by omega) (by simp)
  clear g2 g3 r1 r2 hx3
  have r3' := (r3.alloc (.cells #[.int .i64 x2, .int .i64 (x3 * 39), .int .i64 10000, .int .i64 10001, .int .i64 (-1)] 3)).alloc (.cells #[.int .i64 0, .int .i64 0, .int .i64 0, .int .i64 1, .int .i64 2, .int .i64 3, .int .i64 4] 3)
  have b3' := (b3.alloc b3.size (.cells #[.int .i64 x2, .int .i64 (x3 * 39), .int .i64 10000, .int .i64 10001, .int .i64 (-1)] 3)).alloc (by simp; omega) (.cells #[.int .i64 0, .int .i64 0, .int .i64 0, .int .i64 1, .int .i64 2, .int .i64 3, .int .i64 4] 3)
  have oA : OwnI (w3.alloc (.cells #[.int .i64 x2, .int .i64 (x3 * 39), .int .i64 10000, .int .i64 10001, .int .i64 (-1)] 3)) w3.heap.size (.slice (some ⟨w3.heap.size, 0, none⟩) 5 5) [x2, x3 * 39, 10000, 10001, -1] := Own.lit w3 (Nat.le_refl _) _ _ 5 rfl rfl rfl (by simp [maxLen])
  have oA' := oA.alloc (.cells #[.int .i64 0, .int .i64 0, .int .i64 0, .int .i64 1, .int .i64 2, .int .i64 3, .int .i64 4] 3)
  have oB : OwnI ((w3.alloc (.cells #[.int .i64 x2, .int .i64 (x3 * 39), .int .i64 10000, .int .i64 10001, .int .i64 (-1)] 3)).alloc (.cells #[.int .i64 0, .int .i64 0, .int .i64 0, .int .i64 1, .int .i64 2, .int .i64 3, .int .i64 4] 3)) w3.heap.size (.slice (some ⟨w3.heap.size + 1, 0, none⟩) 7 7) [0, 0, 0, 1, 2, 3, 4] := by
    have := Own.lit (enc := encI) (e := 3) (k := 1) (w3.alloc (.cells #[.int .i64 x2, .int .i64 (x3 * 39), .int .i64 10000, .int .i64 10001, .int .i64 (-1)] 3)) (B := w3.heap.size) (by simp) [0, 0, 0, 1, 2, 3, 4] #[.int .i64 0, .int .i64 0, .int .i64 0, .int .i64 1, .int .i64 2, .int .i64 3, .int .i64 4] 7 rfl rfl rfl (by simp [maxLen])
    simpa using this
  have hg3 : w.heap.size < w3.heap.size := r3.lt
  clear oA r3
  go_wp2_with fail
  refine (spec_pick_c _ _ l' 7 _ r3' (by omega)).mono ?_
  rintro e w4 ⟨x4, rfl, h40, h47, _, r4, g4⟩
  have pA := oA'.far g4 (by simp; omega)
  have pB := oB.far g4 (by simp; omega)
  have b4 := b3'.grown g4 (by simp; omega) (by simp)
  obtain ⟨j, rfl⟩ : ∃ j : Nat, x4 = j := ⟨x4.toNat, by omega⟩
  have hj := h47 (by omega)
  obtain ⟨y, hy, hcy⟩ := getI pB rfl (show j < 7 by omega)
  have hy' : 0 ≤ y ∧ y ≤ 4 := by
    have := List.mem_of_getElem? hy.out
    simp at this
    omega
  obtain ⟨y0, y1⟩ := hy'
  obtain ⟨i, rfl⟩ : ∃ i : Nat, y = i := ⟨y.toNat, by omega⟩
  obtain ⟨z, hz, hcz⟩ := getI pA rfl (show i < 5 by omega)
  have hij : j < 7 := by omega
  have hii : i < 5 := by omega
  clear pA pB oA' oB b3' b3 r3' r4 g4 h47
  go_wp2
  go_ret
  exact ⟨_, rfl, b4⟩

set_option maxHeartbeats 400000 in
theorem laws_FnAgeBox_c (v : Value) (l : List Int) (w : World) (h : Rd encU 1 w w.heap.size v l) (hl : ∀ x ∈ l, 0 ≤ x ∧ x ≤ 255) :
    Calls Try.prog 7 #[v] w fun e w' => e = .returned (.bool true) ∧ Below w.heap.size w w' := by
  obtain ⟨n, hn⟩ : ∃ n, l.length = n := ⟨_, rfl⟩
  obtain ⟨a, c, rfl, h1, h2, h3⟩ := Rd.openN h (fun _ => rfl) hn
  clear h3 hn
  by_cases hb : 1048576 < n
  · go_enter Try.func7, Try.ntmps7
    go_wp2
    go_ret
    exact ⟨rfl, Below.refl _ _⟩
  · go_enter Try.func7, Try.ntmps7
    go_wp2_with fail
    refine (spec_DrawAgeBox_c _ l w h hl).mono ?_
    rintro e w1 ⟨x, rfl, b1⟩
    clear h hl
    by_cases hneg : ageBox x < 0
    · have hm1 := hid (ageBox_neg hneg)
      have hm2 : (ageBox x == -1) = true := by rw [hm1.out]; rfl
      go_wp2_with (first | (go_at_call 16; refine (impl_AgeBox_c _ _).mono ?_; rintro e w' ⟨rfl, rfl⟩) | (go_at_call 15; refine (spec_AgeBox_c _ _).mono ?_; rintro e w' ⟨rfl, rfl⟩) | (go_at_call 24; refine (laws_alive_c _).mono ?_; rintro e w' ⟨rfl, rfl⟩))
      go_ret
      exact ⟨by first | rfl | simp, b1⟩
    · obtain ⟨x0, x1⟩ := ageBox_range hneg
      by_cases hmax : x = 10000
      · have hm2 : (x == 10000) = true := by simp [hmax]
        have HM := hid hmax
        clear hmax
        go_wp2_with (first | (go_at_call 16; refine (impl_AgeBox_c _ _).mono ?_; rintro e w' ⟨rfl, rfl⟩) | (go_at_call 15; refine (spec_AgeBox_c _ _).mono ?_; rintro e w' ⟨rfl, rfl⟩) | (go_at_call 24; refine (laws_alive_c _).mono ?_; rintro e w' ⟨rfl, rfl⟩))
        go_ret
        exact ⟨by first | rfl | simp, b1⟩
      · have hm2 : (x == 10000) = false := by simp [hmax]
        have hmono := ageBox_mono x x0 (by omega)
        go_wp2_with (first | (go_at_call 16; refine (impl_AgeBox_c _ _).mono ?_; rintro e w' ⟨rfl, rfl⟩) | (go_at_call 15; refine (spec_AgeBox_c _ _).mono ?_; rintro e w' ⟨rfl, rfl⟩) | (go_at_call 24; refine (laws_alive_c _).mono ?_; rintro e w' ⟨rfl, rfl⟩))
        go_ret
        exact ⟨by first | rfl | simp | simp [hmono], b1⟩

end Go.Proofs.Ytlkcbfolpfckgaa
