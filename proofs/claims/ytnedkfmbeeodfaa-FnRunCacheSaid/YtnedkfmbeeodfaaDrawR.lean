/- Walks: drawn uses of caches, and the law on them. -/
import Derived.Test.YtnedkfmbeeodfaaDrawS
import Derived.Test.YtnedkfmbeeodfaaRun2
namespace Go.Proofs.Ytnedkfmbeeodfaa
open Go.RowKit

def RunIn (w : World) (e : Ending) (w' : World) : Prop := ∃ (m : Int) (v : Value) (xs : List Int), e = .returned (.tuple #[.int .i64 m, v]) ∧ OwnI w' w.heap.size v xs ∧ xs.length ≤ 100 ∧ Below w.heap.size w w'

set_option maxHeartbeats 2000000 in
theorem spec_DrawRunCache_c (v : Value) (l : List Int) (w : World) (h : Rd encU 1 w w.heap.size v l) (hl : ∀ x ∈ l, 0 ≤ x ∧ x ≤ 255) :
    Calls Try.prog 34 #[v] w (RunIn w) := by
  go_enter Try.func34, Try.ntmps34
  go_wp2_with fail
  refine (spec_l20Open_c v l w h hl).mono ?_
  rintro e w1 ⟨l', rfl, r1, b1⟩
  have z1 := r1.lt
  clear h hl
  go_wp2_with fail
  refine (spec_pick_c _ 0 l' 8 _ r1 (by omega)).mono ?_
  rintro e w2 ⟨x2, rfl, x20, hx2, _, r2, g2⟩
  have hx2' := hx2 (by omega)
  have b2 : Below w.heap.size w w2 := b1.grown g2 (by omega) (by simp)
  have hg2 := r2.lt
  have r3' := (r2.alloc (.cells #[.int .i64 (1 + x2), .int .i64 0, .int .i64 9] 3)).alloc (.cells #[.int .i64 0, .int .i64 0, .int .i64 0, .int .i64 0, .int .i64 0, .int .i64 0, .int .i64 1, .int .i64 2] 3)
  have hA0 := first_heap2 w2 (.cells #[.int .i64 (1 + x2), .int .i64 0, .int .i64 9] 3) (.cells #[.int .i64 0, .int .i64 0, .int .i64 0, .int .i64 0, .int .i64 0, .int .i64 0, .int .i64 1, .int .i64 2] 3)
  have hB0 := second_heap w2 (.cells #[.int .i64 (1 + x2), .int .i64 0, .int .i64 9] 3) (.cells #[.int .i64 0, .int .i64 0, .int .i64 0, .int .i64 0, .int .i64 0, .int .i64 0, .int .i64 1, .int .i64 2] 3)
  have b3 := (b2.alloc (by omega) (.cells #[.int .i64 (1 + x2), .int .i64 0, .int .i64 9] 3)).alloc (by simp; omega) (.cells #[.int .i64 0, .int .i64 0, .int .i64 0, .int .i64 0, .int .i64 0, .int .i64 0, .int .i64 1, .int .i64 2] 3)
  clear g2 r1 r2 hx2 b1 b2
  go_wp2_with fail
  refine (spec_pick_c _ _ l' 8 _ r3' (by omega)).mono ?_
  rintro e w4 ⟨x4, rfl, h40, h48, _, r4, g4⟩
  have hj := h48 (by omega)
  have hA := (g4.block w2.heap.size (by simp; omega) (some_ne (by omega))).trans hA0
  have hB := (g4.block (w2.heap.size + 1) (by simp) (some_ne (by omega))).trans hB0
  have b4 : Below w.heap.size w w4 := b3.grown g4 (by simp; omega) (by simp)
  have hs4 := g4.size
  have R4 := hid r4
  have B4 := hid b4
  have hg4 := r4.lt
  clear r4 g4 h48 r3' hA0 hB0 b3 b4
  have k0 := ofRow hA 0 rfl
  have k1 := ofRow hA 1 rfl
  have k2 := ofRow hA 2 rfl
  have HB := hid hB
  clear hA hB
  obtain ⟨j, i, hij, hi, hcj⟩ : ∃ (j i : Nat), x4 = j ∧ i < 3 ∧ w4.cell? ⟨w2.heap.size + 1, j, none⟩ = some (.int .i64 i) ∧ j < 8 := by
    obtain rfl | rfl | rfl | rfl | rfl | rfl | rfl | rfl : x4 = 0 ∨ x4 = 1 ∨ x4 = 2 ∨ x4 = 3 ∨ x4 = 4 ∨ x4 = 5 ∨ x4 = 6 ∨ x4 = 7 := by omega
    · exact ⟨0, 0, rfl, by omega, ofRow HB.out 0 rfl, by omega⟩
    · exact ⟨1, 0, rfl, by omega, ofRow HB.out 1 rfl, by omega⟩
    · exact ⟨2, 0, rfl, by omega, ofRow HB.out 2 rfl, by omega⟩
    · exact ⟨3, 0, rfl, by omega, ofRow HB.out 3 rfl, by omega⟩
    · exact ⟨4, 0, rfl, by omega, ofRow HB.out 4 rfl, by omega⟩
    · exact ⟨5, 0, rfl, by omega, ofRow HB.out 5 rfl, by omega⟩
    · exact ⟨6, 1, rfl, by omega, ofRow HB.out 6 rfl, by omega⟩
    · exact ⟨7, 2, rfl, by omega, ofRow HB.out 7 rfl, by omega⟩
  obtain ⟨hcj, hj8⟩ := hcj
  subst hij
  obtain ⟨M, hM⟩ : ∃ M : Int, w4.cell? ⟨w2.heap.size, i, none⟩ = some (.int .i64 M) := by
    obtain rfl | rfl | rfl : i = 0 ∨ i = 1 ∨ i = 2 := by omega
    · exact ⟨_, k0⟩
    · exact ⟨_, k1⟩
    · exact ⟨_, k2⟩
  have hi3 : (i : Int) < 3 := by omega
  clear k0 k1 k2
  have o5 : OwnI (w4.alloc (.cells #[] 3)) (w.heap.size + 1) (.slice (some ⟨w4.heap.size, 0, none⟩) 0 0) [] := Own.made _ (by omega)
  have b5 := B4.out.alloc (by omega) (.cells #[] 3)
  go_wp2_with fail
  refine (spec_pick_c _ _ l' 20 _ (R4.out.alloc _) (by omega)).mono ?_
  rintro e w6 ⟨x6, rfl, x60, hx6, _, r6, g6⟩
  have hx6' := hx6 (by omega)
  have o6 := o5.far g6 (fun b hb => by simp at hb; omega)
  have b6 : Below w.heap.size w w6 := b5.grown g6 (by simp; omega) (by simp)
  have hs6 := r6.lt
  clear o5 b5 g6 hx6 R4 B4 hM hcj
  go_wp2
  go_loopw [6, 7] (fun out k wr => ∃ (acc : List Int) (c : Int) (q : Nat), OwnI wr (w.heap.size + 1) out acc ∧ k = .int .i64 c ∧ 0 ≤ c ∧ (acc.length : Int) + c ≤ 20 ∧ (q : Int) + c ≤ 60 ∧ Reader wr w.heap.size l' q ∧ Below w.heap.size w wr) (fun _ k _ => (intOf k).toNat)
  case atStart => exact ⟨[], x6, _, o6, rfl, x60, by simp; omega, by omega, r6, b6⟩
  case round =>
    obtain ⟨acc, c, q, hown, rfl, hc0, hlen, hq, hr, hb⟩ := hrel
    obtain ⟨out, hout⟩ : ∃ out, out = u6 := ⟨_, rfl⟩
    subst hout
    clear o6 b6 r6
    have hsz := hr.lt
    by_cases hc : 0 < c
    · go_wp2_with fail
      refine (spec_pick_c w.heap.size _ l' 7 _ hr (by omega)).mono ?_
      rintro e w7 ⟨x, rfl, x0, x1, _, r7, g7⟩
      have o7 := hown.far g7 (fun b hb => by simp at hb; omega)
      have b7 : Below w.heap.size w w7 := hb.grown g7 (by omega) (by simp)
      have hs7 := r7.lt
      clear x1 g7 hr hown hb
      go_wp2_with (at_builtin; refine push_int (w0 := w7) (wr := w7) rfl _ _ rfl _ (w.heap.size + 1) _ _ _ o7 (Below.refl _ _) (by omega) (Nat.le_refl _) rfl rfl (by omega) ?_; intro v' w' hown' _ hB' hg')
      have hr' := r7.kept hg'.1 (fun b hb => by have := (o7.lt b hb).1; omega)
      have b8 : Below w.heap.size w w' := b7.grown hg'.1 (by omega) (fun b hb => by have := (o7.lt b hb).1; omega)
      clear r7 b7 o7 hg'
      go_roundw
      case rel => exact ⟨_, _, _, hown', rfl, by omega, by simp; omega, by omega, hr', b8⟩
      case measure => simp [intOf]; omega
    · have hln : acc.length ≤ 20 := by omega
      go_wp2_with fail
      refine (spec_odd_c w.heap.size q l' 14 _ hr (by omega) (by omega) (by omega)).mono ?_
      rintro e w7 ⟨z7, q7, rfl, _, hq7, r7, g7⟩
      have o7 := hown.far g7 (fun b hb => by simp at hb; omega)
      have b7 : Below w.heap.size w w7 := hb.grown g7 (by omega) (by simp)
      have hs7 := r7.lt
      clear g7 hr hown hb
      obtain ⟨i0, hi', hz0, hz1, hz2⟩ := info_parts info_int
      cases z7
      · go_wp2_with fail
        refine (spec_odd_c w.heap.size q7 l' 24 _ r7 (by omega) (by omega) (by omega)).mono ?_
        rintro e w8 ⟨z8, q8, rfl, _, hq8, r8, g8⟩
        have o8 := o7.far g8 (fun b hb => by simp at hb; omega)
        have b8 : Below w.heap.size w w8 := b7.grown g8 (by omega) (by simp)
        have hs8 := r8.lt
        clear g8 r7 o7 b7
        cases z8
        · go_wp2
          go_ret2
          exact ⟨_, _, _, rfl, o8.less (by omega), by omega, b8⟩
        · go_wp2_with (at_make; refine wpList_make_full _ rfl _ _ 22 rfl (w.heap.size + 1) 3 i0 (.int .i64 0) 1 Try.underlying22 hi' hz0 hz1 _ _ _ _ 41 rfl rfl rfl rfl ?b2 ?b3 ?b4 ?_)
          case b2 => rw [hz2]; omega
          case b3 => simp [maxLen]
          case b4 => omega
          intro w9 o9 g9
          have o10 : OwnI w9 (w.heap.size + 1) (.slice (some ⟨w8.heap.size, 0, none⟩) 41 41) (List.replicate 41 0) := by
            unfold OwnI Own
            rw [← made_flat (enc := encI) (.int .i64 0) 0 rfl 41]
            exact o9
          have b9 : Below w.heap.size w w9 := b8.grown g9 (by omega) (by simp)
          clear o9 g9 r8 o8 b8
          go_wp2
          go_ret2
          exact ⟨_, _, _, rfl, o10.less (by omega), by simp, b9⟩
      · go_wp2_with (at_builtin; refine push_int (w0 := w7) (wr := w7) rfl _ _ rfl _ (w.heap.size + 1) _ _ _ o7 (Below.refl _ _) (by omega) (Nat.le_refl _) rfl rfl (by omega) ?_; intro v' w' hown' _ hB' hg')
        have hr' := r7.kept hg'.1 (fun b hb => by have := (o7.lt b hb).1; omega)
        have b8 : Below w.heap.size w w' := b7.grown hg'.1 (by omega) (fun b hb => by have := (o7.lt b hb).1; omega)
        have hs8 := hr'.lt
        clear r7 b7 o7 hg'
        go_wp2_with fail
        refine (spec_odd_c w.heap.size q7 l' 24 _ hr' (by omega) (by omega) (by omega)).mono ?_
        rintro e w9 ⟨z9, q9, rfl, _, hq9, r9, g9⟩
        have o9 := hown'.far g9 (fun b hb => by simp at hb; omega)
        have b9 : Below w.heap.size w w9 := b8.grown g9 (by omega) (by simp)
        have hs9 := r9.lt
        clear g9 hr' hown' b8
        cases z9
        · go_wp2
          go_ret2
          exact ⟨_, _, _, rfl, o9.less (by omega), by simp; omega, b9⟩
        · go_wp2_with (at_make; refine wpList_make_full _ rfl _ _ 22 rfl (w.heap.size + 1) 3 i0 (.int .i64 0) 1 Try.underlying22 hi' hz0 hz1 _ _ _ _ 41 rfl rfl rfl rfl ?b2 ?b3 ?b4 ?_)
          case b2 => rw [hz2]; omega
          case b3 => simp [maxLen]
          case b4 => omega
          intro w10 o10 g10
          have o11 : OwnI w10 (w.heap.size + 1) (.slice (some ⟨w9.heap.size, 0, none⟩) 41 41) (List.replicate 41 0) := by
            unfold OwnI Own
            rw [← made_flat (enc := encI) (.int .i64 0) 0 rfl 41]
            exact o10
          have b10 : Below w.heap.size w w10 := b9.grown g10 (by omega) (by simp)
          clear o10 g10 r9 o9 b9
          go_wp2
          go_ret2
          exact ⟨_, _, _, rfl, o11.less (by omega), by simp, b10⟩

end Go.Proofs.Ytnedkfmbeeodfaa
