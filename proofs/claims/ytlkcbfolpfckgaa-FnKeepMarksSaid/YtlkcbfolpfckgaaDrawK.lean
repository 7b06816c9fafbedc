/- Walks: drawn days. -/
import Derived.Test.YtlkcbfolpfckgaaDrawA
import Derived.Test.YtlkcbfolpfckgaaKept
namespace Go.Proofs.Ytlkcbfolpfckgaa
open Go.RowKit

def DaysPost (w : World) (g : Nat) (e : Ending) (w' : World) : Prop :=
  ∃ (v : Value) (xs : List Int) (day : Int), e = .returned (.tuple #[v, .int .i64 day]) ∧ OwnI w' w.heap.size v xs ∧ xs.length ≤ 50 ∧ w.grownBy w' (some g)

set_option maxHeartbeats 2000000 in
theorem spec_l20Days_c (g p : Nat) (l : List Int) (n : Int) (w : World) (h : Reader w g l p) (hp : p ≤ 1000) (hn0 : 0 ≤ n) (hn9 : n ≤ 1000000) :
    Calls Try.prog 48 #[.pointer (some ⟨g, 0, none⟩), .int .i64 n] w (DaysPost w g) := by
  have hgl := h.lt
  have hr0 := h.alloc (.cells #[] 3)
  go_enter Try.func48, Try.ntmps48
  go_wp2_with fail
  refine (spec_pick_c g p l 50 _ hr0 (by omega)).mono ?_
  rintro e w1 ⟨day, rfl, d0, d1, _, r1, g1⟩
  have d1' := d1 (by omega)
  have o1 : OwnI w1 w.heap.size (.slice (some ⟨w.heap.size, 0, none⟩) 0 0) [] := Own.far (Own.made w (Nat.le_refl _)) g1 (fun b hb => by simp at hb; omega)
  have G1 : w.grownBy w1 (some g) := gb_out (World.grownBy_alloc w _ _) g1 (fun b hb => .inl (by simpa using hb.symm))
  clear h hr0 d1 g1
  go_wp2_with fail
  refine (spec_pick_c g _ l 14 _ r1 (by omega)).mono ?_
  rintro e w2 ⟨cnt, rfl, c0, c1, _, r2, g2⟩
  have c1' := c1 (by omega)
  have s12 := g2.size
  have o2 := o1.far g2 (fun b hb => by simp at hb; omega)
  have G2 : w.grownBy w2 (some g) := gb_out G1 g2 (fun b hb => .inl (by simpa using hb.symm))
  clear c1 g2 o1 G1 r1
  go_wp2
  go_loopw [6, 7, 8] (fun out dy k wr => ∃ (acc : List Int) (d c : Int) (q : Nat), OwnI wr w.heap.size out acc ∧ dy = .int .i64 d ∧ k = .int .i64 c ∧ 0 ≤ c ∧ (acc.length : Int) + c ≤ 14 ∧ 0 ≤ d ∧ d + 12 * c ≤ 300 ∧ (q : Int) + c ≤ 1020 ∧ Reader wr g l q ∧ w.grownBy wr (some g)) (fun _ _ k _ => (intOf k).toNat)
  case atStart => exact ⟨[], day, cnt, _, o2, rfl, rfl, c0, by simp; omega, d0, by omega, by omega, r2, G2⟩
  case round =>
    obtain ⟨acc, d, c, q, hown, rfl, rfl, hc0, hlen, hd0, hd1, hq, hr, hG⟩ := hrel
    obtain ⟨out, hout⟩ : ∃ out, out = u6 := ⟨_, rfl⟩
    subst hout
    clear o2 G2 r2
    have hsz := hG.size
    by_cases hc : 0 < c
    · go_wp2_with (at_builtin; refine push_int (w0 := wr) (wr := wr) rfl _ _ rfl _ w.heap.size _ _ _ hown (Below.refl _ _) hsz (Nat.le_refl _) rfl rfl (by omega) ?_; intro v' w' hown' _ hB' hg')
      have hr' := hr.kept hg'.1 (fun b hb => by have := (hown.lt b hb).1; omega)
      have hG' := gb_out hG hg'.1 (fun b hb => .inr (hown.lt b hb).1)
      clear hr hG hown hg'
      go_wp2_with fail
      refine (spec_pick_c g _ l 12 _ hr' (by omega)).mono ?_
      rintro e w3 ⟨x, rfl, x0, x1, _, r3, g3⟩
      have x1' := x1 (by omega)
      have o3 := hown'.far g3 (fun b hb => by simp at hb; omega)
      have G3 : w.grownBy w3 (some g) := gb_out hG' g3 (fun b hb => .inl (by simpa using hb.symm))
      clear x1 g3 hG' hr' hown'
      go_wp2
      go_roundw
      case rel => exact ⟨_, _, _, _, o3, rfl, rfl, by omega, by simp; omega, by omega, by omega, by omega, r3, G3⟩
      case measure => simp [intOf]; omega
    · have hln : acc.length ≤ 14 := by omega
      go_wp2_with fail
      refine (spec_odd_c g q l n _ hr (by omega) hn0 hn9).mono ?_
      rintro e w3 ⟨b3, q3, rfl, _, hq3, r3, g3⟩
      have o3 := hown.far g3 (fun b hb => by simp at hb; omega)
      have G3 : w.grownBy w3 (some g) := gb_out hG g3 (fun b hb => .inl (by simpa using hb.symm))
      have s3 := G3.size
      clear hr hG hown g3
      cases b3
      · go_wp2_with fail
        refine (spec_pick_c g _ l 10 _ r3 (by omega)).mono ?_
        rintro e w4 ⟨x, rfl, x0, x1, _, r4, g4⟩
        have x1' := x1 (by omega)
        have o4 := o3.far g4 (fun b hb => by simp at hb; omega)
        have G4 : w.grownBy w4 (some g) := gb_out G3 g4 (fun b hb => .inl (by simpa using hb.symm))
        clear x1 g4 G3 o3 r3 r4
        go_wp2
        go_ret2
        exact ⟨_, _, _, rfl, o4, by omega, G4⟩
      · go_wp2_with fail
        refine (spec_pick_c g _ l 3 _ r3 (by omega)).mono ?_
        rintro e w4 ⟨x, rfl, x0, x1, _, r4, g4⟩
        have x1' := x1 (by omega)
        have o4 := o3.far g4 (fun b hb => by simp at hb; omega)
        have G4 : w.grownBy w4 (some g) := gb_out G3 g4 (fun b hb => .inl (by simpa using hb.symm))
        have s4 := G4.size
        have G5 : ∀ w', w4.grownBy w' (Value.ownBlock out) → w.grownBy w' (some g) := fun w' hg' => gb_out G4 hg' (fun b hb => .inr (o4.lt b hb).1)
        have b4 := G4.size
        clear x1 g4 G3 o3 r3 r4
        have B4 : ∀ cs : Array Value, Below w4.heap.size w4 (w4.alloc (.cells cs 3)) := fun cs => (Below.refl _ _).alloc (Nat.le_refl _) _
        by_cases hx0 : x = 0
        · have hx0' : (x == 0) = true := by simp [hx0]
          have hlit := Rd.of_own (Own.lit (enc := encI) (e := 3) (k := 1) w4 (B := w4.heap.size) (Nat.le_refl _) [0, -1] #[.int .i64 0, .int .i64 (-1)] 2 rfl rfl rfl (by simp [maxLen]))
          have ob := o4.alloc (.cells #[.int .i64 0, .int .i64 (-1)] 3)
          clear hx0
          go_wp2_with (at_builtin; refine cat_int (w0 := w4.alloc (.cells #[.int .i64 0, .int .i64 (-1)] 3)) rfl _ _ rfl _ w.heap.size _ _ _ _ ob _ hlit (Below.refl _ _) (by simp; omega) (Nat.le_refl _) rfl rfl (by simp; omega) ?_; intro v' w' hown' _ hB' hg')
          go_ret2
          exact ⟨_, _, _, rfl, hown', by simp; omega, G5 _ ((World.grownBy_alloc w4 _ _).trans hg'.1)⟩
        · have hx0' : (x == 0) = false := by simp [hx0]
          by_cases hx1 : x = 1
          · have hx1' : (x == 1) = true := by simp [hx1]
            clear hx0 hx1
            go_wp2_with (at_builtin; refine push_int (w0 := w4) (wr := w4) rfl _ _ rfl _ w.heap.size _ _ _ o4 (Below.refl _ _) b4 (Nat.le_refl _) rfl rfl (by omega) ?_; intro v' w' hown' _ hB' hg')
            go_ret2
            exact ⟨_, _, _, rfl, hown', by simp; omega, G5 _ hg'.1⟩
          · have hx1' : (x == 1) = false := by simp [hx1]
            obtain ⟨i0, hi, hz0, hz1, hz2⟩ := info_parts info_int
            clear hx0 hx1
            go_wp2_with (at_make; refine wpList_make_full _ rfl _ _ 26 rfl w.heap.size 3 i0 (.int .i64 0) 1 Try.underlying26 hi hz0 hz1 _ _ _ _ 41 rfl rfl rfl rfl ?b2 ?b3 ?b4 ?_)
            case b2 => rw [hz2]; omega
            case b3 => simp [maxLen]
            case b4 => exact b4
            intro w5 o5 g5
            have o6 : OwnI w5 w.heap.size (.slice (some ⟨w4.heap.size, 0, none⟩) 41 41) (List.replicate 41 0) := by
              unfold OwnI Own
              rw [← made_flat (enc := encI) (.int .i64 0) 0 rfl 41]
              exact o5
            have G6 := gb_out G4 g5 (by simp)
            clear o5 g5
            go_wp2
            go_ret2
            exact ⟨_, _, _, rfl, o6, by simp, G6⟩

end Go.Proofs.Ytlkcbfolpfckgaa
