/- The exact laws over kept days and filters: what they compare, mark and hold. -/
import Derived.Test.YtlkcbfolpfckgaaKept
import Derived.Test.YtlkcbfolpfckgaaExB
namespace Go.Proofs.Ytlkcbfolpfckgaa
open Go.RowKit

set_option maxHeartbeats 2000000 in
theorem laws_FnExactKeepMarks_c (vxs : Value) (xs : List Int) (now : Int) (w : World) (hxs : Ints w w.heap.size vxs xs) :
    Calls Try.prog 9 #[vxs, .int .i64 now] w fun e w' => e = .returned (.bool true) ∧ Below w.heap.size w w' := by
  obtain ⟨nxs, hnxs⟩ : ∃ n, xs.length = n := ⟨_, rfl⟩
  obtain ⟨axs, cxs, rfl, _, _, _⟩ := hxs.ints hnxs
  by_cases hbxs : 1048576 < nxs
  · clear hnxs
    go_enter Try.func9, Try.ntmps9
    go_wp2
    go_ret
    exact ⟨rfl, Below.refl _ _⟩
  have hlxs : xs.length ≤ 1048576 := by rw [hnxs]; omega
  have hqxs : nxs ≤ 1048576 := by omega
  have HNxs := hid hnxs
  have hsxs : ∀ wx, Below w.heap.size w wx → Ints wx wx.heap.size (.slice axs nxs cxs) xs := fun wx hx => hxs.on hx
  clear hnxs hbxs
  have HG : Hid ((keepMarks xs now).length ≤ 1048576) := by unfold Hid keepMarks; split; rw [kmarks_len]; exact hlxs; simp
  generalize hR : keepMarks xs now = R at *
  have HR := hid hR
  clear hR
  obtain ⟨m, hm⟩ : ∃ m, R.length = m := ⟨_, rfl⟩
  have hm0 : m ≤ 1048576 := by rw [← hm]; exact HG.out
  have HM := hid hm
  clear hm
  go_enter Try.func9, Try.ntmps9
  go_wp2_with fail
  refine (laws_toIntS_c _ xs w (hsxs _ (Below.refl w.heap.size w)) hlxs).mono ?_
  rintro e w1 ⟨p0, rfl, o1, b1⟩
  have s1 : w.heap.size ≤ w1.heap.size := b1.size
  have d1 : Below w.heap.size w w1 := bl_then (Below.refl w.heap.size w) b1
  go_wp2_with fail
  refine (spec_KeepMarks_c _ xs now _ (Rd.of_own o1) hlxs).mono ?_
  rintro e w2 ⟨r0, rfl, o2, b2⟩
  have s2 : w1.heap.size ≤ w2.heap.size := b2.size
  have d2 : Below w.heap.size w w2 := bl_then d1 b2
  have p0_2 := o1.on b2
  rw [HR.out] at o2
  have r0_2 := Rd.of_own o2
  go_wp2_with fail
  refine (laws_toIntS_c _ xs w2 (hsxs _ d2) hlxs).mono ?_
  rintro e w3 ⟨x0, rfl, o3, b3⟩
  have s3 : w2.heap.size ≤ w3.heap.size := b3.size
  have d3 : Below w.heap.size w w3 := bl_then d2 b3
  have r0_3 := Rd.below r0_2 b3 (by omega)
  have hxx0 := o3.lt
  go_wp2_with fail
  refine (impl_KeepMarks_c _ xs now _ (Rd.of_own o3)).mono ?_
  rintro e w4 ⟨q0, rfl, o4, b4⟩
  have s4 : w3.heap.size ≤ w4.heap.size := b4.size
  have d4 : Below w.heap.size w w4 := bl_then d3 b4
  have r0_4 := Rd.below r0_3 b4 (by omega)
  have x0_4 := o3.on b4
  rw [HR.out] at o4
  have hxq0 := o4.lt
  go_wp2_with fail
  refine (laws_eqBoolS_b _ _ R R _ _ _ (Rd.of_own o4) r0_4).mono ?_
  rintro e w5 ⟨rfl, b5⟩
  have s5 : w4.heap.size ≤ w5.heap.size := b5.size
  have d5 : Below w.heap.size w w5 := bl_then d4 b5
  have r0_5 := Rd.below r0_4 b5 (by omega)
  have x0_5 := x0_4.on b5
  have q0_5 := o4.on b5
  go_wp2_with fail
  refine (laws_toIntS_c _ xs w5 (hsxs _ d5) hlxs).mono ?_
  rintro e w6 ⟨y0, rfl, o6, b6⟩
  have s6 : w5.heap.size ≤ w6.heap.size := b6.size
  have d6 : Below w.heap.size w w6 := bl_then d5 b6
  have r0_6 := Rd.below r0_5 b6 (by omega)
  have x0_6 := x0_5.on b6
  have q0_6 := q0_5.on b6
  go_wp2_with fail
  refine (laws_eqIntS_b _ _ xs xs _ _ _ (Rd.of_own x0_6) (Rd.of_own o6)).mono ?_
  rintro e w7 ⟨rfl, b7⟩
  have s7 : w6.heap.size ≤ w7.heap.size := b7.size
  have d7 : Below w.heap.size w w7 := bl_then d6 b7
  have r0_7 := Rd.below r0_6 b7 (by omega)
  have x0_7 := x0_6.on b7
  have q0_7 := q0_6.on b7
  go_wp2_with fail
  refine (laws_markIntS_c _ _ nxs xs 1 _ x0_7 HNxs.out hqxs (by omega) (by omega)).mono ?_
  rintro e w8 ⟨rfl, _, g8⟩
  have s8 : w7.heap.size ≤ w8.heap.size := g8.size
  have z8 := (d7).size
  have d8 : Below w.heap.size w w8 := Below.grown d7 g8 z8 (fun g hg => by have := (hxx0 g hg).1; omega)
  have r0_8 := Rd.far r0_7 (by omega) g8 (fun g hg => by have := (hxx0 g hg).1; omega)
  have q0_8 := Own.far q0_7 g8 (fun g hg => by have := (hxx0 g hg).2; omega)
  go_wp2_with fail
  refine (laws_eqBoolS_b _ _ R R _ _ _ (Rd.of_own q0_8) r0_8).mono ?_
  rintro e w9 ⟨rfl, b9⟩
  have s9 : w8.heap.size ≤ w9.heap.size := b9.size
  have d9 : Below w.heap.size w w9 := bl_then d8 b9
  have r0_9 := Rd.below r0_8 b9 (by omega)
  have q0_9 := q0_8.on b9
  go_wp2_with fail
  refine (laws_markBoolS_c _ _ m R 1 _ q0_9 HM.out hm0 (by omega) (by omega)).mono ?_
  rintro e w10 ⟨rfl, o10, g10⟩
  have s10 : w9.heap.size ≤ w10.heap.size := g10.size
  have z10 := (d9).size
  have d10 : Below w.heap.size w w10 := Below.grown d9 g10 z10 (fun g hg => by have := (hxq0 g hg).1; omega)
  have r0_10 := Rd.far r0_9 (by omega) g10 (fun g hg => by have := (hxq0 g hg).1; omega)
  go_wp2_with fail
  refine (laws_heldBoolS_b _ _ m 1 _ o10 hm0 (by omega) (by omega)).mono ?_
  rintro e w11 ⟨rfl, b11⟩
  have s11 : w10.heap.size ≤ w11.heap.size := b11.size
  have d11 : Below w.heap.size w w11 := bl_then d10 b11
  have r0_11 := Rd.below r0_10 b11 (by omega)
  have q0_11 := o10.on b11
  go_wp2_with fail
  refine (laws_toIntS_c _ xs w11 (hsxs _ d11) hlxs).mono ?_
  rintro e w12 ⟨u0, rfl, o12, b12⟩
  have s12 : w11.heap.size ≤ w12.heap.size := b12.size
  have d12 : Below w.heap.size w w12 := bl_then d11 b12
  have r0_12 := Rd.below r0_11 b12 (by omega)
  have q0_12 := q0_11.on b12
  go_wp2_with fail
  refine (impl_KeepMarks_c _ xs now _ (Rd.of_own o12)).mono ?_
  rintro e w13 ⟨h0, rfl, o13, b13⟩
  have s13 : w12.heap.size ≤ w13.heap.size := b13.size
  have d13 : Below w.heap.size w w13 := bl_then d12 b13
  have r0_13 := Rd.below r0_12 b13 (by omega)
  have q0_13 := q0_12.on b13
  have u0_13 := o12.on b13
  rw [HR.out] at o13
  go_wp2_with fail
  refine (laws_eqBoolS_b _ _ R R _ _ _ (Rd.of_own o13) r0_13).mono ?_
  rintro e w14 ⟨rfl, b14⟩
  have s14 : w13.heap.size ≤ w14.heap.size := b14.size
  have d14 : Below w.heap.size w w14 := bl_then d13 b14
  have r0_14 := Rd.below r0_13 b14 (by omega)
  have q0_14 := q0_13.on b14
  go_wp2_with fail
  refine (laws_heldBoolS_b _ _ m 1 _ q0_14 hm0 (by omega) (by omega)).mono ?_
  rintro e w15 ⟨rfl, b15⟩
  have s15 : w14.heap.size ≤ w15.heap.size := b15.size
  have d15 : Below w.heap.size w w15 := bl_then d14 b15
  have r0_15 := Rd.below r0_14 b15 (by omega)
  have q0_15 := q0_14.on b15
  go_wp2
  go_ret
  exact ⟨rfl, d15⟩

set_option maxHeartbeats 2000000 in
theorem laws_FnExactKeptDays_c (vxs : Value) (xs : List Int) (now : Int) (w : World) (hxs : Ints w w.heap.size vxs xs) :
    Calls Try.prog 10 #[vxs, .int .i64 now] w fun e w' => e = .returned (.bool true) ∧ Below w.heap.size w w' := by
  obtain ⟨nxs, hnxs⟩ : ∃ n, xs.length = n := ⟨_, rfl⟩
  obtain ⟨axs, cxs, rfl, _, _, _⟩ := hxs.ints hnxs
  by_cases hbxs : 1048576 < nxs
  · clear hnxs
    go_enter Try.func10, Try.ntmps10
    go_wp2
    go_ret
    exact ⟨rfl, Below.refl _ _⟩
  have hlxs : xs.length ≤ 1048576 := by rw [hnxs]; omega
  have hqxs : nxs ≤ 1048576 := by omega
  have HNxs := hid hnxs
  have hsxs : ∀ wx, Below w.heap.size w wx → Ints wx wx.heap.size (.slice axs nxs cxs) xs := fun wx hx => hxs.on hx
  clear hnxs hbxs
  have HG : Hid ((keptDays xs now).length ≤ 1048576) := Nat.le_trans (keptDays_len xs now) hlxs
  generalize hR : keptDays xs now = R at *
  have HR := hid hR
  clear hR
  obtain ⟨m, hm⟩ : ∃ m, R.length = m := ⟨_, rfl⟩
  have hm0 : m ≤ 1048576 := by rw [← hm]; exact HG.out
  have HM := hid hm
  clear hm
  go_enter Try.func10, Try.ntmps10
  go_wp2_with fail
  refine (laws_toIntS_c _ xs w (hsxs _ (Below.refl w.heap.size w)) hlxs).mono ?_
  rintro e w1 ⟨p0, rfl, o1, b1⟩
  have s1 : w.heap.size ≤ w1.heap.size := b1.size
  have d1 : Below w.heap.size w w1 := bl_then (Below.refl w.heap.size w) b1
  go_wp2_with fail
  refine (spec_KeptDays_c _ xs now _ (Rd.of_own o1) hlxs).mono ?_
  rintro e w2 ⟨r0, rfl, o2, b2⟩
  have s2 : w1.heap.size ≤ w2.heap.size := b2.size
  have d2 : Below w.heap.size w w2 := bl_then d1 b2
  have p0_2 := o1.on b2
  rw [HR.out] at o2
  have r0_2 := Rd.of_own o2
  go_wp2_with fail
  refine (laws_toIntS_c _ xs w2 (hsxs _ d2) hlxs).mono ?_
  rintro e w3 ⟨x0, rfl, o3, b3⟩
  have s3 : w2.heap.size ≤ w3.heap.size := b3.size
  have d3 : Below w.heap.size w w3 := bl_then d2 b3
  have r0_3 := Rd.below r0_2 b3 (by omega)
  have hxx0 := o3.lt
  go_wp2_with fail
  refine (impl_KeptDays_c _ xs now _ (Rd.of_own o3) hlxs).mono ?_
  rintro e w4 ⟨q0, rfl, o4, b4⟩
  have s4 : w3.heap.size ≤ w4.heap.size := b4.size
  have d4 : Below w.heap.size w w4 := bl_then d3 b4
  have r0_4 := Rd.below r0_3 b4 (by omega)
  have x0_4 := o3.on b4
  rw [HR.out] at o4
  have hxq0 := o4.lt
  go_wp2_with fail
  refine (laws_eqIntS_b _ _ R R _ _ _ (Rd.of_own o4) r0_4).mono ?_
  rintro e w5 ⟨rfl, b5⟩
  have s5 : w4.heap.size ≤ w5.heap.size := b5.size
  have d5 : Below w.heap.size w w5 := bl_then d4 b5
  have r0_5 := Rd.below r0_4 b5 (by omega)
  have x0_5 := x0_4.on b5
  have q0_5 := o4.on b5
  go_wp2_with fail
  refine (laws_toIntS_c _ xs w5 (hsxs _ d5) hlxs).mono ?_
  rintro e w6 ⟨y0, rfl, o6, b6⟩
  have s6 : w5.heap.size ≤ w6.heap.size := b6.size
  have d6 : Below w.heap.size w w6 := bl_then d5 b6
  have r0_6 := Rd.below r0_5 b6 (by omega)
  have x0_6 := x0_5.on b6
  have q0_6 := q0_5.on b6
  go_wp2_with fail
  refine (laws_eqIntS_b _ _ xs xs _ _ _ (Rd.of_own x0_6) (Rd.of_own o6)).mono ?_
  rintro e w7 ⟨rfl, b7⟩
  have s7 : w6.heap.size ≤ w7.heap.size := b7.size
  have d7 : Below w.heap.size w w7 := bl_then d6 b7
  have r0_7 := Rd.below r0_6 b7 (by omega)
  have x0_7 := x0_6.on b7
  have q0_7 := q0_6.on b7
  go_wp2_with fail
  refine (laws_markIntS_c _ _ nxs xs 1 _ x0_7 HNxs.out hqxs (by omega) (by omega)).mono ?_
  rintro e w8 ⟨rfl, _, g8⟩
  have s8 : w7.heap.size ≤ w8.heap.size := g8.size
  have z8 := (d7).size
  have d8 : Below w.heap.size w w8 := Below.grown d7 g8 z8 (fun g hg => by have := (hxx0 g hg).1; omega)
  have r0_8 := Rd.far r0_7 (by omega) g8 (fun g hg => by have := (hxx0 g hg).1; omega)
  have q0_8 := Own.far q0_7 g8 (fun g hg => by have := (hxx0 g hg).2; omega)
  go_wp2_with fail
  refine (laws_eqIntS_b _ _ R R _ _ _ (Rd.of_own q0_8) r0_8).mono ?_
  rintro e w9 ⟨rfl, b9⟩
  have s9 : w8.heap.size ≤ w9.heap.size := b9.size
  have d9 : Below w.heap.size w w9 := bl_then d8 b9
  have r0_9 := Rd.below r0_8 b9 (by omega)
  have q0_9 := q0_8.on b9
  go_wp2_with fail
  refine (laws_markIntS_c _ _ m R 1 _ q0_9 HM.out hm0 (by omega) (by omega)).mono ?_
  rintro e w10 ⟨rfl, o10, g10⟩
  have s10 : w9.heap.size ≤ w10.heap.size := g10.size
  have z10 := (d9).size
  have d10 : Below w.heap.size w w10 := Below.grown d9 g10 z10 (fun g hg => by have := (hxq0 g hg).1; omega)
  have r0_10 := Rd.far r0_9 (by omega) g10 (fun g hg => by have := (hxq0 g hg).1; omega)
  go_wp2_with fail
  refine (laws_heldIntS_b _ _ m 1 _ o10 hm0 (by omega) (by omega)).mono ?_
  rintro e w11 ⟨rfl, b11⟩
  have s11 : w10.heap.size ≤ w11.heap.size := b11.size
  have d11 : Below w.heap.size w w11 := bl_then d10 b11
  have r0_11 := Rd.below r0_10 b11 (by omega)
  have q0_11 := o10.on b11
  go_wp2_with fail
  refine (laws_toIntS_c _ xs w11 (hsxs _ d11) hlxs).mono ?_
  rintro e w12 ⟨u0, rfl, o12, b12⟩
  have s12 : w11.heap.size ≤ w12.heap.size := b12.size
  have d12 : Below w.heap.size w w12 := bl_then d11 b12
  have r0_12 := Rd.below r0_11 b12 (by omega)
  have q0_12 := q0_11.on b12
  go_wp2_with fail
  refine (impl_KeptDays_c _ xs now _ (Rd.of_own o12) hlxs).mono ?_
  rintro e w13 ⟨h0, rfl, o13, b13⟩
  have s13 : w12.heap.size ≤ w13.heap.size := b13.size
  have d13 : Below w.heap.size w w13 := bl_then d12 b13
  have r0_13 := Rd.below r0_12 b13 (by omega)
  have q0_13 := q0_12.on b13
  have u0_13 := o12.on b13
  rw [HR.out] at o13
  go_wp2_with fail
  refine (laws_eqIntS_b _ _ R R _ _ _ (Rd.of_own o13) r0_13).mono ?_
  rintro e w14 ⟨rfl, b14⟩
  have s14 : w13.heap.size ≤ w14.heap.size := b14.size
  have d14 : Below w.heap.size w w14 := bl_then d13 b14
  have r0_14 := Rd.below r0_13 b14 (by omega)
  have q0_14 := q0_13.on b14
  go_wp2_with fail
  refine (laws_heldIntS_b _ _ m 1 _ q0_14 hm0 (by omega) (by omega)).mono ?_
  rintro e w15 ⟨rfl, b15⟩
  have s15 : w14.heap.size ≤ w15.heap.size := b15.size
  have d15 : Below w.heap.size w w15 := bl_then d14 b15
  have r0_15 := Rd.below r0_14 b15 (by omega)
  have q0_15 := q0_14.on b15
  go_wp2
  go_ret
  exact ⟨rfl, d15⟩

end Go.Proofs.Ytlkcbfolpfckgaa
