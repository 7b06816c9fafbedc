/- The exact law of stores that are synced. -/
import Derived.Test.YtkfkcbceoekgjaaDoorExP
import Derived.Test.YtkfkcbceoekgjaaDoorSync
namespace Go.Proofs.YtkfkcbceoekgjaaDoor
open Go.RowKit

theorem syncOf_len {xs ys : List Pc} {root : Int} : (syncOf xs ys root).1.length ≤ 40 ∧ -1 ≤ (syncOf xs ys root).2 := by
  unfold syncOf
  split
  · rename_i h
    constructor
    · unfold takeTexts
      simp only [h.1, if_true]
      exact (st_in (takes_ok (ps := _) _ (xs, 0) h.1)).1
    · simp only []; omega
  · simp

set_option maxHeartbeats 2000000 in
set_option maxRecDepth 100000 in
theorem laws_FnExactSyncRoot_c (v u : Value) (xs ys : List Pc) (root : Int) (w : World) (h : Pcs w w.heap.size v xs) (hx : ∀ x ∈ xs, x.text.size ≤ 9223372036854775807) (h' : Pcs w w.heap.size u ys) (hy : ∀ x ∈ ys, x.text.size ≤ 9223372036854775807) (hg : Glob w) :
    Calls Tryd.prog 6 #[v, u, .int .i64 root] w fun e w' => e = .returned (.bool true) ∧ Below w.heap.size w w' := by
  obtain ⟨n, hn⟩ : ∃ n, xs.length = n := ⟨_, rfl⟩
  obtain ⟨a, c, rfl, _, _, _⟩ := h.pcs hn
  obtain ⟨m, hm⟩ : ∃ m, ys.length = m := ⟨_, rfl⟩
  obtain ⟨a', c', rfl, _, _, _⟩ := h'.pcs hm
  by_cases hbig : szLeftP 1048576 xs < 0
  · have hm1 : szLeftP 1048576 xs = -1 := by unfold szLeftP at *; split at hbig <;> omega
    clear hn hm
    go_enter Tryd.func6, Tryd.ntmps6
    go_wp2_with fail
    refine (laws_szPieceS_c _ xs 1048576 _ h hx (by omega) (by omega)).mono ?_
    rw [hm1]
    rintro e w1 ⟨rfl, b1⟩
    go_wp2
    go_ret
    exact ⟨rfl, b1⟩
  have hsum : xs.length + szPcs xs ≤ 1048576 := by unfold szLeftP at hbig; split at hbig <;> omega
  have hlx : xs.length ≤ 1048576 := by omega
  have hnx : ∀ x ∈ xs, x.text.size ≤ 1048576 := fun x hx' => by have := szPcs_mem hx'; omega
  obtain ⟨lf, hlf⟩ : ∃ lf, szLeftP 1048576 xs = lf := ⟨_, rfl⟩
  have hlf0 : 0 ≤ lf := by omega
  have hlf1 : lf ≤ 1048576 := by unfold szLeftP at hlf; split at hlf <;> omega
  have HLF := hid hlf
  have HS : Hid (∀ wx, Below w.heap.size w wx → Pcs wx wx.heap.size (.slice a n c) xs) := fun wx hx' => h.on hx'
  have HS' : Hid (∀ wx, Below w.heap.size w wx → Pcs wx wx.heap.size (.slice a' m c') ys) := fun wx hx' => h'.on hx'
  have HGL : Hid (∀ wx, Below w.heap.size w wx → Glob wx) := fun wx hx' => hg.on hx'
  have HNX := hid hnx
  have HLX := hid hlx
  have HXX := hid hx
  have HYY := hid hy
  have hn9 : n ≤ 1048576 := by omega
  have HN := hid hn
  have HM := hid hm
  clear hn hm hlf h h' hx hnx hlx hsum hbig hy hg
  by_cases hbig : szLeftP lf ys < 0
  · have hm1 : szLeftP lf ys = -1 := by unfold szLeftP at *; split at hbig <;> omega
    go_enter Tryd.func6, Tryd.ntmps6
    go_wp2_with fail
    refine (laws_szPieceS_c _ xs 1048576 _ (HS.out _ (Below.refl w.heap.size w)) HXX.out (by omega) (by omega)).mono ?_
    rw [HLF.out]
    rintro e w1 ⟨rfl, b1⟩
    go_wp2_with fail
    refine (laws_szPieceS_c _ ys lf _ (HS'.out _ b1) HYY.out (by omega) (by omega)).mono ?_
    rw [hm1]
    rintro e w2 ⟨rfl, b2'⟩
    have b2 := bl_then b1 b2'
    clear b2' hm1
    go_wp2
    go_ret
    exact ⟨rfl, b2⟩
  have hsum : ys.length + szPcs ys ≤ 1048576 := by unfold szLeftP at hbig; split at hbig <;> omega
  have hly : ys.length ≤ 1048576 := by omega
  have hny : ∀ x ∈ ys, x.text.size ≤ 1048576 := fun x hx' => by have := szPcs_mem hx'; omega
  obtain ⟨lg, hlg⟩ : ∃ lg, szLeftP lf ys = lg := ⟨_, rfl⟩
  have hlg0 : 0 ≤ lg := by omega
  have HLG := hid hlg
  have HNY := hid hny
  have HLY := hid hly
  have hm9 : m ≤ 1048576 := by have := HM.out; omega
  obtain ⟨R, Z, hR⟩ : ∃ R Z, syncOf xs ys root = (R, Z) := ⟨_, _, rfl⟩
  have HR := hid hR
  have HG : Hid (R.length ≤ 40) := by have := (syncOf_len (xs := xs) (ys := ys) (root := root)).1; rw [hR] at this; exact this
  obtain ⟨q, hq⟩ : ∃ q, R.length = q := ⟨_, rfl⟩
  have hq0 : q ≤ 1048576 := by have := HG.out; omega
  have HQ := hid hq
  clear hlg hny hly hsum hbig hR hq
  go_enter Tryd.func6, Tryd.ntmps6
  go_wp2_with fail
  refine (laws_szPieceS_c _ xs 1048576 _ (HS.out _ (Below.refl w.heap.size w)) HXX.out (by omega) (by omega)).mono ?_
  rw [HLF.out]
  rintro e w1 ⟨rfl, b1⟩
  have s1 : w.heap.size ≤ w1.heap.size := b1.size
  have d1 : Below w.heap.size w w1 := bl_then (Below.refl w.heap.size w) b1
  go_wp2_with fail
  refine (laws_szPieceS_c _ ys lf _ (HS'.out _ d1) HYY.out (by omega) (by omega)).mono ?_
  rw [HLG.out]
  rintro e w2 ⟨rfl, b2⟩
  have s2 : w1.heap.size ≤ w2.heap.size := b2.size
  have d2 : Below w.heap.size w w2 := bl_then d1 b2
  go_wp2_with fail
  refine (laws_toPieceS_c _ xs _ (HS.out _ d2) HLX.out).mono ?_
  rintro e w3 ⟨p0, rfl, o3, b3⟩
  have s3 : w2.heap.size ≤ w3.heap.size := b3.size
  have d3 : Below w.heap.size w w3 := bl_then d2 b3
  go_wp2_with fail
  refine (laws_toPieceS_c _ ys _ (HS'.out _ d3) HLY.out).mono ?_
  rintro e w4 ⟨p1, rfl, o4, b4⟩
  have s4 : w3.heap.size ≤ w4.heap.size := b4.size
  have d4 : Below w.heap.size w w4 := bl_then d3 b4
  have p0_4 := o3.on b4
  go_wp2_with fail
  refine (spec_SyncRoot_c _ _ xs ys root R Z HR.out _ (Rd.of_own p0_4) (Rd.of_own o4) HNX.out HLX.out HNY.out HLY.out).mono ?_
  rintro e w5 ⟨r0, rfl, o5, b5⟩
  have s5 : w4.heap.size ≤ w5.heap.size := b5.size
  have d5 : Below w.heap.size w w5 := bl_then d4 b5
  have p0_5 := p0_4.on b5
  have p1_5 := o4.on b5
  have r_5 := Rd.of_own o5
  go_wp2_with fail
  refine (laws_toPieceS_c _ xs _ (HS.out _ d5) HLX.out).mono ?_
  rintro e w6 ⟨x0, rfl, o6, b6⟩
  have s6 : w5.heap.size ≤ w6.heap.size := b6.size
  have d6 : Below w.heap.size w w6 := bl_then d5 b6
  have r_6 := Rd.below r_5 b6 (by omega)
  have hxx := o6.lt
  go_wp2_with fail
  refine (laws_toPieceS_c _ ys _ (HS'.out _ d6) HLY.out).mono ?_
  rintro e w7 ⟨x1, rfl, o7, b7⟩
  have s7 : w6.heap.size ≤ w7.heap.size := b7.size
  have d7 : Below w.heap.size w w7 := bl_then d6 b7
  have r_7 := Rd.below r_6 b7 (by omega)
  have x0_7 := o6.on b7
  have hxy := o7.lt
  go_wp2_with fail
  refine (impl_SyncRoot_c _ _ xs ys root R Z HR.out _ (Rd.of_own x0_7) (Rd.of_own o7) (HGL.out _ d7)).mono ?_
  rintro e w8 ⟨q0, rfl, o8, b8⟩
  have s8 : w7.heap.size ≤ w8.heap.size := b8.size
  have d8 : Below w.heap.size w w8 := bl_then d7 b8
  have r_8 := Rd.below r_7 b8 (by omega)
  have x0_8 := x0_7.on b8
  have x1_8 := o7.on b8
  have hxq := o8.lt
  go_wp2_with fail
  refine (laws_eqPieceS_c _ _ R _ (Rd.of_own o8) (Rd.more r_8 (by omega))).mono ?_
  rintro e w9 ⟨rfl, b9⟩
  have s9 : w8.heap.size ≤ w9.heap.size := b9.size
  have d9 : Below w.heap.size w w9 := bl_then d8 b9
  have r_9 := Rd.below r_8 b9 (by omega)
  have x0_9 := x0_8.on b9
  have x1_9 := x1_8.on b9
  have q_9 := o8.on b9
  go_wp2_with fail
  refine (laws_toPieceS_c _ xs _ (HS.out _ d9) HLX.out).mono ?_
  rintro e w10 ⟨y0, rfl, o10, b10⟩
  have s10 : w9.heap.size ≤ w10.heap.size := b10.size
  have d10 : Below w.heap.size w w10 := bl_then d9 b10
  have r_10 := Rd.below r_9 b10 (by omega)
  have x0_10 := x0_9.on b10
  have x1_10 := x1_9.on b10
  have q_10 := q_9.on b10
  go_wp2_with fail
  refine (laws_eqPieceS_c _ _ xs _ (Rd.of_own x0_10) (Rd.of_own o10)).mono ?_
  rintro e w11 ⟨rfl, b11⟩
  have s11 : w10.heap.size ≤ w11.heap.size := b11.size
  have d11 : Below w.heap.size w w11 := bl_then d10 b11
  have r_11 := Rd.below r_10 b11 (by omega)
  have x0_11 := x0_10.on b11
  have x1_11 := x1_10.on b11
  have q_11 := q_10.on b11
  have y0_11 := o10.on b11
  go_wp2_with fail
  refine (laws_toPieceS_c _ ys _ (HS'.out _ d11) HLY.out).mono ?_
  rintro e w12 ⟨y1, rfl, o12, b12⟩
  have s12 : w11.heap.size ≤ w12.heap.size := b12.size
  have d12 : Below w.heap.size w w12 := bl_then d11 b12
  have r_12 := Rd.below r_11 b12 (by omega)
  have x0_12 := x0_11.on b12
  have x1_12 := x1_11.on b12
  have q_12 := q_11.on b12
  go_wp2_with fail
  refine (laws_eqPieceS_c _ _ ys _ (Rd.of_own x1_12) (Rd.of_own o12)).mono ?_
  rintro e w13 ⟨rfl, b13⟩
  have s13 : w12.heap.size ≤ w13.heap.size := b13.size
  have d13 : Below w.heap.size w w13 := bl_then d12 b13
  have r_13 := Rd.below r_12 b13 (by omega)
  have x0_13 := x0_12.on b13
  have x1_13 := x1_12.on b13
  have q_13 := q_12.on b13
  have y1_13 := o12.on b13
  go_wp2_with fail
  refine (laws_markPieceS_c _ _ n xs 1 _ x0_13 HN.out hn9 (by omega) (by omega)).mono ?_
  rintro e w14 ⟨rfl, _, g14⟩
  have s14 : w13.heap.size ≤ w14.heap.size := g14.size
  have z14 := (d13).size
  have d14 : Below w.heap.size w w14 := Below.grown d13 g14 z14 (fun g hg => by have := (hxx g hg).1; omega)
  have r_14 := Rd.far r_13 (by omega) g14 (fun g hg => by have := (hxx g hg).1; omega)
  have x1_14 := Own.far x1_13 g14 (fun g hg => by have := (hxx g hg).2; omega)
  have q_14 := Own.far q_13 g14 (fun g hg => by have := (hxx g hg).2; omega)
  go_wp2_with fail
  refine (laws_markPieceS_c _ _ m ys (1 + 2 * n) _ x1_14 HM.out hm9 (by omega) (by omega)).mono ?_
  rintro e w15 ⟨rfl, _, g15⟩
  have s15 : w14.heap.size ≤ w15.heap.size := g15.size
  have z15 := (d14).size
  have d15 : Below w.heap.size w w15 := Below.grown d14 g15 z15 (fun g hg => by have := (hxy g hg).1; omega)
  have r_15 := Rd.far r_14 (by omega) g15 (fun g hg => by have := (hxy g hg).1; omega)
  have q_15 := Own.far q_14 g15 (fun g hg => by have := (hxy g hg).2; omega)
  go_wp2_with fail
  refine (laws_eqPieceS_c _ _ R _ (Rd.of_own q_15) (Rd.more r_15 (by omega))).mono ?_
  rintro e w16 ⟨rfl, b16⟩
  have s16 : w15.heap.size ≤ w16.heap.size := b16.size
  have d16 : Below w.heap.size w w16 := bl_then d15 b16
  have r_16 := Rd.below r_15 b16 (by omega)
  have q_16 := q_15.on b16
  go_wp2_with fail
  refine (laws_markPieceS_c _ _ q R 1 _ q_16 HQ.out hq0 (by omega) (by omega)).mono ?_
  rintro e w17 ⟨rfl, o17, g17⟩
  have s17 : w16.heap.size ≤ w17.heap.size := g17.size
  have z17 := (d16).size
  have d17 : Below w.heap.size w w17 := Below.grown d16 g17 z17 (fun g hg => by have := (hxq g hg).1; omega)
  have r_17 := Rd.far r_16 (by omega) g17 (fun g hg => by have := (hxq g hg).1; omega)
  go_wp2_with fail
  refine (laws_heldPieceS_c _ _ q 1 _ o17 hq0 (by omega) (by omega)).mono ?_
  rintro e w18 ⟨rfl, b18⟩
  have s18 : w17.heap.size ≤ w18.heap.size := b18.size
  have d18 : Below w.heap.size w w18 := bl_then d17 b18
  have r_18 := Rd.below r_17 b18 (by omega)
  have q_18 := o17.on b18
  go_wp2_with fail
  refine (laws_toPieceS_c _ xs _ (HS.out _ d18) HLX.out).mono ?_
  rintro e w19 ⟨u0, rfl, o19, b19⟩
  have s19 : w18.heap.size ≤ w19.heap.size := b19.size
  have d19 : Below w.heap.size w w19 := bl_then d18 b19
  have r_19 := Rd.below r_18 b19 (by omega)
  have q_19 := q_18.on b19
  go_wp2_with fail
  refine (laws_toPieceS_c _ ys _ (HS'.out _ d19) HLY.out).mono ?_
  rintro e w20 ⟨u1, rfl, o20, b20⟩
  have s20 : w19.heap.size ≤ w20.heap.size := b20.size
  have d20 : Below w.heap.size w w20 := bl_then d19 b20
  have r_20 := Rd.below r_19 b20 (by omega)
  have q_20 := q_19.on b20
  have u0_20 := o19.on b20
  go_wp2_with fail
  refine (impl_SyncRoot_c _ _ xs ys root R Z HR.out _ (Rd.of_own u0_20) (Rd.of_own o20) (HGL.out _ d20)).mono ?_
  rintro e w21 ⟨h0, rfl, o21, b21⟩
  have s21 : w20.heap.size ≤ w21.heap.size := b21.size
  have d21 : Below w.heap.size w w21 := bl_then d20 b21
  have r_21 := Rd.below r_20 b21 (by omega)
  have q_21 := q_20.on b21
  have u0_21 := u0_20.on b21
  have u1_21 := o20.on b21
  go_wp2_with fail
  refine (laws_eqPieceS_c _ _ R _ (Rd.of_own o21) (Rd.more r_21 (by omega))).mono ?_
  rintro e w22 ⟨rfl, b22⟩
  have s22 : w21.heap.size ≤ w22.heap.size := b22.size
  have d22 : Below w.heap.size w w22 := bl_then d21 b22
  have r_22 := Rd.below r_21 b22 (by omega)
  have q_22 := q_21.on b22
  have hh_22 := o21.on b22
  go_wp2_with fail
  refine (laws_heldPieceS_c _ _ q 1 _ q_22 hq0 (by omega) (by omega)).mono ?_
  rintro e w23 ⟨rfl, b23⟩
  have s23 : w22.heap.size ≤ w23.heap.size := b23.size
  have d23 : Below w.heap.size w w23 := bl_then d22 b23
  have q_23 := q_22.on b23
  go_wp2
  go_ret
  exact ⟨rfl, d23⟩

end Go.Proofs.YtkfkcbceoekgjaaDoor
