/- The exact law of TopPrints. -/
import Derived.Test.YtkfkcbceoekgjaaDoorExP
import Derived.Test.YtkfkcbceoekgjaaDoorTop
namespace Go.Proofs.YtkfkcbceoekgjaaDoor
open Go.RowKit

set_option maxHeartbeats 2000000 in
set_option maxRecDepth 100000 in
theorem laws_FnExactTopPrints_c (v : Value) (xs : List Pc) (w : World) (h : Pcs w w.heap.size v xs) (hx : ∀ x ∈ xs, x.text.size ≤ 9223372036854775807) (hg : Glob w) :
    Calls Tryd.prog 4 #[v] w fun e w' => e = .returned (.bool true) ∧ Below w.heap.size w w' := by
  obtain ⟨n, hn⟩ : ∃ n, xs.length = n := ⟨_, rfl⟩
  obtain ⟨a, c, rfl, _, _, _⟩ := h.pcs hn
  by_cases hbig : szLeftP 1048576 xs < 0
  · have hm1 : szLeftP 1048576 xs = -1 := by unfold szLeftP at *; split at hbig <;> omega
    clear hn
    go_enter Tryd.func4, Tryd.ntmps4
    go_wp2_with fail
    refine (laws_szPieceS_c _ xs 1048576 _ h hx (by omega) (by omega)).mono ?_
    rw [hm1]
    rintro e w1 ⟨rfl, b1⟩
    go_wp2
    go_ret
    exact ⟨rfl, b1⟩
  have hsum : xs.length + szPcs xs ≤ 1048576 := by unfold szLeftP at hbig; split at hbig <;> omega
  have hlx : xs.length ≤ 1048576 := by omega
  have hnx : ∀ x ∈ xs, x.text.size ≤ 1048576 := fun x hx' => by have := szPcs_mem hx'; omega
  obtain ⟨lf, hlf⟩ : ∃ lf, szLeftP 1048576 xs = lf := ⟨_, rfl⟩
  have hlf0 : 0 ≤ lf := by omega
  have HLF := hid hlf
  have HS : Hid (∀ wx, Below w.heap.size w wx → Pcs wx wx.heap.size (.slice a n c) xs) := fun wx hx' => h.on hx'
  have HGL : Hid (∀ wx, Below w.heap.size w wx → Glob wx) := fun wx hx' => hg.on hx'
  have HNX := hid hnx
  have HLX := hid hlx
  have HXX := hid hx
  have hn9 : n ≤ 1048576 := by omega
  have HN := hid hn
  have HG : Hid ((topsOf xs).length ≤ 1048576) := by exact Nat.le_trans topsOf_len (by omega)
  obtain ⟨R, hR⟩ : ∃ R, topsOf xs = R := ⟨_, rfl⟩
  rw [hR] at HG
  have HR := hid hR
  obtain ⟨q, hq⟩ : ∃ q, R.length = q := ⟨_, rfl⟩
  have hq0 : q ≤ 1048576 := by rw [← hq]; exact HG.out
  have HQ := hid hq
  clear hn hlf h hx hnx hlx hsum hbig hR hq hg
  go_enter Tryd.func4, Tryd.ntmps4
  go_wp2_with fail
  refine (laws_szPieceS_c _ xs 1048576 _ (HS.out _ (Below.refl w.heap.size w)) HXX.out (by omega) (by omega)).mono ?_
  rw [HLF.out]
  rintro e w1 ⟨rfl, b1⟩
  have s1 : w.heap.size ≤ w1.heap.size := b1.size
  have d1 : Below w.heap.size w w1 := bl_then (Below.refl w.heap.size w) b1
  go_wp2_with fail
  refine (laws_toPieceS_c _ xs _ (HS.out _ d1) HLX.out).mono ?_
  rintro e w2 ⟨p0, rfl, o2, b2⟩
  have s2 : w1.heap.size ≤ w2.heap.size := b2.size
  have d2 : Below w.heap.size w w2 := bl_then d1 b2
  go_wp2_with fail
  refine (spec_TopPrints_c _ xs _ (Rd.of_own o2) HNX.out HLX.out).mono ?_
  rw [HR.out]
  rintro e w3 ⟨r0, rfl, o3, b3⟩
  have s3 : w2.heap.size ≤ w3.heap.size := b3.size
  have d3 : Below w.heap.size w w3 := bl_then d2 b3
  have p0_3 := o2.on b3
  have r_3 := Rd.of_own o3
  go_wp2_with fail
  refine (laws_toPieceS_c _ xs _ (HS.out _ d3) HLX.out).mono ?_
  rintro e w4 ⟨x0, rfl, o4, b4⟩
  have s4 : w3.heap.size ≤ w4.heap.size := b4.size
  have d4 : Below w.heap.size w w4 := bl_then d3 b4
  have r_4 := Rd.below r_3 b4 (by omega)
  have hxx := o4.lt
  go_wp2_with fail
  refine (impl_TopPrints_c _ xs _ (Rd.of_own o4) HNX.out HLX.out (HGL.out _ d4)).mono ?_
  rw [HR.out]
  rintro e w5 ⟨q0, rfl, o5, b5⟩
  have s5 : w4.heap.size ≤ w5.heap.size := b5.size
  have d5 : Below w.heap.size w w5 := bl_then d4 b5
  have r_5 := Rd.below r_4 b5 (by omega)
  have x0_5 := o4.on b5
  have hxq := o5.lt
  go_wp2_with fail
  refine (laws_eqIntS_b _ _ R R _ _ _ (Rd.of_own o5) r_5).mono ?_
  rintro e w6 ⟨rfl, b6⟩
  have s6 : w5.heap.size ≤ w6.heap.size := b6.size
  have d6 : Below w.heap.size w w6 := bl_then d5 b6
  have r_6 := Rd.below r_5 b6 (by omega)
  have x0_6 := x0_5.on b6
  have q_6 := o5.on b6
  go_wp2_with fail
  refine (laws_toPieceS_c _ xs _ (HS.out _ d6) HLX.out).mono ?_
  rintro e w7 ⟨y0, rfl, o7, b7⟩
  have s7 : w6.heap.size ≤ w7.heap.size := b7.size
  have d7 : Below w.heap.size w w7 := bl_then d6 b7
  have r_7 := Rd.below r_6 b7 (by omega)
  have x0_7 := x0_6.on b7
  have q_7 := q_6.on b7
  go_wp2_with fail
  refine (laws_eqPieceS_c _ _ xs _ (Rd.of_own x0_7) (Rd.of_own o7)).mono ?_
  rintro e w8 ⟨rfl, b8⟩
  have s8 : w7.heap.size ≤ w8.heap.size := b8.size
  have d8 : Below w.heap.size w w8 := bl_then d7 b8
  have r_8 := Rd.below r_7 b8 (by omega)
  have x0_8 := x0_7.on b8
  have q_8 := q_7.on b8
  have y0_8 := o7.on b8
  go_wp2_with fail
  refine (laws_markPieceS_c _ _ n xs 1 _ x0_8 HN.out hn9 (by omega) (by omega)).mono ?_
  rintro e w9 ⟨rfl, _, g9⟩
  have s9 : w8.heap.size ≤ w9.heap.size := g9.size
  have z9 := (d8).size
  have d9 : Below w.heap.size w w9 := Below.grown d8 g9 z9 (fun g hg => by have := (hxx g hg).1; omega)
  have r_9 := Rd.far r_8 (by omega) g9 (fun g hg => by have := (hxx g hg).1; omega)
  have q_9 := Own.far q_8 g9 (fun g hg => by have := (hxx g hg).2; omega)
  go_wp2_with fail
  refine (laws_eqIntS_b _ _ R R _ _ _ (Rd.of_own q_9) r_9).mono ?_
  rintro e w10 ⟨rfl, b10⟩
  have s10 : w9.heap.size ≤ w10.heap.size := b10.size
  have d10 : Below w.heap.size w w10 := bl_then d9 b10
  have r_10 := Rd.below r_9 b10 (by omega)
  have q_10 := q_9.on b10
  go_wp2_with fail
  refine (laws_markIntS_c _ _ q R 1 _ q_10 HQ.out hq0 (by omega) (by omega)).mono ?_
  rintro e w11 ⟨rfl, o11, g11⟩
  have s11 : w10.heap.size ≤ w11.heap.size := g11.size
  have z11 := (d10).size
  have d11 : Below w.heap.size w w11 := Below.grown d10 g11 z11 (fun g hg => by have := (hxq g hg).1; omega)
  have r_11 := Rd.far r_10 (by omega) g11 (fun g hg => by have := (hxq g hg).1; omega)
  go_wp2_with fail
  refine (laws_heldIntS_b _ _ q 1 _ o11 hq0 (by omega) (by omega)).mono ?_
  rintro e w12 ⟨rfl, b12⟩
  have s12 : w11.heap.size ≤ w12.heap.size := b12.size
  have d12 : Below w.heap.size w w12 := bl_then d11 b12
  have r_12 := Rd.below r_11 b12 (by omega)
  have q_12 := o11.on b12
  go_wp2_with fail
  refine (laws_toPieceS_c _ xs _ (HS.out _ d12) HLX.out).mono ?_
  rintro e w13 ⟨u0, rfl, o13, b13⟩
  have s13 : w12.heap.size ≤ w13.heap.size := b13.size
  have d13 : Below w.heap.size w w13 := bl_then d12 b13
  have r_13 := Rd.below r_12 b13 (by omega)
  have q_13 := q_12.on b13
  go_wp2_with fail
  refine (impl_TopPrints_c _ xs _ (Rd.of_own o13) HNX.out HLX.out (HGL.out _ d13)).mono ?_
  rw [HR.out]
  rintro e w14 ⟨h0, rfl, o14, b14⟩
  have s14 : w13.heap.size ≤ w14.heap.size := b14.size
  have d14 : Below w.heap.size w w14 := bl_then d13 b14
  have r_14 := Rd.below r_13 b14 (by omega)
  have q_14 := q_13.on b14
  have u0_14 := o13.on b14
  go_wp2_with fail
  refine (laws_eqIntS_b _ _ R R _ _ _ (Rd.of_own o14) r_14).mono ?_
  rintro e w15 ⟨rfl, b15⟩
  have s15 : w14.heap.size ≤ w15.heap.size := b15.size
  have d15 : Below w.heap.size w w15 := bl_then d14 b15
  have r_15 := Rd.below r_14 b15 (by omega)
  have q_15 := q_14.on b15
  have hh_15 := o14.on b15
  go_wp2_with fail
  refine (laws_heldIntS_b _ _ q 1 _ q_15 hq0 (by omega) (by omega)).mono ?_
  rintro e w16 ⟨rfl, b16⟩
  have s16 : w15.heap.size ≤ w16.heap.size := b16.size
  have d16 : Below w.heap.size w w16 := bl_then d15 b16
  have q_16 := q_15.on b16
  go_wp2
  go_ret
  exact ⟨rfl, d16⟩

end Go.Proofs.YtkfkcbceoekgjaaDoor
