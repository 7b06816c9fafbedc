/- The exact laws of prints that are wanted and of texts to send. -/
import Derived.Test.YtkfkcbceoekgjaaExP
import Derived.Test.YtkfkcbceoekgjaaExS
import Derived.Test.YtkfkcbceoekgjaaWant
namespace Go.Proofs.Ytkfkcbceoekgjaa
open Go.RowKit

set_option maxHeartbeats 2000000 in
theorem laws_FnExactWantedOf_c (v u : Value) (xs : List Pc) (ns : List Int) (w : World) (h : Pcs w w.heap.size v xs) (hx : ∀ x ∈ xs, x.text.size ≤ 9223372036854775807) (h' : Ints w w.heap.size u ns) :
    Calls Try.prog 3 #[v, u] w fun e w' => e = .returned (.bool true) ∧ Below w.heap.size w w' := by
  obtain ⟨n, hn⟩ : ∃ n, xs.length = n := ⟨_, rfl⟩
  obtain ⟨a, c, rfl, _, _, _⟩ := h.pcs hn
  obtain ⟨m, hm⟩ : ∃ m, ns.length = m := ⟨_, rfl⟩
  obtain ⟨a', c', rfl, _, _, _⟩ := h'.ints hm
  by_cases hbm : 1048576 < m
  · clear hn hm
    go_enter Try.func3, Try.ntmps3
    go_wp2
    go_ret
    exact ⟨rfl, Below.refl _ _⟩
  have hls : ns.length ≤ 1048576 := by omega
  have HLS := hid hls
  have HM := hid hm
  have hm9 : m ≤ 1048576 := by omega
  have HS' : Hid (∀ wx, Below w.heap.size w wx → Ints wx wx.heap.size (.slice a' m c') ns) := fun wx hx' => h'.on hx'
  by_cases hbig : szLeftP 1048576 xs < 0
  · have hm1 : szLeftP 1048576 xs = -1 := by unfold szLeftP at *; split at hbig <;> omega
    clear hn hm
    go_enter Try.func3, Try.ntmps3
    go_wp2_with fail
    refine (laws_szPieceS_c _ xs 1048576 _ h hx (by omega) (by omega)).mono ?_
    rw [hm1]
    rintro e w1 ⟨rfl, b1⟩
    go_wp2
    go_ret
    exact ⟨rfl, b1⟩
  have hsum : xs.length + szPcs xs ≤ 1048576 := by unfold szLeftP at hbig; split at hbig <;> omega
  have hlx : xs.length ≤ 1048576 := by omega
  have hnx : ∀ x ∈ xs, x.text.size ≤ 1048576 := fun x hx' => by have := szPcs_mem hx'; omega
  obtain ⟨lf, hlf⟩ : ∃ lf, szLeftP 1048576 xs = lf := ⟨_, rfl⟩
  have hlf0 : 0 ≤ lf := by omega
  have HLF := hid hlf
  have HS : Hid (∀ wx, Below w.heap.size w wx → Pcs wx wx.heap.size (.slice a n c) xs) := fun wx hx' => h.on hx'
  have HNX := hid hnx
  have HLX := hid hlx
  have HXX := hid hx
  have hn9 : n ≤ 1048576 := by omega
  have HN := hid hn
  have HG : Hid ((wantedOf xs ns).length ≤ 1048576) := by unfold Hid wantedOf; split; exact Nat.le_trans (wantFrom_len _ _ _) (by simpa using hls); simp
  obtain ⟨R, hR⟩ : ∃ R, wantedOf xs ns = R := ⟨_, rfl⟩
  rw [hR] at HG
  have HR := hid hR
  obtain ⟨q, hq⟩ : ∃ q, R.length = q := ⟨_, rfl⟩
  have hq0 : q ≤ 1048576 := by rw [← hq]; exact HG.out
  have HQ := hid hq
  clear hn hm hlf h h' hx hnx hlx hls hsum hbig hR hq
  go_enter Try.func3, Try.ntmps3
  go_wp2_with fail
  refine (laws_szPieceS_c _ xs 1048576 _ (HS.out _ (Below.refl w.heap.size w)) HXX.out (by omega) (by omega)).mono ?_
  rw [HLF.out]
  rintro e w1 ⟨rfl, b1⟩
  have s1 : w.heap.size ≤ w1.heap.size := b1.size
  have d1 : Below w.heap.size w w1 := bl_then (Below.refl w.heap.size w) b1
  go_wp2_with fail
  refine (laws_toPieceS_c _ xs _ (HS.out _ d1) HLX.out).mono ?_
  rintro e w2 ⟨p0, rfl, o2, b2⟩
  have s2 : w1.heap.size ≤ w2.heap.size := b2.size
  have d2 : Below w.heap.size w w2 := bl_then d1 b2
  go_wp2_with fail
  refine (laws_toIntS_c _ ns _ (HS'.out _ d2) HLS.out).mono ?_
  rintro e w3 ⟨p1, rfl, o3, b3⟩
  have s3 : w2.heap.size ≤ w3.heap.size := b3.size
  have d3 : Below w.heap.size w w3 := bl_then d2 b3
  have p0_3 := o2.on b3
  go_wp2_with fail
  refine (spec_WantedOf_c _ _ xs ns _ (Rd.of_own p0_3) (Rd.of_own o3) HNX.out HLX.out HLS.out).mono ?_
  rw [HR.out]
  rintro e w4 ⟨r0, rfl, o4, b4⟩
  have s4 : w3.heap.size ≤ w4.heap.size := b4.size
  have d4 : Below w.heap.size w w4 := bl_then d3 b4
  have p0_4 := p0_3.on b4
  have p1_4 := o3.on b4
  have r_4 := Rd.of_own o4
  go_wp2_with fail
  refine (laws_toPieceS_c _ xs _ (HS.out _ d4) HLX.out).mono ?_
  rintro e w5 ⟨x0, rfl, o5, b5⟩
  have s5 : w4.heap.size ≤ w5.heap.size := b5.size
  have d5 : Below w.heap.size w w5 := bl_then d4 b5
  have r_5 := Rd.below r_4 b5 (by omega)
  have hxx := o5.lt
  go_wp2_with fail
  refine (laws_toIntS_c _ ns _ (HS'.out _ d5) HLS.out).mono ?_
  rintro e w6 ⟨x1, rfl, o6, b6⟩
  have s6 : w5.heap.size ≤ w6.heap.size := b6.size
  have d6 : Below w.heap.size w w6 := bl_then d5 b6
  have r_6 := Rd.below r_5 b6 (by omega)
  have x0_6 := o5.on b6
  have hxy := o6.lt
  go_wp2_with fail
  refine (impl_WantedOf_c _ _ xs ns _ (Rd.of_own x0_6) (Rd.of_own o6) HLS.out).mono ?_
  rw [HR.out]
  rintro e w7 ⟨q0, rfl, o7, b7⟩
  have s7 : w6.heap.size ≤ w7.heap.size := b7.size
  have d7 : Below w.heap.size w w7 := bl_then d6 b7
  have r_7 := Rd.below r_6 b7 (by omega)
  have x0_7 := x0_6.on b7
  have x1_7 := o6.on b7
  have hxq := o7.lt
  go_wp2_with fail
  refine (laws_eqIntS_b _ _ R R _ _ _ (Rd.of_own o7) r_7).mono ?_
  rintro e w8 ⟨rfl, b8⟩
  have s8 : w7.heap.size ≤ w8.heap.size := b8.size
  have d8 : Below w.heap.size w w8 := bl_then d7 b8
  have r_8 := Rd.below r_7 b8 (by omega)
  have x0_8 := x0_7.on b8
  have x1_8 := x1_7.on b8
  have q_8 := o7.on b8
  go_wp2_with fail
  refine (laws_toPieceS_c _ xs _ (HS.out _ d8) HLX.out).mono ?_
  rintro e w9 ⟨y0, rfl, o9, b9⟩
  have s9 : w8.heap.size ≤ w9.heap.size := b9.size
  have d9 : Below w.heap.size w w9 := bl_then d8 b9
  have r_9 := Rd.below r_8 b9 (by omega)
  have x0_9 := x0_8.on b9
  have x1_9 := x1_8.on b9
  have q_9 := q_8.on b9
  go_wp2_with fail
  refine (laws_eqPieceS_c _ _ xs _ (Rd.of_own x0_9) (Rd.of_own o9)).mono ?_
  rintro e w10 ⟨rfl, b10⟩
  have s10 : w9.heap.size ≤ w10.heap.size := b10.size
  have d10 : Below w.heap.size w w10 := bl_then d9 b10
  have r_10 := Rd.below r_9 b10 (by omega)
  have x0_10 := x0_9.on b10
  have x1_10 := x1_9.on b10
  have q_10 := q_9.on b10
  have y0_10 := o9.on b10
  go_wp2_with fail
  refine (laws_toIntS_c _ ns _ (HS'.out _ d10) HLS.out).mono ?_
  rintro e w11 ⟨y1, rfl, o11, b11⟩
  have s11 : w10.heap.size ≤ w11.heap.size := b11.size
  have d11 : Below w.heap.size w w11 := bl_then d10 b11
  have r_11 := Rd.below r_10 b11 (by omega)
  have x0_11 := x0_10.on b11
  have x1_11 := x1_10.on b11
  have q_11 := q_10.on b11
  go_wp2_with fail
  refine (laws_eqIntS_b _ _ ns ns _ _ _ (Rd.of_own x1_11) (Rd.of_own o11)).mono ?_
  rintro e w12 ⟨rfl, b12⟩
  have s12 : w11.heap.size ≤ w12.heap.size := b12.size
  have d12 : Below w.heap.size w w12 := bl_then d11 b12
  have r_12 := Rd.below r_11 b12 (by omega)
  have x0_12 := x0_11.on b12
  have x1_12 := x1_11.on b12
  have q_12 := q_11.on b12
  have y1_12 := o11.on b12
  go_wp2_with fail
  refine (laws_markPieceS_c _ _ n xs 1 _ x0_12 HN.out hn9 (by omega) (by omega)).mono ?_
  rintro e w13 ⟨rfl, _, g13⟩
  have s13 : w12.heap.size ≤ w13.heap.size := g13.size
  have z13 := (d12).size
  have d13 : Below w.heap.size w w13 := Below.grown d12 g13 z13 (fun g hg => by have := (hxx g hg).1; omega)
  have r_13 := Rd.far r_12 (by omega) g13 (fun g hg => by have := (hxx g hg).1; omega)
  have x1_13 := Own.far x1_12 g13 (fun g hg => by have := (hxx g hg).2; omega)
  have q_13 := Own.far q_12 g13 (fun g hg => by have := (hxx g hg).2; omega)
  go_wp2_with fail
  refine (laws_markIntS_c _ _ m ns (1 + 2 * n) _ x1_13 HM.out hm9 (by omega) (by omega)).mono ?_
  rintro e w14 ⟨rfl, _, g14⟩
  have s14 : w13.heap.size ≤ w14.heap.size := g14.size
  have z14 := (d13).size
  have d14 : Below w.heap.size w w14 := Below.grown d13 g14 z14 (fun g hg => by have := (hxy g hg).1; omega)
  have r_14 := Rd.far r_13 (by omega) g14 (fun g hg => by have := (hxy g hg).1; omega)
  have q_14 := Own.far q_13 g14 (fun g hg => by have := (hxy g hg).2; omega)
  go_wp2_with fail
  refine (laws_eqIntS_b _ _ R R _ _ _ (Rd.of_own q_14) r_14).mono ?_
  rintro e w15 ⟨rfl, b15⟩
  have s15 : w14.heap.size ≤ w15.heap.size := b15.size
  have d15 : Below w.heap.size w w15 := bl_then d14 b15
  have r_15 := Rd.below r_14 b15 (by omega)
  have q_15 := q_14.on b15
  go_wp2_with fail
  refine (laws_markIntS_c _ _ q R 1 _ q_15 HQ.out hq0 (by omega) (by omega)).mono ?_
  rintro e w16 ⟨rfl, o16, g16⟩
  have s16 : w15.heap.size ≤ w16.heap.size := g16.size
  have z16 := (d15).size
  have d16 : Below w.heap.size w w16 := Below.grown d15 g16 z16 (fun g hg => by have := (hxq g hg).1; omega)
  have r_16 := Rd.far r_15 (by omega) g16 (fun g hg => by have := (hxq g hg).1; omega)
  go_wp2_with fail
  refine (laws_heldIntS_b _ _ q 1 _ o16 hq0 (by omega) (by omega)).mono ?_
  rintro e w17 ⟨rfl, b17⟩
  have s17 : w16.heap.size ≤ w17.heap.size := b17.size
  have d17 : Below w.heap.size w w17 := bl_then d16 b17
  have r_17 := Rd.below r_16 b17 (by omega)
  have q_17 := o16.on b17
  go_wp2_with fail
  refine (laws_toPieceS_c _ xs _ (HS.out _ d17) HLX.out).mono ?_
  rintro e w18 ⟨u0, rfl, o18, b18⟩
  have s18 : w17.heap.size ≤ w18.heap.size := b18.size
  have d18 : Below w.heap.size w w18 := bl_then d17 b18
  have r_18 := Rd.below r_17 b18 (by omega)
  have q_18 := q_17.on b18
  go_wp2_with fail
  refine (laws_toIntS_c _ ns _ (HS'.out _ d18) HLS.out).mono ?_
  rintro e w19 ⟨u1, rfl, o19, b19⟩
  have s19 : w18.heap.size ≤ w19.heap.size := b19.size
  have d19 : Below w.heap.size w w19 := bl_then d18 b19
  have r_19 := Rd.below r_18 b19 (by omega)
  have q_19 := q_18.on b19
  have u0_19 := o18.on b19
  go_wp2_with fail
  refine (impl_WantedOf_c _ _ xs ns _ (Rd.of_own u0_19) (Rd.of_own o19) HLS.out).mono ?_
  rw [HR.out]
  rintro e w20 ⟨h0, rfl, o20, b20⟩
  have s20 : w19.heap.size ≤ w20.heap.size := b20.size
  have d20 : Below w.heap.size w w20 := bl_then d19 b20
  have r_20 := Rd.below r_19 b20 (by omega)
  have q_20 := q_19.on b20
  have u0_20 := u0_19.on b20
  have u1_20 := o19.on b20
  go_wp2_with fail
  refine (laws_eqIntS_b _ _ R R _ _ _ (Rd.of_own o20) r_20).mono ?_
  rintro e w21 ⟨rfl, b21⟩
  have s21 : w20.heap.size ≤ w21.heap.size := b21.size
  have d21 : Below w.heap.size w w21 := bl_then d20 b21
  have r_21 := Rd.below r_20 b21 (by omega)
  have q_21 := q_20.on b21
  have hh_21 := o20.on b21
  go_wp2_with fail
  refine (laws_heldIntS_b _ _ q 1 _ q_21 hq0 (by omega) (by omega)).mono ?_
  rintro e w22 ⟨rfl, b22⟩
  have s22 : w21.heap.size ≤ w22.heap.size := b22.size
  have d22 : Below w.heap.size w w22 := bl_then d21 b22
  have q_22 := q_21.on b22
  go_wp2
  go_ret
  exact ⟨rfl, d22⟩

set_option maxHeartbeats 2000000 in
theorem laws_FnExactSendTexts_c (v u : Value) (xs : List Pc) (ns : List Int) (w : World) (h : Pcs w w.heap.size v xs) (hx : ∀ x ∈ xs, x.text.size ≤ 9223372036854775807) (h' : Ints w w.heap.size u ns) :
    Calls Try.prog 4 #[v, u] w fun e w' => e = .returned (.bool true) ∧ Below w.heap.size w w' := by
  obtain ⟨n, hn⟩ : ∃ n, xs.length = n := ⟨_, rfl⟩
  obtain ⟨a, c, rfl, _, _, _⟩ := h.pcs hn
  obtain ⟨m, hm⟩ : ∃ m, ns.length = m := ⟨_, rfl⟩
  obtain ⟨a', c', rfl, _, _, _⟩ := h'.ints hm
  by_cases hbm : 1048576 < m
  · clear hn hm
    go_enter Try.func4, Try.ntmps4
    go_wp2
    go_ret
    exact ⟨rfl, Below.refl _ _⟩
  have hls : ns.length ≤ 1048576 := by omega
  have HLS := hid hls
  have HM := hid hm
  have hm9 : m ≤ 1048576 := by omega
  have HS' : Hid (∀ wx, Below w.heap.size w wx → Ints wx wx.heap.size (.slice a' m c') ns) := fun wx hx' => h'.on hx'
  by_cases hbig : szLeftP 1048576 xs < 0
  · have hm1 : szLeftP 1048576 xs = -1 := by unfold szLeftP at *; split at hbig <;> omega
    clear hn hm
    go_enter Try.func4, Try.ntmps4
    go_wp2_with fail
    refine (laws_szPieceS_c _ xs 1048576 _ h hx (by omega) (by omega)).mono ?_
    rw [hm1]
    rintro e w1 ⟨rfl, b1⟩
    go_wp2
    go_ret
    exact ⟨rfl, b1⟩
  have hsum : xs.length + szPcs xs ≤ 1048576 := by unfold szLeftP at hbig; split at hbig <;> omega
  have hlx : xs.length ≤ 1048576 := by omega
  have hnx : ∀ x ∈ xs, x.text.size ≤ 1048576 := fun x hx' => by have := szPcs_mem hx'; omega
  obtain ⟨lf, hlf⟩ : ∃ lf, szLeftP 1048576 xs = lf := ⟨_, rfl⟩
  have hlf0 : 0 ≤ lf := by omega
  have HLF := hid hlf
  have HS : Hid (∀ wx, Below w.heap.size w wx → Pcs wx wx.heap.size (.slice a n c) xs) := fun wx hx' => h.on hx'
  have HNX := hid hnx
  have HLX := hid hlx
  have HXX := hid hx
  have hn9 : n ≤ 1048576 := by omega
  have HN := hid hn
  have HG : Hid ((sendTexts xs ns).length ≤ 1048576) := by unfold Hid sendTexts; split; exact Nat.le_trans (sendFrom_len _ _ _) (by simpa using hls); simp
  obtain ⟨R, hR⟩ : ∃ R, sendTexts xs ns = R := ⟨_, rfl⟩
  rw [hR] at HG
  have HR := hid hR
  obtain ⟨q, hq⟩ : ∃ q, R.length = q := ⟨_, rfl⟩
  have hq0 : q ≤ 1048576 := by rw [← hq]; exact HG.out
  have HQ := hid hq
  clear hn hm hlf h h' hx hnx hlx hls hsum hbig hR hq
  go_enter Try.func4, Try.ntmps4
  go_wp2_with fail
  refine (laws_szPieceS_c _ xs 1048576 _ (HS.out _ (Below.refl w.heap.size w)) HXX.out (by omega) (by omega)).mono ?_
  rw [HLF.out]
  rintro e w1 ⟨rfl, b1⟩
  have s1 : w.heap.size ≤ w1.heap.size := b1.size
  have d1 : Below w.heap.size w w1 := bl_then (Below.refl w.heap.size w) b1
  go_wp2_with fail
  refine (laws_toPieceS_c _ xs _ (HS.out _ d1) HLX.out).mono ?_
  rintro e w2 ⟨p0, rfl, o2, b2⟩
  have s2 : w1.heap.size ≤ w2.heap.size := b2.size
  have d2 : Below w.heap.size w w2 := bl_then d1 b2
  go_wp2_with fail
  refine (laws_toIntS_c _ ns _ (HS'.out _ d2) HLS.out).mono ?_
  rintro e w3 ⟨p1, rfl, o3, b3⟩
  have s3 : w2.heap.size ≤ w3.heap.size := b3.size
  have d3 : Below w.heap.size w w3 := bl_then d2 b3
  have p0_3 := o2.on b3
  go_wp2_with fail
  refine (spec_SendTexts_c _ _ xs ns _ (Rd.of_own p0_3) (Rd.of_own o3) HNX.out HLX.out HLS.out).mono ?_
  rw [HR.out]
  rintro e w4 ⟨r0, rfl, o4, b4⟩
  have s4 : w3.heap.size ≤ w4.heap.size := b4.size
  have d4 : Below w.heap.size w w4 := bl_then d3 b4
  have p0_4 := p0_3.on b4
  have p1_4 := o3.on b4
  have r_4 := Rd.of_own o4
  go_wp2_with fail
  refine (laws_toPieceS_c _ xs _ (HS.out _ d4) HLX.out).mono ?_
  rintro e w5 ⟨x0, rfl, o5, b5⟩
  have s5 : w4.heap.size ≤ w5.heap.size := b5.size
  have d5 : Below w.heap.size w w5 := bl_then d4 b5
  have r_5 := Rd.below r_4 b5 (by omega)
  have hxx := o5.lt
  go_wp2_with fail
  refine (laws_toIntS_c _ ns _ (HS'.out _ d5) HLS.out).mono ?_
  rintro e w6 ⟨x1, rfl, o6, b6⟩
  have s6 : w5.heap.size ≤ w6.heap.size := b6.size
  have d6 : Below w.heap.size w w6 := bl_then d5 b6
  have r_6 := Rd.below r_5 b6 (by omega)
  have x0_6 := o5.on b6
  have hxy := o6.lt
  go_wp2_with fail
  refine (impl_SendTexts_c _ _ xs ns _ (Rd.of_own x0_6) (Rd.of_own o6) HLS.out).mono ?_
  rw [HR.out]
  rintro e w7 ⟨q0, rfl, o7, b7⟩
  have s7 : w6.heap.size ≤ w7.heap.size := b7.size
  have d7 : Below w.heap.size w w7 := bl_then d6 b7
  have r_7 := Rd.below r_6 b7 (by omega)
  have x0_7 := x0_6.on b7
  have x1_7 := o6.on b7
  have hxq := o7.lt
  go_wp2_with fail
  refine (laws_eqStringS_c _ _ R _ _ _ (Rd.of_own o7) r_7).mono ?_
  rintro e w8 ⟨rfl, b8⟩
  have s8 : w7.heap.size ≤ w8.heap.size := b8.size
  have d8 : Below w.heap.size w w8 := bl_then d7 b8
  have r_8 := Rd.below r_7 b8 (by omega)
  have x0_8 := x0_7.on b8
  have x1_8 := x1_7.on b8
  have q_8 := o7.on b8
  go_wp2_with fail
  refine (laws_toPieceS_c _ xs _ (HS.out _ d8) HLX.out).mono ?_
  rintro e w9 ⟨y0, rfl, o9, b9⟩
  have s9 : w8.heap.size ≤ w9.heap.size := b9.size
  have d9 : Below w.heap.size w w9 := bl_then d8 b9
  have r_9 := Rd.below r_8 b9 (by omega)
  have x0_9 := x0_8.on b9
  have x1_9 := x1_8.on b9
  have q_9 := q_8.on b9
  go_wp2_with fail
  refine (laws_eqPieceS_c _ _ xs _ (Rd.of_own x0_9) (Rd.of_own o9)).mono ?_
  rintro e w10 ⟨rfl, b10⟩
  have s10 : w9.heap.size ≤ w10.heap.size := b10.size
  have d10 : Below w.heap.size w w10 := bl_then d9 b10
  have r_10 := Rd.below r_9 b10 (by omega)
  have x0_10 := x0_9.on b10
  have x1_10 := x1_9.on b10
  have q_10 := q_9.on b10
  have y0_10 := o9.on b10
  go_wp2_with fail
  refine (laws_toIntS_c _ ns _ (HS'.out _ d10) HLS.out).mono ?_
  rintro e w11 ⟨y1, rfl, o11, b11⟩
  have s11 : w10.heap.size ≤ w11.heap.size := b11.size
  have d11 : Below w.heap.size w w11 := bl_then d10 b11
  have r_11 := Rd.below r_10 b11 (by omega)
  have x0_11 := x0_10.on b11
  have x1_11 := x1_10.on b11
  have q_11 := q_10.on b11
  go_wp2_with fail
  refine (laws_eqIntS_b _ _ ns ns _ _ _ (Rd.of_own x1_11) (Rd.of_own o11)).mono ?_
  rintro e w12 ⟨rfl, b12⟩
  have s12 : w11.heap.size ≤ w12.heap.size := b12.size
  have d12 : Below w.heap.size w w12 := bl_then d11 b12
  have r_12 := Rd.below r_11 b12 (by omega)
  have x0_12 := x0_11.on b12
  have x1_12 := x1_11.on b12
  have q_12 := q_11.on b12
  have y1_12 := o11.on b12
  go_wp2_with fail
  refine (laws_markPieceS_c _ _ n xs 1 _ x0_12 HN.out hn9 (by omega) (by omega)).mono ?_
  rintro e w13 ⟨rfl, _, g13⟩
  have s13 : w12.heap.size ≤ w13.heap.size := g13.size
  have z13 := (d12).size
  have d13 : Below w.heap.size w w13 := Below.grown d12 g13 z13 (fun g hg => by have := (hxx g hg).1; omega)
  have r_13 := Rd.far r_12 (by omega) g13 (fun g hg => by have := (hxx g hg).1; omega)
  have x1_13 := Own.far x1_12 g13 (fun g hg => by have := (hxx g hg).2; omega)
  have q_13 := Own.far q_12 g13 (fun g hg => by have := (hxx g hg).2; omega)
  go_wp2_with fail
  refine (laws_markIntS_c _ _ m ns (1 + 2 * n) _ x1_13 HM.out hm9 (by omega) (by omega)).mono ?_
  rintro e w14 ⟨rfl, _, g14⟩
  have s14 : w13.heap.size ≤ w14.heap.size := g14.size
  have z14 := (d13).size
  have d14 : Below w.heap.size w w14 := Below.grown d13 g14 z14 (fun g hg => by have := (hxy g hg).1; omega)
  have r_14 := Rd.far r_13 (by omega) g14 (fun g hg => by have := (hxy g hg).1; omega)
  have q_14 := Own.far q_13 g14 (fun g hg => by have := (hxy g hg).2; omega)
  go_wp2_with fail
  refine (laws_eqStringS_c _ _ R _ _ _ (Rd.of_own q_14) r_14).mono ?_
  rintro e w15 ⟨rfl, b15⟩
  have s15 : w14.heap.size ≤ w15.heap.size := b15.size
  have d15 : Below w.heap.size w w15 := bl_then d14 b15
  have r_15 := Rd.below r_14 b15 (by omega)
  have q_15 := q_14.on b15
  go_wp2_with fail
  refine (laws_markStringS_c _ _ q R 1 _ q_15 HQ.out hq0 (by omega) (by omega)).mono ?_
  rintro e w16 ⟨rfl, o16, g16⟩
  have s16 : w15.heap.size ≤ w16.heap.size := g16.size
  have z16 := (d15).size
  have d16 : Below w.heap.size w w16 := Below.grown d15 g16 z16 (fun g hg => by have := (hxq g hg).1; omega)
  have r_16 := Rd.far r_15 (by omega) g16 (fun g hg => by have := (hxq g hg).1; omega)
  go_wp2_with fail
  refine (laws_heldStringS_c _ _ q 1 _ o16 hq0 (by omega) (by omega)).mono ?_
  rintro e w17 ⟨rfl, b17⟩
  have s17 : w16.heap.size ≤ w17.heap.size := b17.size
  have d17 : Below w.heap.size w w17 := bl_then d16 b17
  have r_17 := Rd.below r_16 b17 (by omega)
  have q_17 := o16.on b17
  go_wp2_with fail
  refine (laws_toPieceS_c _ xs _ (HS.out _ d17) HLX.out).mono ?_
  rintro e w18 ⟨u0, rfl, o18, b18⟩
  have s18 : w17.heap.size ≤ w18.heap.size := b18.size
  have d18 : Below w.heap.size w w18 := bl_then d17 b18
  have r_18 := Rd.below r_17 b18 (by omega)
  have q_18 := q_17.on b18
  go_wp2_with fail
  refine (laws_toIntS_c _ ns _ (HS'.out _ d18) HLS.out).mono ?_
  rintro e w19 ⟨u1, rfl, o19, b19⟩
  have s19 : w18.heap.size ≤ w19.heap.size := b19.size
  have d19 : Below w.heap.size w w19 := bl_then d18 b19
  have r_19 := Rd.below r_18 b19 (by omega)
  have q_19 := q_18.on b19
  have u0_19 := o18.on b19
  go_wp2_with fail
  refine (impl_SendTexts_c _ _ xs ns _ (Rd.of_own u0_19) (Rd.of_own o19) HLS.out).mono ?_
  rw [HR.out]
  rintro e w20 ⟨h0, rfl, o20, b20⟩
  have s20 : w19.heap.size ≤ w20.heap.size := b20.size
  have d20 : Below w.heap.size w w20 := bl_then d19 b20
  have r_20 := Rd.below r_19 b20 (by omega)
  have q_20 := q_19.on b20
  have u0_20 := u0_19.on b20
  have u1_20 := o19.on b20
  go_wp2_with fail
  refine (laws_eqStringS_c _ _ R _ _ _ (Rd.of_own o20) r_20).mono ?_
  rintro e w21 ⟨rfl, b21⟩
  have s21 : w20.heap.size ≤ w21.heap.size := b21.size
  have d21 : Below w.heap.size w w21 := bl_then d20 b21
  have r_21 := Rd.below r_20 b21 (by omega)
  have q_21 := q_20.on b21
  have hh_21 := o20.on b21
  go_wp2_with fail
  refine (laws_heldStringS_c _ _ q 1 _ q_21 hq0 (by omega) (by omega)).mono ?_
  rintro e w22 ⟨rfl, b22⟩
  have s22 : w21.heap.size ≤ w22.heap.size := b22.size
  have d22 : Below w.heap.size w w22 := bl_then d21 b22
  have q_22 := q_21.on b22
  go_wp2
  go_ret
  exact ⟨rfl, d22⟩

end Go.Proofs.Ytkfkcbceoekgjaa
