/- The exact law of texts that are taken. -/
import Derived.Test.YtkfkcbceoekgjaaExP
import Derived.Test.YtkfkcbceoekgjaaExS
import Derived.Test.YtkfkcbceoekgjaaTake
namespace Go.Proofs.Ytkfkcbceoekgjaa
open Go.RowKit

theorem takeTexts_len {xs : List Pc} {ns : List Int} {ts : List ByteArray} : (takeTexts xs ns ts).1.length ≤ 40 := by
  unfold takeTexts
  cases h : storeOk xs
  · simp
  · exact (st_in (takes_ok (ps := ns) ts (xs, 0) h)).1

theorem impl_TakeTexts_e (v u s : Value) (xs : List Pc) (ns : List Int) (ts : List ByteArray) (R : List Pc) (Z : Int) (hR : takeTexts xs ns ts = (R, Z)) (w : World) (h : Pcs w w.heap.size v xs) (h' : Ints w w.heap.size u ns) (h'' : Strs w w.heap.size s ts) (hl : ts.length ≤ 1048576) :
    Calls Try.prog 24 #[v, u, s] w fun e w' => ∃ v', e = .returned (.tuple #[v', .int .i64 Z]) ∧ OwnP w' w.heap.size v' R ∧ Below w.heap.size w w' := by
  have := impl_TakeTexts_c v u s xs ns ts w h h' h'' hl
  rw [hR] at this
  exact this

theorem spec_TakeTexts_e (v u s : Value) (xs : List Pc) (ns : List Int) (ts : List ByteArray) (R : List Pc) (Z : Int) (hR : takeTexts xs ns ts = (R, Z)) (w : World) (h : Pcs w w.heap.size v xs) (h' : Ints w w.heap.size u ns) (h'' : Strs w w.heap.size s ts) (hx0 : ∀ x ∈ xs, x.text.size ≤ 1048576) (hl0 : xs.length ≤ 1048576) (hl : ts.length ≤ 1048576) (ht0 : ∀ t ∈ ts, t.size ≤ 1048576) :
    Calls Try.prog 22 #[v, u, s] w fun e w' => ∃ v', e = .returned (.tuple #[v', .int .i64 Z]) ∧ OwnP w' w.heap.size v' R ∧ Below w.heap.size w w' := by
  have := spec_TakeTexts_c v u s xs ns ts w h h' h'' hx0 hl0 hl ht0
  rw [hR] at this
  exact this

set_option maxHeartbeats 2000000 in
theorem laws_FnExactTakeTexts_c (v u s : Value) (xs : List Pc) (ns : List Int) (ts : List ByteArray) (w : World) (h : Pcs w w.heap.size v xs) (hx : ∀ x ∈ xs, x.text.size ≤ 9223372036854775807) (h' : Ints w w.heap.size u ns) (h'' : Strs w w.heap.size s ts) (ht : ∀ x ∈ ts, x.size ≤ 9223372036854775807) :
    Calls Try.prog 5 #[v, u, s] w fun e w' => e = .returned (.bool true) ∧ Below w.heap.size w w' := by
  obtain ⟨n, hn⟩ : ∃ n, xs.length = n := ⟨_, rfl⟩
  obtain ⟨a, c, rfl, _, _, _⟩ := h.pcs hn
  obtain ⟨m, hm⟩ : ∃ m, ns.length = m := ⟨_, rfl⟩
  obtain ⟨a', c', rfl, _, _, _⟩ := h'.ints hm
  obtain ⟨l, hl⟩ : ∃ l, ts.length = l := ⟨_, rfl⟩
  obtain ⟨a'', c'', rfl, _, _, _⟩ := h''.strs hl
  by_cases hbm : 1048576 < m
  · clear hn hm hl
    go_enter Try.func5, Try.ntmps5
    go_wp2
    go_ret
    exact ⟨rfl, Below.refl _ _⟩
  have hls : ns.length ≤ 1048576 := by omega
  have HLS := hid hls
  have HM := hid hm
  have hm9 : m ≤ 1048576 := by omega
  have HS' : Hid (∀ wx, Below w.heap.size w wx → Ints wx wx.heap.size (.slice a' m c') ns) := fun wx hx' => h'.on hx'
  by_cases hbig : szLeftP 1048576 xs < 0
  · have hm1 : szLeftP 1048576 xs = -1 := by unfold szLeftP at *; split at hbig <;> omega
    clear hn hm hl
    go_enter Try.func5, Try.ntmps5
    go_wp2_with fail
    refine (laws_szPieceS_c _ xs 1048576 _ h hx (by omega) (by omega)).mono ?_
    rw [hm1]
    rintro e w1 ⟨rfl, b1⟩
    go_wp2
    go_ret
    exact ⟨rfl, b1⟩
  have hsum : xs.length + szPcs xs ≤ 1048576 := by unfold szLeftP at hbig; split at hbig <;> omega
  have hlx : xs.length ≤ 1048576 := by omega
  have hnx : ∀ x ∈ xs, x.text.size ≤ 1048576 := fun x hx' => by have := szPcs_mem hx'; omega
  obtain ⟨lf, hlf⟩ : ∃ lf, szLeftP 1048576 xs = lf := ⟨_, rfl⟩
  have hlf0 : 0 ≤ lf := by omega
  have hlf1 : lf ≤ 1048576 := by unfold szLeftP at hlf; split at hlf <;> omega
  have HLF := hid hlf
  have HS : Hid (∀ wx, Below w.heap.size w wx → Pcs wx wx.heap.size (.slice a n c) xs) := fun wx hx' => h.on hx'
  have HS'' : Hid (∀ wx, Below w.heap.size w wx → Strs wx wx.heap.size (.slice a'' l c'') ts) := fun wx hx' => h''.on hx'
  have HNX := hid hnx
  have HLX := hid hlx
  have HXX := hid hx
  have HTT := hid ht
  have hn9 : n ≤ 1048576 := by omega
  have HN := hid hn
  have HL := hid hl
  clear hn hm hlf h h' h'' hx hnx hlx hls hsum hbig ht
  by_cases hbig : szLeftS lf ts < 0
  · have hm1 : szLeftS lf ts = -1 := by unfold szLeftS at *; split at hbig <;> omega
    clear hl
    go_enter Try.func5, Try.ntmps5
    go_wp2_with fail
    refine (laws_szPieceS_c _ xs 1048576 _ (HS.out _ (Below.refl w.heap.size w)) HXX.out (by omega) (by omega)).mono ?_
    rw [HLF.out]
    rintro e w1 ⟨rfl, b1⟩
    go_wp2_with fail
    refine (laws_szStringS_c _ ts lf _ (HS''.out _ b1) HTT.out (by omega) (by omega)).mono ?_
    rw [hm1]
    rintro e w2 ⟨rfl, rfl⟩
    go_wp2
    go_ret
    exact ⟨rfl, b1⟩
  have hsum : ts.length + szStrs ts ≤ 1048576 := by unfold szLeftS at hbig; split at hbig <;> omega
  have hlt : ts.length ≤ 1048576 := by omega
  have hnt : ∀ x ∈ ts, x.size ≤ 1048576 := fun x hx' => by have := szStrs_mem hx'; omega
  obtain ⟨lg, hlg⟩ : ∃ lg, szLeftS lf ts = lg := ⟨_, rfl⟩
  have hlg0 : 0 ≤ lg := by omega
  have HLG := hid hlg
  have HNT := hid hnt
  have HLT := hid hlt
  have hl9 : l ≤ 1048576 := by omega
  obtain ⟨R, Z, hR⟩ : ∃ R Z, takeTexts xs ns ts = (R, Z) := ⟨_, _, rfl⟩
  have HR := hid hR
  have HG : Hid (R.length ≤ 40) := by have := takeTexts_len (xs := xs) (ns := ns) (ts := ts); rw [hR] at this; exact this
  obtain ⟨q, hq⟩ : ∃ q, R.length = q := ⟨_, rfl⟩
  have hq0 : q ≤ 1048576 := by have := HG.out; omega
  have HQ := hid hq
  clear hlg hnt hlt hsum hbig hR hq hl
  go_enter Try.func5, Try.ntmps5
  go_wp2_with fail
  refine (laws_szPieceS_c _ xs 1048576 _ (HS.out _ (Below.refl w.heap.size w)) HXX.out (by omega) (by omega)).mono ?_
  rw [HLF.out]
  rintro e w1 ⟨rfl, b1⟩
  have s1 : w.heap.size ≤ w1.heap.size := b1.size
  have d1 : Below w.heap.size w w1 := bl_then (Below.refl w.heap.size w) b1
  go_wp2_with fail
  refine (laws_szStringS_c _ ts lf _ (HS''.out _ d1) HTT.out (by omega) (by omega)).mono ?_
  rw [HLG.out]
  rintro e w' ⟨rfl, rfl⟩
  go_wp2_with fail
  refine (laws_toPieceS_c _ xs _ (HS.out _ d1) HLX.out).mono ?_
  rintro e w2 ⟨p0, rfl, o2, b2⟩
  have s2 : w1.heap.size ≤ w2.heap.size := b2.size
  have d2 : Below w.heap.size w w2 := bl_then d1 b2
  go_wp2_with fail
  refine (laws_toIntS_c _ ns _ (HS'.out _ d2) HLS.out).mono ?_
  rintro e w3 ⟨p1, rfl, o3, b3⟩
  have s3 : w2.heap.size ≤ w3.heap.size := b3.size
  have d3 : Below w.heap.size w w3 := bl_then d2 b3
  have p0_3 := o2.on b3
  go_wp2_with fail
  refine (laws_toStringS_c _ ts _ (HS''.out _ d3) HLT.out).mono ?_
  rintro e w4 ⟨p2, rfl, o4, b4⟩
  have s4 : w3.heap.size ≤ w4.heap.size := b4.size
  have d4 : Below w.heap.size w w4 := bl_then d3 b4
  have p0_4 := p0_3.on b4
  have p1_4 := o3.on b4
  go_wp2_with fail
  refine (spec_TakeTexts_e _ _ _ xs ns ts R Z HR.out _ (Rd.of_own p0_4) (Rd.of_own p1_4) (Rd.of_own o4) HNX.out HLX.out HLT.out HNT.out).mono ?_
  rintro e w5 ⟨r0, rfl, o5, b5⟩
  have s5 : w4.heap.size ≤ w5.heap.size := b5.size
  have d5 : Below w.heap.size w w5 := bl_then d4 b5
  have p0_5 := p0_4.on b5
  have p1_5 := p1_4.on b5
  have p2_5 := o4.on b5
  have r_5 := Rd.of_own o5
  go_wp2_with fail
  refine (laws_toPieceS_c _ xs _ (HS.out _ d5) HLX.out).mono ?_
  rintro e w6 ⟨x0, rfl, o6, b6⟩
  have s6 : w5.heap.size ≤ w6.heap.size := b6.size
  have d6 : Below w.heap.size w w6 := bl_then d5 b6
  have r_6 := Rd.below r_5 b6 (by omega)
  have hxx := o6.lt
  go_wp2_with fail
  refine (laws_toIntS_c _ ns _ (HS'.out _ d6) HLS.out).mono ?_
  rintro e w7 ⟨x1, rfl, o7, b7⟩
  have s7 : w6.heap.size ≤ w7.heap.size := b7.size
  have d7 : Below w.heap.size w w7 := bl_then d6 b7
  have r_7 := Rd.below r_6 b7 (by omega)
  have x0_7 := o6.on b7
  have hxy := o7.lt
  go_wp2_with fail
  refine (laws_toStringS_c _ ts _ (HS''.out _ d7) HLT.out).mono ?_
  rintro e w8 ⟨x2, rfl, o8, b8⟩
  have s8 : w7.heap.size ≤ w8.heap.size := b8.size
  have d8 : Below w.heap.size w w8 := bl_then d7 b8
  have r_8 := Rd.below r_7 b8 (by omega)
  have x0_8 := x0_7.on b8
  have x1_8 := o7.on b8
  have hxz := o8.lt
  go_wp2_with fail
  refine (impl_TakeTexts_e _ _ _ xs ns ts R Z HR.out _ (Rd.of_own x0_8) (Rd.of_own x1_8) (Rd.of_own o8) HLT.out).mono ?_
  rintro e w9 ⟨q0, rfl, o9, b9⟩
  have s9 : w8.heap.size ≤ w9.heap.size := b9.size
  have d9 : Below w.heap.size w w9 := bl_then d8 b9
  have r_9 := Rd.below r_8 b9 (by omega)
  have x0_9 := x0_8.on b9
  have x1_9 := x1_8.on b9
  have x2_9 := o8.on b9
  have hxq := o9.lt
  go_wp2_with fail
  refine (laws_eqPieceS_c _ _ R _ (Rd.of_own o9) (Rd.more r_9 (by omega))).mono ?_
  rintro e w10 ⟨rfl, b10⟩
  have s10 : w9.heap.size ≤ w10.heap.size := b10.size
  have d10 : Below w.heap.size w w10 := bl_then d9 b10
  have r_10 := Rd.below r_9 b10 (by omega)
  have x0_10 := x0_9.on b10
  have x1_10 := x1_9.on b10
  have x2_10 := x2_9.on b10
  have q_10 := o9.on b10
  go_wp2_with fail
  refine (laws_toPieceS_c _ xs _ (HS.out _ d10) HLX.out).mono ?_
  rintro e w11 ⟨y0, rfl, o11, b11⟩
  have s11 : w10.heap.size ≤ w11.heap.size := b11.size
  have d11 : Below w.heap.size w w11 := bl_then d10 b11
  have r_11 := Rd.below r_10 b11 (by omega)
  have x0_11 := x0_10.on b11
  have x1_11 := x1_10.on b11
  have x2_11 := x2_10.on b11
  have q_11 := q_10.on b11
  go_wp2_with fail
  refine (laws_eqPieceS_c _ _ xs _ (Rd.of_own x0_11) (Rd.of_own o11)).mono ?_
  rintro e w12 ⟨rfl, b12⟩
  have s12 : w11.heap.size ≤ w12.heap.size := b12.size
  have d12 : Below w.heap.size w w12 := bl_then d11 b12
  have r_12 := Rd.below r_11 b12 (by omega)
  have x0_12 := x0_11.on b12
  have x1_12 := x1_11.on b12
  have x2_12 := x2_11.on b12
  have q_12 := q_11.on b12
  have y0_12 := o11.on b12
  go_wp2_with fail
  refine (laws_toIntS_c _ ns _ (HS'.out _ d12) HLS.out).mono ?_
  rintro e w13 ⟨y1, rfl, o13, b13⟩
  have s13 : w12.heap.size ≤ w13.heap.size := b13.size
  have d13 : Below w.heap.size w w13 := bl_then d12 b13
  have r_13 := Rd.below r_12 b13 (by omega)
  have x0_13 := x0_12.on b13
  have x1_13 := x1_12.on b13
  have x2_13 := x2_12.on b13
  have q_13 := q_12.on b13
  go_wp2_with fail
  refine (laws_eqIntS_b _ _ ns ns _ _ _ (Rd.of_own x1_13) (Rd.of_own o13)).mono ?_
  rintro e w14 ⟨rfl, b14⟩
  have s14 : w13.heap.size ≤ w14.heap.size := b14.size
  have d14 : Below w.heap.size w w14 := bl_then d13 b14
  have r_14 := Rd.below r_13 b14 (by omega)
  have x0_14 := x0_13.on b14
  have x1_14 := x1_13.on b14
  have x2_14 := x2_13.on b14
  have q_14 := q_13.on b14
  have y1_14 := o13.on b14
  go_wp2_with fail
  refine (laws_toStringS_c _ ts _ (HS''.out _ d14) HLT.out).mono ?_
  rintro e w15 ⟨y2, rfl, o15, b15⟩
  have s15 : w14.heap.size ≤ w15.heap.size := b15.size
  have d15 : Below w.heap.size w w15 := bl_then d14 b15
  have r_15 := Rd.below r_14 b15 (by omega)
  have x0_15 := x0_14.on b15
  have x1_15 := x1_14.on b15
  have x2_15 := x2_14.on b15
  have q_15 := q_14.on b15
  go_wp2_with fail
  refine (laws_eqStringS_c _ _ ts _ _ _ (Rd.of_own x2_15) (Rd.of_own o15)).mono ?_
  rintro e w16 ⟨rfl, b16⟩
  have s16 : w15.heap.size ≤ w16.heap.size := b16.size
  have d16 : Below w.heap.size w w16 := bl_then d15 b16
  have r_16 := Rd.below r_15 b16 (by omega)
  have x0_16 := x0_15.on b16
  have x1_16 := x1_15.on b16
  have x2_16 := x2_15.on b16
  have q_16 := q_15.on b16
  have y2_16 := o15.on b16
  go_wp2_with fail
  refine (laws_markPieceS_c _ _ n xs 1 _ x0_16 HN.out hn9 (by omega) (by omega)).mono ?_
  rintro e w17 ⟨rfl, _, g17⟩
  have s17 : w16.heap.size ≤ w17.heap.size := g17.size
  have z17 := (d16).size
  have d17 : Below w.heap.size w w17 := Below.grown d16 g17 z17 (fun g hg => by have := (hxx g hg).1; omega)
  have r_17 := Rd.far r_16 (by omega) g17 (fun g hg => by have := (hxx g hg).1; omega)
  have x1_17 := Own.far x1_16 g17 (fun g hg => by have := (hxx g hg).2; omega)
  have x2_17 := Own.far x2_16 g17 (fun g hg => by have := (hxx g hg).2; omega)
  have q_17 := Own.far q_16 g17 (fun g hg => by have := (hxx g hg).2; omega)
  go_wp2_with fail
  refine (laws_markIntS_c _ _ m ns (1 + 2 * n) _ x1_17 HM.out hm9 (by omega) (by omega)).mono ?_
  rintro e w18 ⟨rfl, _, g18⟩
  have s18 : w17.heap.size ≤ w18.heap.size := g18.size
  have z18 := (d17).size
  have d18 : Below w.heap.size w w18 := Below.grown d17 g18 z18 (fun g hg => by have := (hxy g hg).1; omega)
  have r_18 := Rd.far r_17 (by omega) g18 (fun g hg => by have := (hxy g hg).1; omega)
  have x2_18 := Own.far x2_17 g18 (fun g hg => by have := (hxy g hg).2; omega)
  have q_18 := Own.far q_17 g18 (fun g hg => by have := (hxy g hg).2; omega)
  go_wp2_with fail
  refine (laws_markStringS_c _ _ l ts (1 + 2 * n + m) _ x2_18 HL.out hl9 (by omega) (by omega)).mono ?_
  rintro e w19 ⟨rfl, _, g19⟩
  have s19 : w18.heap.size ≤ w19.heap.size := g19.size
  have z19 := (d18).size
  have d19 : Below w.heap.size w w19 := Below.grown d18 g19 z19 (fun g hg => by have := (hxz g hg).1; omega)
  have r_19 := Rd.far r_18 (by omega) g19 (fun g hg => by have := (hxz g hg).1; omega)
  have q_19 := Own.far q_18 g19 (fun g hg => by have := (hxz g hg).2; omega)
  go_wp2_with fail
  refine (laws_eqPieceS_c _ _ R _ (Rd.of_own q_19) (Rd.more r_19 (by omega))).mono ?_
  rintro e w20 ⟨rfl, b20⟩
  have s20 : w19.heap.size ≤ w20.heap.size := b20.size
  have d20 : Below w.heap.size w w20 := bl_then d19 b20
  have r_20 := Rd.below r_19 b20 (by omega)
  have q_20 := q_19.on b20
  go_wp2_with fail
  refine (laws_markPieceS_c _ _ q R 1 _ q_20 HQ.out hq0 (by omega) (by omega)).mono ?_
  rintro e w21 ⟨rfl, o21, g21⟩
  have s21 : w20.heap.size ≤ w21.heap.size := g21.size
  have z21 := (d20).size
  have d21 : Below w.heap.size w w21 := Below.grown d20 g21 z21 (fun g hg => by have := (hxq g hg).1; omega)
  have r_21 := Rd.far r_20 (by omega) g21 (fun g hg => by have := (hxq g hg).1; omega)
  go_wp2_with fail
  refine (laws_heldPieceS_c _ _ q 1 _ o21 hq0 (by omega) (by omega)).mono ?_
  rintro e w22 ⟨rfl, b22⟩
  have s22 : w21.heap.size ≤ w22.heap.size := b22.size
  have d22 : Below w.heap.size w w22 := bl_then d21 b22
  have r_22 := Rd.below r_21 b22 (by omega)
  have q_22 := o21.on b22
  go_wp2_with fail
  refine (laws_toPieceS_c _ xs _ (HS.out _ d22) HLX.out).mono ?_
  rintro e w23 ⟨u0, rfl, o23, b23⟩
  have s23 : w22.heap.size ≤ w23.heap.size := b23.size
  have d23 : Below w.heap.size w w23 := bl_then d22 b23
  have r_23 := Rd.below r_22 b23 (by omega)
  have q_23 := q_22.on b23
  go_wp2_with fail
  refine (laws_toIntS_c _ ns _ (HS'.out _ d23) HLS.out).mono ?_
  rintro e w24 ⟨u1, rfl, o24, b24⟩
  have s24 : w23.heap.size ≤ w24.heap.size := b24.size
  have d24 : Below w.heap.size w w24 := bl_then d23 b24
  have r_24 := Rd.below r_23 b24 (by omega)
  have q_24 := q_23.on b24
  have u0_24 := o23.on b24
  go_wp2_with fail
  refine (laws_toStringS_c _ ts _ (HS''.out _ d24) HLT.out).mono ?_
  rintro e w25 ⟨u2, rfl, o25, b25⟩
  have s25 : w24.heap.size ≤ w25.heap.size := b25.size
  have d25 : Below w.heap.size w w25 := bl_then d24 b25
  have r_25 := Rd.below r_24 b25 (by omega)
  have q_25 := q_24.on b25
  have u0_25 := u0_24.on b25
  have u1_25 := o24.on b25
  go_wp2_with fail
  refine (impl_TakeTexts_e _ _ _ xs ns ts R Z HR.out _ (Rd.of_own u0_25) (Rd.of_own u1_25) (Rd.of_own o25) HLT.out).mono ?_
  rintro e w26 ⟨h0, rfl, o26, b26⟩
  have s26 : w25.heap.size ≤ w26.heap.size := b26.size
  have d26 : Below w.heap.size w w26 := bl_then d25 b26
  have r_26 := Rd.below r_25 b26 (by omega)
  have q_26 := q_25.on b26
  have u0_26 := u0_25.on b26
  have u1_26 := u1_25.on b26
  have u2_26 := o25.on b26
  go_wp2_with fail
  refine (laws_eqPieceS_c _ _ R _ (Rd.of_own o26) (Rd.more r_26 (by omega))).mono ?_
  rintro e w27 ⟨rfl, b27⟩
  have s27 : w26.heap.size ≤ w27.heap.size := b27.size
  have d27 : Below w.heap.size w w27 := bl_then d26 b27
  have r_27 := Rd.below r_26 b27 (by omega)
  have q_27 := q_26.on b27
  have hh_27 := o26.on b27
  go_wp2_with fail
  refine (laws_heldPieceS_c _ _ q 1 _ q_27 hq0 (by omega) (by omega)).mono ?_
  rintro e w28 ⟨rfl, b28⟩
  have s28 : w27.heap.size ≤ w28.heap.size := b28.size
  have d28 : Below w.heap.size w w28 := bl_then d27 b28
  have q_28 := q_27.on b28
  go_wp2
  go_ret
  exact ⟨rfl, d28⟩

end Go.Proofs.Ytkfkcbceoekgjaa
