/- The exact law of used caches. -/
import Derived.Test.YtnedkfmbeeodfaaExCL
namespace Go.Proofs.Ytnedkfmbeeodfaa
open Go.RowKit

/-- A struct's cells stand while a row of numbers is written. -/
theorem blk_far {w w' : World} {B b n c : Nat} {a : Option Addr} {xs : List Int} {cs : Array Value} {t : TypeId} (h : OwnI w B (.slice a n c) xs) (hb : w.heap[b]? = some (.cells cs t (0, 0))) (hg : w.grownBy w' (Value.slice a n c).ownBlock) (ht : t ≠ 3) : w'.heap[b]? = some (.cells cs t (0, 0)) := by
  refine (hg.block b (Array.getElem?_eq_some_iff.1 hb).1 ?_).trans hb
  rcases h.2 with ⟨hv, _⟩ | ⟨g, cap, cur, hv, _, hh, _⟩
  · rw [hv]; simp [Value.ownBlock]
  · rw [hv]
    intro he
    obtain rfl : b = g := by simpa [Value.ownBlock] using he
    rw [hb] at hh
    simp at hh
    exact ht hh.2

set_option maxHeartbeats 2000000 in
theorem laws_FnExactUseCache_c (m : Int) (v : Value) (xs : List Int) (p : Int) (w : World) (h : Ints w w.heap.size v xs) :
    Calls Try.prog 6 #[cv m v, .int .i64 p] w fun e w' => e = .returned (.bool true) ∧ Below w.heap.size w w' := by
  obtain ⟨n, hn⟩ : ∃ n, xs.length = n := ⟨_, rfl⟩
  obtain ⟨a, c, rfl, _, _, _⟩ := h.ints hn
  obtain ⟨W0, hW0⟩ : ∃ W0, W0 = w.alloc (.cells #[.int .i64 m, .slice a n c] 24) := ⟨_, rfl⟩
  have b0 : Below w.heap.size w W0 := by rw [hW0]; exact (Below.refl _ _).alloc (Nat.le_refl _) _
  have c0 : W0.heap[w.heap.size]? = some (.cells #[.int .i64 m, .slice a n c] 24 (0, 0)) := by rw [hW0]; exact heap_alloc_new _ _
  have hsz0 : W0.heap.size = w.heap.size + 1 := by rw [hW0]; simp
  by_cases hbig : 1048576 < n
  · have HI := hid (show (if (1048576 : Int) < xs.length then -1 else 1048576 - (xs.length : Int)) = -1 by rw [if_pos (by omega)])
    clear hn
    go_enter Try.func6, Try.ntmps6
    go_wp2_with fail
    rw [← hW0]
    refine (laws_szCache_c m _ xs 1048576 W0 (h.on b0) (by omega) (by omega)).mono ?_
    rw [HI.out]
    rintro e w1 ⟨rfl, b1⟩
    go_wp2
    go_ret
    exact ⟨rfl, bl_then b0 (b1.mono (by omega))⟩
  have hlx : xs.length ≤ 1048576 := by omega
  have hn9 : n ≤ 1048576 := by omega
  have HI := hid (show (if (1048576 : Int) < xs.length then -1 else 1048576 - (xs.length : Int)) = 1048576 - n by rw [if_neg (by omega), hn])
  have hl' : 0 ≤ 1048576 - (n : Int) := by omega
  have HN := hid hn
  have HK : Hid ((useKeep m xs p).length ≤ 1048576) := by
    unfold Hid useKeep
    split
    · exact Nat.le_trans used_len (by rename_i hu; have := cacheOk_in (use_on_in hu).1; omega)
    · simp
  have HS : Hid (∀ wx, Below w.heap.size w wx → Ints wx wx.heap.size (.slice a n c) xs) := fun wx hx => h.on hx
  obtain ⟨M, hM⟩ : ∃ M, useMost m xs p = M := ⟨_, rfl⟩
  obtain ⟨K, hK⟩ : ∃ K, useKeep m xs p = K := ⟨_, rfl⟩
  obtain ⟨hit, hhit⟩ : ∃ hit, useHit m xs p = hit := ⟨_, rfl⟩
  rw [hK] at HK
  obtain ⟨kn, hkn⟩ : ∃ kn, K.length = kn := ⟨_, rfl⟩
  have hkn9 : kn ≤ 1048576 := by rw [← hkn]; exact HK.out
  have HKN := hid hkn
  have hpost : ∀ w1, UsePost m xs p w1 = fun e w' => ∃ v', e = .returned (.tuple #[cv M v', .bool hit]) ∧ OwnI w' w1.heap.size v' K ∧ Below w1.heap.size w1 w' := by intro w1; unfold UsePost; rw [hM, hK, hhit]
  have hpostR : ∀ w1, UsePostR m xs p w1 = fun e w' => ∃ v', e = .returned (.tuple #[cv M v', .bool hit]) ∧ OwnCut w' w1.heap.size v' K ∧ Below w1.heap.size w1 w' := by intro w1; unfold UsePostR; rw [hM, hK, hhit]
  have HP := hid hpost
  have HPR := hid hpostR
  clear hn hbig h hM hK hhit hkn hpost hpostR
  cases hit
  all_goals
    go_enter Try.func6, Try.ntmps6
    go_wp2_with fail
    rw [← hW0]
    refine (laws_szCache_c m _ xs 1048576 W0 (HS.out _ b0) (by omega) (by omega)).mono ?_
    rw [HI.out]
    rintro e w1 ⟨rfl, b1⟩
    have s1 : W0.heap.size ≤ w1.heap.size := b1.size
    have d1 : Below w.heap.size w w1 := bl_then b0 b1
    have c_1 := (b1.block _ (Array.getElem?_eq_some_iff.1 c0).1).trans c0
    clear hW0
    obtain ⟨_, _, _, _⟩ := two_cells c_1
    have := (Array.getElem?_eq_some_iff.1 c_1).1
    go_wp2_with fail
    refine (laws_toCache_c m _ xs _ (HS.out _ d1) hlx).mono ?_
    rintro e w2 ⟨p0, rfl, o2, b2⟩
    have s2 : w1.heap.size ≤ w2.heap.size := b2.size
    have d2 : Below w.heap.size w w2 := bl_then d1 b2
    have c_2 := (b2.block _ (Array.getElem?_eq_some_iff.1 c_1).1).trans c_1
    go_wp2_with fail
    refine (spec_UseCache_c m _ xs p _ (Rd.of_own o2)).mono ?_
    rw [HPR.out]
    rintro e w3 ⟨r0, rfl, o3, b3⟩
    have s3 : w2.heap.size ≤ w3.heap.size := b3.size
    have d3 : Below w.heap.size w w3 := bl_then d2 b3
    have c_3 := (b3.block _ (Array.getElem?_eq_some_iff.1 c_2).1).trans c_2
    have p0_3 := o2.on b3
    obtain ⟨ra, rc, rfl, _, _, _⟩ := (OwnCut.rd o3).ints HKN.out
    have r_3 := OwnCut.rd o3
    obtain ⟨_, _, _, _⟩ := two_cells c_3
    have := (Array.getElem?_eq_some_iff.1 c_3).1
    obtain ⟨w4, hW4⟩ : ∃ W, W = w3.alloc (.cells #[.int .i64 M, .slice ra kn rc] 27) := ⟨_, rfl⟩
    have b4 : Below w3.heap.size w3 w4 := by rw [hW4]; exact (Below.refl _ _).alloc (Nat.le_refl _) _
    have Y_4 : w4.heap[w3.heap.size]? = some (.cells #[.int .i64 M, .slice ra kn rc] 27 (0, 0)) := by rw [hW4]; exact heap_alloc_new _ _
    have e4 : w4.heap.size = w3.heap.size + 1 := by rw [hW4]; simp
    have s4 : w3.heap.size ≤ w4.heap.size := b4.size
    have d4 : Below w.heap.size w w4 := bl_then d3 b4
    have c_4 := (b4.block _ (Array.getElem?_eq_some_iff.1 c_3).1).trans c_3
    have r_4 := Rd.below r_3 b4 (by omega)
    go_wp2_with fail
    rw [← hW4]
    refine (laws_toCache_c m _ xs _ (HS.out _ d4) hlx).mono ?_
    rintro e w5 ⟨x0, rfl, o5, b5⟩
    have s5 : w4.heap.size ≤ w5.heap.size := b5.size
    have d5 : Below w.heap.size w w5 := bl_then d4 b5
    have c_5 := (b5.block _ (Array.getElem?_eq_some_iff.1 c_4).1).trans c_4
    have r_5 := Rd.below r_4 b5 (by omega)
    have Y_5 := (b5.block _ (Array.getElem?_eq_some_iff.1 Y_4).1).trans Y_4
    obtain ⟨xa, xc, rfl, _, _, _⟩ := (Rd.of_own o5).ints HN.out
    have hxx := o5.lt
    obtain ⟨w6, hW6⟩ : ∃ W, W = w5.alloc (.cells #[.int .i64 m, .slice xa n xc] 27) := ⟨_, rfl⟩
    have b6 : Below w5.heap.size w5 w6 := by rw [hW6]; exact (Below.refl _ _).alloc (Nat.le_refl _) _
    have X_6 : w6.heap[w5.heap.size]? = some (.cells #[.int .i64 m, .slice xa n xc] 27 (0, 0)) := by rw [hW6]; exact heap_alloc_new _ _
    have e6 : w6.heap.size = w5.heap.size + 1 := by rw [hW6]; simp
    have s6 : w5.heap.size ≤ w6.heap.size := b6.size
    have d6 : Below w.heap.size w w6 := bl_then d5 b6
    have c_6 := (b6.block _ (Array.getElem?_eq_some_iff.1 c_5).1).trans c_5
    have r_6 := Rd.below r_5 b6 (by omega)
    have Y_6 := (b6.block _ (Array.getElem?_eq_some_iff.1 Y_5).1).trans Y_5
    have x_6 := o5.on b6
    go_wp2_with fail
    rw [← hW6]
    refine (impl_UseCache_c m _ xs p _ (Rd.of_own x_6)).mono ?_
    rw [HP.out]
    rintro e w7 ⟨q0, rfl, o7, b7⟩
    have s7 : w6.heap.size ≤ w7.heap.size := b7.size
    have d7 : Below w.heap.size w w7 := bl_then d6 b7
    have c_7 := (b7.block _ (Array.getElem?_eq_some_iff.1 c_6).1).trans c_6
    have r_7 := Rd.below r_6 b7 (by omega)
    have Y_7 := (b7.block _ (Array.getElem?_eq_some_iff.1 Y_6).1).trans Y_6
    have x_7 := x_6.on b7
    have X_7 := (b7.block _ (Array.getElem?_eq_some_iff.1 X_6).1).trans X_6
    obtain ⟨qa, qc, rfl, _, _, _⟩ := (Rd.of_own o7).ints HKN.out
    have hxq := o7.lt
    obtain ⟨_, _, _, _⟩ := two_cells Y_7
    have := (Array.getElem?_eq_some_iff.1 Y_7).1
    obtain ⟨w8, hW8⟩ : ∃ W, W = w7.alloc (.cells #[.int .i64 M, .slice qa kn qc] 27) := ⟨_, rfl⟩
    have b8 : Below w7.heap.size w7 w8 := by rw [hW8]; exact (Below.refl _ _).alloc (Nat.le_refl _) _
    have Q_8 : w8.heap[w7.heap.size]? = some (.cells #[.int .i64 M, .slice qa kn qc] 27 (0, 0)) := by rw [hW8]; exact heap_alloc_new _ _
    have e8 : w8.heap.size = w7.heap.size + 1 := by rw [hW8]; simp
    have s8 : w7.heap.size ≤ w8.heap.size := b8.size
    have d8 : Below w.heap.size w w8 := bl_then d7 b8
    have c_8 := (b8.block _ (Array.getElem?_eq_some_iff.1 c_7).1).trans c_7
    have r_8 := Rd.below r_7 b8 (by omega)
    have Y_8 := (b8.block _ (Array.getElem?_eq_some_iff.1 Y_7).1).trans Y_7
    have x_8 := x_7.on b8
    have X_8 := (b8.block _ (Array.getElem?_eq_some_iff.1 X_7).1).trans X_7
    have q_8 := o7.on b8
    go_wp2_with fail
    rw [← hW8]
    refine (laws_eqCache_c M _ _ K _ (Rd.more (Rd.of_own q_8) (by omega)) (Rd.more r_8 (by omega))).mono ?_
    rintro e w9 ⟨rfl, b9⟩
    have s9 : w8.heap.size ≤ w9.heap.size := b9.size
    have d9 : Below w.heap.size w w9 := bl_then d8 b9
    have c_9 := (b9.block _ (Array.getElem?_eq_some_iff.1 c_8).1).trans c_8
    have r_9 := Rd.below r_8 b9 (by omega)
    have Y_9 := (b9.block _ (Array.getElem?_eq_some_iff.1 Y_8).1).trans Y_8
    have x_9 := x_8.on b9
    have X_9 := (b9.block _ (Array.getElem?_eq_some_iff.1 X_8).1).trans X_8
    have q_9 := q_8.on b9
    have Q_9 := (b9.block _ (Array.getElem?_eq_some_iff.1 Q_8).1).trans Q_8
    go_wp2
    refine wp_region_inv3 rfl (by kernel_rfl) (by kernel_rfl) (by kernel_rfl) (by simp) (fun _ w' => Below w9.heap.size w9 w') (fun w' w'' => ∀ i v, fact [isV (cv m (.slice xa n xc)), isV (cv m (.slice a n c)), isNew w9.heap.size m xs, isV (.bool true), isV (.bool false)] i v w' → fact [isV (cv m (.slice xa n xc)), isV (cv m (.slice a n c)), isNew w9.heap.size m xs, isV (.bool true), isV (.bool false)] i v w'') (fact [isV (cv m (.slice xa n xc)), isV (cv m (.slice a n c)), isNew w9.heap.size m xs, isV (.bool true), isV (.bool false)]) (Below.refl _ _).drew (fun i v w' w'' hS hf => hS i v hf) ?_ ?_
    · intro i oo hi nn a' wk hnn hj hb' hd
      obtain ⟨hlt1, rfl⟩ := Array.getElem?_eq_some_iff.1 hi
      have hlt' : i < 5 := hlt1
      clear hi
      obtain rfl | rfl | rfl | rfl | rfl : i = 0 ∨ i = 1 ∨ i = 2 ∨ i = 3 ∨ i = 4 := by omega
      · have b8 : a'.eval (.tmp 8) = .pointer (some ⟨w5.heap.size, 0, none⟩) := hb' 8 (by rfl); have c8 := ev_get b8
        obtain ⟨x0, x1, _, _⟩ := two_cells ((hj.block _ (Array.getElem?_eq_some_iff.1 X_9).1).trans X_9)
        exact iv_val (v := cv m (.slice xa n xc)) (by simp [execOp, c8, x0, x1, go_sem, Result.andThen]) ⟨_, rfl, hj, fun _ _ h => h, rfl⟩
      · have b2 : a'.eval (.tmp 2) = .pointer (some ⟨w.heap.size, 0, none⟩) := hb' 2 (by rfl); have c2 := ev_get b2
        obtain ⟨x0, x1, _, _⟩ := two_cells ((hj.block _ (Array.getElem?_eq_some_iff.1 c_9).1).trans c_9)
        exact iv_val (v := cv m (.slice a n c)) (by simp [execOp, c2, x0, x1, go_sem, Result.andThen]) ⟨_, rfl, hj, fun _ _ h => h, rfl⟩
      · have v1 : a'.eval (.tmp 46) = cv m (.slice a n c) := hd ⟨1, .data⟩ (by simp) rfl; have u1 := ev_get v1
        refine iv_enter (f := 17) (args := #[cv m (.slice a n c)]) (by simp [execOp, u1, go_sem]) ?_
        refine (laws_toCache_c m _ xs _ (Rd.on (HS.out _ d9) hj) hlx).mono ?_
        rintro e w5 ⟨v', rfl, o5, b5⟩
        obtain ⟨ka, kc, rfl, _, _, _⟩ := (Rd.of_own o5).ints rfl
        exact ⟨_, rfl, _, rfl, hj.trans (b5.mono hj.size), fun i v h => fact_gr (newF_gr _ _ _ _ _) i v _ _ b5 h, (show isNew _ _ _ _ _ from ⟨_, _, _, rfl, o5.less hj.size⟩)⟩
      · have v0 : a'.eval (.tmp 45) = cv m (.slice xa n xc) := hd ⟨0, .data⟩ (by simp) rfl; have u0 := ev_get v0
        have e2 : isNew w9.heap.size m xs (a'.eval (.tmp 47)) wk := hd ⟨2, .data⟩ (by simp) rfl
        obtain ⟨ka, kn, kc, v2, o2⟩ := e2
        have u2 := ev_get v2
        refine iv_enter (f := 19) (args := #[cv m (.slice xa n xc), cv m (.slice ka kn kc)]) (by simp [execOp, u0, u2, go_sem]) ?_
        refine (laws_eqCache_c m _ _ xs _ (Rd.on (Rd.of_own x_9) hj) (Rd.of_own o2)).mono ?_
        rintro e w5 ⟨rfl, b5⟩
        exact ⟨_, rfl, _, rfl, hj.trans (b5.mono hj.size), fun i v h => fact_gr (newF_gr _ _ _ _ _) i v _ _ b5 h, rfl⟩
      · have v3 : a'.eval (.tmp 48) = .bool true := hd ⟨3, .data⟩ (by simp) rfl; have u3 := ev_get v3
        exact iv_val (v := .bool false) (by simp [execOp, u3, go_sem]) ⟨_, rfl, hj, fun _ _ h => h, rfl⟩
    intro tm w10 b10 hF
    have q4 : tm.getD 49 undef = .bool false := hF 4 _ rfl
    clear hF
    simp only [refillL, List.setIfInBounds_toArray, List.set_cons_succ, List.set_cons_zero]
    rw [q4]
    have s10 : w9.heap.size ≤ w10.heap.size := b10.size
    have d10 : Below w.heap.size w w10 := bl_then d9 b10
    have c_10 := (b10.block _ (Array.getElem?_eq_some_iff.1 c_9).1).trans c_9
    have r_10 := Rd.below r_9 b10 (by omega)
    have Y_10 := (b10.block _ (Array.getElem?_eq_some_iff.1 Y_9).1).trans Y_9
    have x_10 := x_9.on b10
    have X_10 := (b10.block _ (Array.getElem?_eq_some_iff.1 X_9).1).trans X_9
    have q_10 := q_9.on b10
    have Q_10 := (b10.block _ (Array.getElem?_eq_some_iff.1 Q_9).1).trans Q_9
    obtain ⟨_, _, _, _⟩ := two_cells X_10
    have := (Array.getElem?_eq_some_iff.1 X_10).1
    go_wp2_with fail
    refine (laws_markCache_c m _ _ n xs 1 _ x_10 HN.out hn9 (by omega) (by omega)).mono ?_
    rintro e w11 ⟨rfl, _, g11⟩
    have s11 : w10.heap.size ≤ w11.heap.size := g11.size
    have z11 := (d10).size
    have d11 : Below w.heap.size w w11 := Below.grown d10 g11 z11 (fun g hg => by have := (hxx g hg).1; omega)
    have c_11 := blk_far x_10 c_10 g11 (by decide)
    have r_11 := Rd.far r_10 (by omega) g11 (fun g hg => by have := (hxx g hg).1; omega)
    have Y_11 := blk_far x_10 Y_10 g11 (by decide)
    have X_11 := blk_far x_10 X_10 g11 (by decide)
    have q_11 := Own.far q_10 g11 (fun g hg => by have := (hxx g hg).2; omega)
    have Q_11 := blk_far x_10 Q_10 g11 (by decide)
    obtain ⟨_, _, _, _⟩ := two_cells Q_11
    have := (Array.getElem?_eq_some_iff.1 Q_11).1
    obtain ⟨_, _, _, _⟩ := two_cells Y_11
    have := (Array.getElem?_eq_some_iff.1 Y_11).1
    go_wp2_with fail
    refine (laws_eqCache_c M _ _ K _ (Rd.more (Rd.of_own q_11) (by omega)) (Rd.more r_11 (by omega))).mono ?_
    rintro e w12 ⟨rfl, b12⟩
    have s12 : w11.heap.size ≤ w12.heap.size := b12.size
    have d12 : Below w.heap.size w w12 := bl_then d11 b12
    have c_12 := (b12.block _ (Array.getElem?_eq_some_iff.1 c_11).1).trans c_11
    have r_12 := Rd.below r_11 b12 (by omega)
    have Y_12 := (b12.block _ (Array.getElem?_eq_some_iff.1 Y_11).1).trans Y_11
    have q_12 := q_11.on b12
    have Q_12 := (b12.block _ (Array.getElem?_eq_some_iff.1 Q_11).1).trans Q_11
    obtain ⟨_, _, _, _⟩ := two_cells Q_12
    have := (Array.getElem?_eq_some_iff.1 Q_12).1
    go_wp2_with fail
    refine (laws_markCache_c M _ _ kn K 1 _ q_12 HKN.out hkn9 (by omega) (by omega)).mono ?_
    rintro e w13 ⟨rfl, o13, g13⟩
    have s13 : w12.heap.size ≤ w13.heap.size := g13.size
    have z13 := (d12).size
    have d13 : Below w.heap.size w w13 := Below.grown d12 g13 z13 (fun g hg => by have := (hxq g hg).1; omega)
    have c_13 := blk_far q_12 c_12 g13 (by decide)
    have r_13 := Rd.far r_12 (by omega) g13 (fun g hg => by have := (hxq g hg).1; omega)
    have Y_13 := blk_far q_12 Y_12 g13 (by decide)
    have Q_13 := blk_far q_12 Q_12 g13 (by decide)
    obtain ⟨_, _, _, _⟩ := two_cells Q_13
    have := (Array.getElem?_eq_some_iff.1 Q_13).1
    go_wp2_with fail
    refine (laws_heldCache_c M _ _ kn 1 _ o13 hkn9 (by omega) (by omega)).mono ?_
    rintro e w14 ⟨rfl, b14⟩
    have s14 : w13.heap.size ≤ w14.heap.size := b14.size
    have d14 : Below w.heap.size w w14 := bl_then d13 b14
    have c_14 := (b14.block _ (Array.getElem?_eq_some_iff.1 c_13).1).trans c_13
    have r_14 := Rd.below r_13 b14 (by omega)
    have Y_14 := (b14.block _ (Array.getElem?_eq_some_iff.1 Y_13).1).trans Y_13
    have q_14 := o13.on b14
    have Q_14 := (b14.block _ (Array.getElem?_eq_some_iff.1 Q_13).1).trans Q_13
    obtain ⟨_, _, _, _⟩ := two_cells c_14
    have := (Array.getElem?_eq_some_iff.1 c_14).1
    go_wp2_with fail
    refine (laws_toCache_c m _ xs _ (HS.out _ d14) hlx).mono ?_
    rintro e w15 ⟨u0, rfl, o15, b15⟩
    have s15 : w14.heap.size ≤ w15.heap.size := b15.size
    have d15 : Below w.heap.size w w15 := bl_then d14 b15
    have c_15 := (b15.block _ (Array.getElem?_eq_some_iff.1 c_14).1).trans c_14
    have r_15 := Rd.below r_14 b15 (by omega)
    have Y_15 := (b15.block _ (Array.getElem?_eq_some_iff.1 Y_14).1).trans Y_14
    have q_15 := q_14.on b15
    have Q_15 := (b15.block _ (Array.getElem?_eq_some_iff.1 Q_14).1).trans Q_14
    go_wp2_with fail
    refine (impl_UseCache_c m _ xs p _ (Rd.of_own o15)).mono ?_
    rw [HP.out]
    rintro e w16 ⟨h0, rfl, o16, b16⟩
    have s16 : w15.heap.size ≤ w16.heap.size := b16.size
    have d16 : Below w.heap.size w w16 := bl_then d15 b16
    have c_16 := (b16.block _ (Array.getElem?_eq_some_iff.1 c_15).1).trans c_15
    have r_16 := Rd.below r_15 b16 (by omega)
    have Y_16 := (b16.block _ (Array.getElem?_eq_some_iff.1 Y_15).1).trans Y_15
    have q_16 := q_15.on b16
    have Q_16 := (b16.block _ (Array.getElem?_eq_some_iff.1 Q_15).1).trans Q_15
    have u_16 := o15.on b16
    obtain ⟨ha, hc, rfl, _, _, _⟩ := (Rd.of_own o16).ints HKN.out
    obtain ⟨_, _, _, _⟩ := two_cells Y_16
    have := (Array.getElem?_eq_some_iff.1 Y_16).1
    obtain ⟨w17, hW17⟩ : ∃ W, W = w16.alloc (.cells #[.int .i64 M, .slice ha kn hc] 27) := ⟨_, rfl⟩
    have b17 : Below w16.heap.size w16 w17 := by rw [hW17]; exact (Below.refl _ _).alloc (Nat.le_refl _) _
    have Hb_17 : w17.heap[w16.heap.size]? = some (.cells #[.int .i64 M, .slice ha kn hc] 27 (0, 0)) := by rw [hW17]; exact heap_alloc_new _ _
    have e17 : w17.heap.size = w16.heap.size + 1 := by rw [hW17]; simp
    have s17 : w16.heap.size ≤ w17.heap.size := b17.size
    have d17 : Below w.heap.size w w17 := bl_then d16 b17
    have c_17 := (b17.block _ (Array.getElem?_eq_some_iff.1 c_16).1).trans c_16
    have r_17 := Rd.below r_16 b17 (by omega)
    have Y_17 := (b17.block _ (Array.getElem?_eq_some_iff.1 Y_16).1).trans Y_16
    have q_17 := q_16.on b17
    have Q_17 := (b17.block _ (Array.getElem?_eq_some_iff.1 Q_16).1).trans Q_16
    have h_17 := o16.on b17
    go_wp2_with fail
    rw [← hW17]
    refine (laws_eqCache_c M _ _ K _ (Rd.more (Rd.of_own h_17) (by omega)) (Rd.more r_17 (by omega))).mono ?_
    rintro e w18 ⟨rfl, b18⟩
    have s18 : w17.heap.size ≤ w18.heap.size := b18.size
    have d18 : Below w.heap.size w w18 := bl_then d17 b18
    have c_18 := (b18.block _ (Array.getElem?_eq_some_iff.1 c_17).1).trans c_17
    have r_18 := Rd.below r_17 b18 (by omega)
    have Y_18 := (b18.block _ (Array.getElem?_eq_some_iff.1 Y_17).1).trans Y_17
    have q_18 := q_17.on b18
    have Q_18 := (b18.block _ (Array.getElem?_eq_some_iff.1 Q_17).1).trans Q_17
    have h_18 := h_17.on b18
    have Hb_18 := (b18.block _ (Array.getElem?_eq_some_iff.1 Hb_17).1).trans Hb_17
    obtain ⟨_, _, _, _⟩ := two_cells Q_18
    have := (Array.getElem?_eq_some_iff.1 Q_18).1
    go_wp2_with fail
    refine (laws_heldCache_c M _ _ kn 1 _ q_18 hkn9 (by omega) (by omega)).mono ?_
    rintro e w19 ⟨rfl, b19⟩
    have s19 : w18.heap.size ≤ w19.heap.size := b19.size
    have d19 : Below w.heap.size w w19 := bl_then d18 b19
    have c_19 := (b19.block _ (Array.getElem?_eq_some_iff.1 c_18).1).trans c_18
    have r_19 := Rd.below r_18 b19 (by omega)
    have Y_19 := (b19.block _ (Array.getElem?_eq_some_iff.1 Y_18).1).trans Y_18
    have q_19 := q_18.on b19
    have Q_19 := (b19.block _ (Array.getElem?_eq_some_iff.1 Q_18).1).trans Q_18
    have h_19 := h_18.on b19
    have Hb_19 := (b19.block _ (Array.getElem?_eq_some_iff.1 Hb_18).1).trans Hb_18
    go_wp2
    go_ret
    exact ⟨rfl, d19⟩

end Go.Proofs.Ytnedkfmbeeodfaa
