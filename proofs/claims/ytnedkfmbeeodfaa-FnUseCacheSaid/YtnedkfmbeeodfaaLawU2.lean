/- Walks: the law on used caches, whole. -/
import Derived.Test.YtnedkfmbeeodfaaLawU
namespace Go.Proofs.Ytnedkfmbeeodfaa
open Go.RowKit

theorem pv_in {p : Int} (h : pv p = true) : 0 ≤ p ∧ p ≤ 16777212 := inB_yes h

set_option maxHeartbeats 2000000 in
theorem laws_FnUseCache_c (v : Value) (l : List Int) (w : World) (h : Rd encU 1 w w.heap.size v l) (hl : ∀ x ∈ l, 0 ≤ x ∧ x ≤ 255) :
    Calls Try.prog 7 #[v] w fun e w' => e = .returned (.bool true) ∧ Below w.heap.size w w' := by
  obtain ⟨n, hn⟩ : ∃ n, l.length = n := ⟨_, rfl⟩
  obtain ⟨a, c, rfl, _, _, _⟩ := Rd.openN h (fun _ => rfl) hn
  by_cases hbig : 1048576 < n
  · go_enter Try.func7, Try.ntmps7
    go_wp2
    go_ret
    exact ⟨rfl, Below.refl _ _⟩
  · go_enter Try.func7, Try.ntmps7
    go_wp2_with fail
    refine (spec_DrawUseCache_c _ l w h hl).mono ?_
    rintro e w1 ⟨m, kv, keep, p, rfl, o1, hk, b1⟩
    have s1 : w.heap.size ≤ w1.heap.size := b1.size
    have d1 : Below w.heap.size w w1 := bl_then (Below.refl w.heap.size w) b1
    clear h hl hn
    obtain ⟨kn, hkn⟩ : ∃ kn, keep.length = kn := ⟨_, rfl⟩
    have k_1 := o1.rd
    obtain ⟨ka, kc, rfl, _, _, _⟩ := k_1.ints hkn
    obtain ⟨M, hM⟩ : ∃ M, useMost m keep p = M := ⟨_, rfl⟩
    obtain ⟨xk, hxk⟩ : ∃ xk, useKeep m keep p = xk := ⟨_, rfl⟩
    obtain ⟨hit, hhit⟩ : ∃ hit, useHit m keep p = hit := ⟨_, rfl⟩
    obtain ⟨xn, hxn⟩ : ∃ xn, xk.length = xn := ⟨_, rfl⟩
    have hpost : ∀ w1, UsePost m keep p w1 = fun e w' => ∃ v', e = .returned (.tuple #[cv M v', .bool hit]) ∧ OwnI w' w1.heap.size v' xk ∧ Below w1.heap.size w1 w' := by intro w1; unfold UsePost; rw [hM, hxk, hhit]
    have hpostR : ∀ w1, UsePostR m keep p w1 = fun e w' => ∃ v', e = .returned (.tuple #[cv M v', .bool hit]) ∧ OwnCut w' w1.heap.size v' xk ∧ Below w1.heap.size w1 w' := by intro w1; unfold UsePostR; rw [hM, hxk, hhit]
    have HP := hid hpost
    have HPR := hid hpostR
    have HM := hid hM
    have HXK := hid hxk
    have HHIT := hid hhit
    have HXN := hid hxn
    clear hpost hpostR hM hxk hhit hxn
    obtain ⟨w2, hW2⟩ : ∃ W, W = w1.alloc (.cells #[.int .i64 m, .slice ka kn kc] 27) := ⟨_, rfl⟩
    have b2 : Below w1.heap.size w1 w2 := by rw [hW2]; exact (Below.refl _ _).alloc (Nat.le_refl _) _
    have X_2 : w2.heap[w1.heap.size]? = some (.cells #[.int .i64 m, .slice ka kn kc] 27 (0, 0)) := by rw [hW2]; exact heap_alloc_new _ _
    have e2 : w2.heap.size = w1.heap.size + 1 := by rw [hW2]; simp
    have s2 : w1.heap.size ≤ w2.heap.size := b2.size
    have d2 : Below w.heap.size w w2 := bl_then d1 b2
    have k_2 := Rd.below k_1 b2 (by omega)
    go_wp2_with fail
    rw [← hW2]
    refine (impl_UseCache_c m _ keep p _ (Rd.more k_2 (by omega))).mono ?_
    rw [HP.out]
    rintro e w3 ⟨x0, rfl, o3, b3⟩
    have s3 : w2.heap.size ≤ w3.heap.size := b3.size
    have d3 : Below w.heap.size w w3 := bl_then d2 b3
    have k_3 := Rd.below k_2 b3 (by omega)
    have X_3 := (b3.block _ (Array.getElem?_eq_some_iff.1 X_2).1).trans X_2
    obtain ⟨xa, xc, rfl, _, _, _⟩ := (Rd.of_own o3).ints HXN.out
    have x_3 := Rd.of_own o3
    obtain ⟨_, _, _, _⟩ := two_cells X_3
    have := (Array.getElem?_eq_some_iff.1 X_3).1
    obtain ⟨w4, hW4⟩ : ∃ W, W = w3.alloc (.cells #[.int .i64 M, .slice xa xn xc] 27) := ⟨_, rfl⟩
    have b4 : Below w3.heap.size w3 w4 := by rw [hW4]; exact (Below.refl _ _).alloc (Nat.le_refl _) _
    have Y_4 : w4.heap[w3.heap.size]? = some (.cells #[.int .i64 M, .slice xa xn xc] 27 (0, 0)) := by rw [hW4]; exact heap_alloc_new _ _
    have e4 : w4.heap.size = w3.heap.size + 1 := by rw [hW4]; simp
    have s4 : w3.heap.size ≤ w4.heap.size := b4.size
    have d4 : Below w.heap.size w w4 := bl_then d3 b4
    have k_4 := Rd.below k_3 b4 (by omega)
    have X_4 := (b4.block _ (Array.getElem?_eq_some_iff.1 X_3).1).trans X_3
    have x_4 := Rd.below x_3 b4 (by omega)
    go_wp2_with fail
    rw [← hW4]
    refine (spec_UseCache_c m _ keep p _ (Rd.more k_4 (by omega))).mono ?_
    rw [HPR.out]
    rintro e w5 ⟨y0, rfl, o5, b5⟩
    have s5 : w4.heap.size ≤ w5.heap.size := b5.size
    have d5 : Below w.heap.size w w5 := bl_then d4 b5
    have k_5 := Rd.below k_4 b5 (by omega)
    have X_5 := (b5.block _ (Array.getElem?_eq_some_iff.1 X_4).1).trans X_4
    have x_5 := Rd.below x_4 b5 (by omega)
    have Y_5 := (b5.block _ (Array.getElem?_eq_some_iff.1 Y_4).1).trans Y_4
    have y_5 := OwnCut.rd o5
    obtain ⟨ya, yc, rfl, _, _, _⟩ := y_5.ints HXN.out
    obtain ⟨_, _, _, _⟩ := two_cells Y_5
    have := (Array.getElem?_eq_some_iff.1 Y_5).1
    obtain ⟨_, _, _, _⟩ := two_cells X_5
    have := (Array.getElem?_eq_some_iff.1 X_5).1
    obtain ⟨w6, hW6⟩ : ∃ W, W = w5.alloc (.cells #[.int .i64 M, .slice ya xn yc] 27) := ⟨_, rfl⟩
    have b6 : Below w5.heap.size w5 w6 := by rw [hW6]; exact (Below.refl _ _).alloc (Nat.le_refl _) _
    have Z_6 : w6.heap[w5.heap.size]? = some (.cells #[.int .i64 M, .slice ya xn yc] 27 (0, 0)) := by rw [hW6]; exact heap_alloc_new _ _
    have e6 : w6.heap.size = w5.heap.size + 1 := by rw [hW6]; simp
    have s6 : w5.heap.size ≤ w6.heap.size := b6.size
    have d6 : Below w.heap.size w w6 := bl_then d5 b6
    have k_6 := Rd.below k_5 b6 (by omega)
    have X_6 := (b6.block _ (Array.getElem?_eq_some_iff.1 X_5).1).trans X_5
    have x_6 := Rd.below x_5 b6 (by omega)
    have Y_6 := (b6.block _ (Array.getElem?_eq_some_iff.1 Y_5).1).trans Y_5
    have y_6 := Rd.below y_5 b6 (by omega)
    go_wp2_with fail
    rw [← hW6]
    refine (laws_sameCache_c M _ _ xk _ (Rd.more x_6 (by omega)) (Rd.more y_6 (by omega))).mono ?_
    rintro e w7 ⟨rfl, b7⟩
    have s7 : w6.heap.size ≤ w7.heap.size := b7.size
    have d7 : Below w.heap.size w w7 := bl_then d6 b7
    have k_7 := Rd.below k_6 b7 (by omega)
    have X_7 := (b7.block _ (Array.getElem?_eq_some_iff.1 X_6).1).trans X_6
    have x_7 := Rd.below x_6 b7 (by omega)
    have Y_7 := (b7.block _ (Array.getElem?_eq_some_iff.1 Y_6).1).trans Y_6
    have y_7 := Rd.below y_6 b7 (by omega)
    have Z_7 := (b7.block _ (Array.getElem?_eq_some_iff.1 Z_6).1).trans Z_6
    obtain ⟨_, _, _, _⟩ := two_cells X_7
    have := (Array.getElem?_eq_some_iff.1 X_7).1
    obtain ⟨_, _, _, _⟩ := two_cells Y_7
    have := (Array.getElem?_eq_some_iff.1 Y_7).1
    cases hok : useOk m keep p
    · obtain ⟨q1, q2, q3⟩ := use_off hok
      obtain rfl : M = 0 := HM.out.symm.trans q1
      obtain rfl : xk = [] := HXK.out.symm.trans q2
      obtain rfl : hit = false := HHIT.out.symm.trans q3
      obtain rfl : xn = 0 := by rw [← HXN.out]; rfl
      clear q1 q2 q3 HP HPR HM HXK HHIT
      obtain ⟨co, hco⟩ : ∃ co, cacheOk m keep = co := ⟨_, rfl⟩
      go_wp2_with fail
      refine (impl_CacheValid_c m _ keep _ _ (Rd.more k_7 (by omega)) (Nat.le_refl _)).mono ?_
      rw [hco]
      rintro e w8 ⟨rfl, b8⟩
      have s8 : w7.heap.size ≤ w8.heap.size := b8.size
      have d8 : Below w.heap.size w w8 := bl_then d7 b8
      have k_8 := Rd.below k_7 b8 (by omega)
      have X_8 := (b8.block _ (Array.getElem?_eq_some_iff.1 X_7).1).trans X_7
      have x_8 := Rd.below x_7 b8 (by omega)
      have Y_8 := (b8.block _ (Array.getElem?_eq_some_iff.1 Y_7).1).trans Y_7
      obtain ⟨_, _, _, _⟩ := two_cells Y_8
      have := (Array.getElem?_eq_some_iff.1 Y_8).1
      have hnil : Ints w8 w8.heap.size (.slice none 0 0) [] := Rd.nil _ _ _ _ _ (Nat.zero_le _)
      have hsame := laws_sameCache_c 0 (.slice xa 0 xc) (.slice none 0 0) [] w8 (Rd.more x_8 (by omega)) hnil
      have hway : co = false ∨ (co = true ∧ p < 0) ∨ (co = true ∧ 0 ≤ p ∧ 16777212 < p) := by
        cases co
        · exact .inl rfl
        · right
          have hp : pv p = false := by simpa [useOk, hco] using hok
          rcases inB_no hp with h | h
          · exact .inl ⟨rfl, h⟩
          · exact .inr ⟨rfl, by omega, h⟩
      clear hok hco hnil
      rcases hway with rfl | ⟨rfl, hp⟩ | ⟨rfl, hp, hp2⟩
      all_goals
        go_wp2_with fail
        refine hsame.mono ?_
        rintro e w9 ⟨rfl, b9⟩
        have d9 := bl_then d8 b9
        go_wp2_with (go_at_call 21; refine (laws_alive_c _).mono ?_; rintro e w' ⟨rfl, rfl⟩)
        go_ret
        exact ⟨by first | rfl | simp, d9⟩
    · obtain ⟨q1, q2, q3⟩ := use_on hok
      obtain rfl : m = M := q1.symm.trans HM.out
      have hxu : xk = usedKeep m keep p := HXK.out.symm.trans q2
      have hhitv : hasI keep p = hit := q3.symm.trans HHIT.out
      obtain ⟨hco, hpv⟩ := use_on_in hok
      obtain ⟨p0, p1⟩ := pv_in hpv
      obtain ⟨m1, m8, hkm, _, _⟩ := cacheOk_in hco
      obtain ⟨r1, r2, r3⟩ := use_again hok
      have hokx : Hid (cacheOk m xk = true) := by rw [hxu]; exact used_ok hok
      obtain ⟨r4, _, _⟩ := use_on r1
      rw [← hxu] at r2 r3 r4
      have HXU := hid hxu
      have hhit2 := hid hhitv
      have HKN := hid hkn
      have hpost2 : Hid (∀ w1, UsePost m xk p w1 = fun e w' => ∃ v', e = .returned (.tuple #[cv m v', .bool true]) ∧ OwnI w' w1.heap.size v' xk ∧ Below w1.heap.size w1 w') := by intro w1; unfold UsePost; rw [r2, r3, r4]
      have hkn8 : kn ≤ 8 := by rw [← hkn]; exact hk
      clear q1 q2 q3 HP HPR HM HXK HHIT r1 r2 r3 r4 hok hpv hxu hhitv hkn
      go_wp2_with fail
      refine (impl_CacheValid_c m _ keep _ _ (Rd.more k_7 (by omega)) (Nat.le_refl _)).mono ?_
      rw [hco]
      rintro e w8 ⟨rfl, b8⟩
      have s8 : w7.heap.size ≤ w8.heap.size := b8.size
      have d8 : Below w.heap.size w w8 := bl_then d7 b8
      have k_8 := Rd.below k_7 b8 (by omega)
      have X_8 := (b8.block _ (Array.getElem?_eq_some_iff.1 X_7).1).trans X_7
      have x_8 := Rd.below x_7 b8 (by omega)
      have Y_8 := (b8.block _ (Array.getElem?_eq_some_iff.1 Y_7).1).trans Y_7
      obtain ⟨_, _, _, _⟩ := two_cells Y_8
      have := (Array.getElem?_eq_some_iff.1 Y_8).1
      obtain ⟨_, _, _, _⟩ := two_cells X_8
      have := (Array.getElem?_eq_some_iff.1 X_8).1
      go_wp2_with fail
      refine (impl_UseCache_c m _ xk p _ (Rd.more x_8 (by omega))).mono ?_
      rw [hpost2.out]
      rintro e w9 ⟨s0, rfl, o9, b9⟩
      have s9 : w8.heap.size ≤ w9.heap.size := b9.size
      have d9 : Below w.heap.size w w9 := bl_then d8 b9
      have k_9 := Rd.below k_8 b9 (by omega)
      have X_9 := (b9.block _ (Array.getElem?_eq_some_iff.1 X_8).1).trans X_8
      have x_9 := Rd.below x_8 b9 (by omega)
      have Y_9 := (b9.block _ (Array.getElem?_eq_some_iff.1 Y_8).1).trans Y_8
      obtain ⟨sa, sc, rfl, _, _, _⟩ := (Rd.of_own o9).ints HXN.out
      have s_9 := Rd.of_own o9
      obtain ⟨_, _, _, _⟩ := two_cells X_9
      have := (Array.getElem?_eq_some_iff.1 X_9).1
      obtain ⟨_, _, _, _⟩ := two_cells Y_9
      have := (Array.getElem?_eq_some_iff.1 Y_9).1
      obtain ⟨w10, hW10⟩ : ∃ W, W = w9.alloc (.cells #[.int .i64 m, .slice sa xn sc] 27) := ⟨_, rfl⟩
      have b10 : Below w9.heap.size w9 w10 := by rw [hW10]; exact (Below.refl _ _).alloc (Nat.le_refl _) _
      have S_10 : w10.heap[w9.heap.size]? = some (.cells #[.int .i64 m, .slice sa xn sc] 27 (0, 0)) := by rw [hW10]; exact heap_alloc_new _ _
      have e10 : w10.heap.size = w9.heap.size + 1 := by rw [hW10]; simp
      have s10 : w9.heap.size ≤ w10.heap.size := b10.size
      have d10 : Below w.heap.size w w10 := bl_then d9 b10
      have k_10 := Rd.below k_9 b10 (by omega)
      have X_10 := (b10.block _ (Array.getElem?_eq_some_iff.1 X_9).1).trans X_9
      have x_10 := Rd.below x_9 b10 (by omega)
      have Y_10 := (b10.block _ (Array.getElem?_eq_some_iff.1 Y_9).1).trans Y_9
      have s_10 := Rd.below s_9 b10 (by omega)
      have hlit : OwnI (w10.alloc (.cells #[.int .i64 p] 3)) w10.heap.size (.slice (some ⟨w9.heap.size + 1, 0, none⟩) 1 1) [p] := by rw [← e10]; exact Own.lit (enc := encI) (e := 3) (k := 1) w10 (B := w10.heap.size) (Nat.le_refl _) [p] #[.int .i64 p] 1 rfl rfl rfl (by simp [maxLen])
      have hal : Below w10.heap.size w10 (w10.alloc (.cells #[.int .i64 p] 3)) := (Below.refl _ _).alloc (Nat.le_refl _) _
      obtain ⟨_, _, hke, _, _, hget⟩ := (Rd.more k_10 (show _ ≤ w10.heap.size by omega)).ints HKN.out
      simp only [Value.slice.injEq] at hke
      obtain ⟨hka, _, _⟩ := hke
      subst hka
      go_wp2
      rw [← hW10]
      go_loopw [11, 12] (fun out i wr => ∃ (k : Nat) (acc : List Int), k ≤ kn ∧ i = .int .i64 k ∧ OwnI wr w10.heap.size out acc ∧ Hid (acc = p :: others p (keep.take k)) ∧ acc.length ≤ k + 1 ∧ Below w10.heap.size w10 wr) (fun _ i _ => kn - (intOf i).toNat)
      case atStart => exact ⟨0, _, Nat.zero_le _, rfl, hlit, by simp [Hid, others], by simp, hal⟩
      case round =>
        obtain ⟨k, acc, hk', rfl, hown, hacc, hlen, hb⟩ := hrel
        clear hlit hal
        have hB := hb.size
        have hX := (hb.block w1.heap.size (Array.getElem?_eq_some_iff.1 X_10).1).trans X_10
        have hY := (hb.block w3.heap.size (Array.getElem?_eq_some_iff.1 Y_10).1).trans Y_10
        have hS := (hb.block w9.heap.size (Array.getElem?_eq_some_iff.1 S_10).1).trans S_10
        obtain ⟨_, _, _, _⟩ := two_cells hX
        by_cases hlt : k < kn
        · obtain ⟨b, o, x, rfl, hbl, hx, hc'⟩ := hget k hlt
          have hcx := (hb.cell (p := ⟨b, o + k, none⟩) hbl).trans hc'
          clear hget hc'
          obtain ⟨ln, hln⟩ : ∃ ln, acc.length = ln := ⟨_, rfl⟩
          obtain ⟨oa, oc, rfl, _, _, _⟩ := (Rd.of_own hown).ints hln
          have HLN := hid hln
          rw [hln] at hlen
          clear hln hS hY
          by_cases hxp : x = p
          · have hu := hid (others_succ_eq hx.out hxp)
            have hbf : (x != p) = false := by simp [hxp]
            clear hxp
            go_wp2
            go_roundw
            case rel => exact ⟨k + 1, _, by omega, by go_num, hown, by unfold Hid; rw [hu.out]; exact hacc.out, by rw [HLN.out]; omega, hb⟩
            case measure => simp [intOf]; omega
          · have hbf : (x != p) = true := by simp [hxp]
            have hu := hid (others_succ_ne hx.out hxp)
            clear hxp
            go_wp2_with (at_builtin; refine push_int (w0 := w10) rfl _ _ rfl _ _ _ _ _ hown hb hB (Nat.le_refl _) rfl rfl (by rw [HLN.out]; omega) ?_; intro v' w' hown' hb' hB' _)
            go_roundw
            case rel => exact ⟨k + 1, _, by omega, by go_num, hown', by unfold Hid; rw [hu.out, hacc.out]; rfl, by have := HLN.out; simp; omega, hb'⟩
            case measure => simp [intOf]; omega
        · have hacc' := hacc.out
          rw [take_all HKN.out (show kn ≤ k by omega)] at hacc'
          clear hget
          obtain ⟨rn, hrn⟩ : ∃ rn, acc.length = rn := ⟨_, rfl⟩
          obtain ⟨ra, rc, rfl, hrl, _, _⟩ := (Rd.of_own hown).ints hrn
          have hxrn : xn ≤ rn := by
            have h1 : xk.length ≤ (p :: others p keep).length := by rw [HXU.out]; unfold usedKeep; rw [List.length_take]; omega
            rw [HXN.out] at h1
            rw [← hrn, hacc']; exact h1
          have hxr : (xn : Int) ≤ rc := by omega
          have hrr : Ints wr wr.heap.size (.slice ra xn rc) xk := by
            have := (Rd.of_own hown).front hxrn
            rwa [hacc', show (p :: others p keep).take xn = xk by rw [← HXN.out, HXU.out]; exact used_take] at this
          have hrk : Ints wr wr.heap.size (.slice ka kn kc) keep := (Rd.more (Rd.below k_10 hb (by omega)) (by omega))
          have hrx : Ints wr wr.heap.size (.slice xa xn xc) xk := (Rd.more (Rd.below x_10 hb (by omega)) (by omega))
          have hrs : Ints wr wr.heap.size (.slice sa xn sc) xk := (Rd.more (Rd.below s_10 hb (by omega)) (by omega))
          have cwr := (d10).trans (hb.mono (by omega))
          clear hacc' hacc hown hb hlen
          go_wp2
          refine wp_region_inv3g rfl (by kernel_rfl) (by kernel_rfl) (by kernel_rfl) (by kernel_rfl) (by simp) (fun _ w' => Below wr.heap.size wr w') (fun w' w'' => ∀ i v, fact (luF (cv m (.slice xa xn xc)) (cv m (.slice sa xn sc)) (.slice xa xn xc) (.slice ra rn rc) (.slice ra xn rc) (.slice ka kn kc) xn p hit w1.heap.size w3.heap.size) i v w' → fact (luF (cv m (.slice xa xn xc)) (cv m (.slice sa xn sc)) (.slice xa xn xc) (.slice ra rn rc) (.slice ra xn rc) (.slice ka kn kc) xn p hit w1.heap.size w3.heap.size) i v w'') (fact (luF (cv m (.slice xa xn xc)) (cv m (.slice sa xn sc)) (.slice xa xn xc) (.slice ra rn rc) (.slice ra xn rc) (.slice ka kn kc) xn p hit w1.heap.size w3.heap.size)) (Below.refl _ _).drew (fun i v w' w'' hS hf => hS i v hf) ?grd ?oo ?fin
          case grd =>
            intro i oo d bb hi hg v w' hf
            obtain ⟨hlt1, rfl⟩ := Array.getElem?_eq_some_iff.1 hi
            have hlt' : i < 29 := hlt1
            clear hi
            obtain rfl | rfl | rfl | rfl | rfl | rfl | rfl | rfl | rfl | rfl | rfl | rfl | rfl | rfl | rfl | rfl | rfl | rfl | rfl | rfl | rfl | rfl | rfl | rfl | rfl | rfl | rfl | rfl | rfl : i = 0 ∨ i = 1 ∨ i = 2 ∨ i = 3 ∨ i = 4 ∨ i = 5 ∨ i = 6 ∨ i = 7 ∨ i = 8 ∨ i = 9 ∨ i = 10 ∨ i = 11 ∨ i = 12 ∨ i = 13 ∨ i = 14 ∨ i = 15 ∨ i = 16 ∨ i = 17 ∨ i = 18 ∨ i = 19 ∨ i = 20 ∨ i = 21 ∨ i = 22 ∨ i = 23 ∨ i = 24 ∨ i = 25 ∨ i = 26 ∨ i = 27 ∨ i = 28 := by omega
            all_goals first | (simp at hg; done) | (simp at hg; obtain ⟨rfl, rfl⟩ := hg; exact hf)
          case oo =>
            intro i oo hi qn a' wk hnn hj hb' hd
            obtain ⟨hlt1, rfl⟩ := Array.getElem?_eq_some_iff.1 hi
            have hlt' : i < 29 := hlt1
            clear hi
            obtain rfl | rfl | rfl | rfl | rfl | rfl | rfl | rfl | rfl | rfl | rfl | rfl | rfl | rfl | rfl | rfl | rfl | rfl | rfl | rfl | rfl | rfl | rfl | rfl | rfl | rfl | rfl | rfl | rfl : i = 0 ∨ i = 1 ∨ i = 2 ∨ i = 3 ∨ i = 4 ∨ i = 5 ∨ i = 6 ∨ i = 7 ∨ i = 8 ∨ i = 9 ∨ i = 10 ∨ i = 11 ∨ i = 12 ∨ i = 13 ∨ i = 14 ∨ i = 15 ∨ i = 16 ∨ i = 17 ∨ i = 18 ∨ i = 19 ∨ i = 20 ∨ i = 21 ∨ i = 22 ∨ i = 23 ∨ i = 24 ∨ i = 25 ∨ i = 26 ∨ i = 27 ∨ i = 28 := by omega
            · have b5 : a'.eval (.tmp 5) = .pointer (some ⟨w3.heap.size, 0, none⟩) := hb' 5 (by rfl); have c5 := ev_get b5
              obtain ⟨x0, x1, _, _⟩ := two_cells ((hj.block _ (Array.getElem?_eq_some_iff.1 hY).1).trans hY)
              exact iv_val (v := cv m (.slice xa xn xc)) (by simp [execOp, c5, x0, x1, go_sem, Result.andThen]) ⟨_, rfl, hj, (fun _ _ h => h), rfl⟩
            · have v0 : a'.eval (.tmp 93) = cv m (.slice xa xn xc) := hd ⟨0, .data⟩ (by simp) rfl; have u0 := ev_get v0
              refine iv_enter (f := 18) (args := #[cv m (.slice xa xn xc)]) (by simp [execOp, u0, go_sem]) ?_
              refine (impl_CacheValid_c m _ xk _ wk (Rd.on hrx hj) (Nat.le_refl _)).mono ?_
              rw [hokx.out]
              rintro e w5 ⟨rfl, b5⟩
              exact ⟨_, rfl, _, rfl, hj.trans (b5.mono hj.size), (fun i v h => fact_gr luF_gr i v _ _ b5 h), rfl⟩
            · have v1 : a'.eval (.tmp 94) = .bool true := hd ⟨1, .data⟩ (by simp) rfl; have u1 := ev_get v1
              exact iv_val (v := .bool true) (by simp [execOp, v1]) ⟨_, rfl, hj, (fun _ _ h => h), rfl⟩
            · have b10 : a'.eval (.tmp 10) = .bool true := hb' 10 (by rfl); have c10 := ev_get b10
              exact iv_val (v := .bool true) (by simp [execOp, b10]) ⟨_, rfl, hj, (fun _ _ h => h), rfl⟩
            · have v2 : a'.eval (.tmp 95) = .bool true := hd ⟨2, .data⟩ (by simp) rfl; have u2 := ev_get v2
              have v3 : a'.eval (.tmp 96) = .bool true := hd ⟨3, .data⟩ (by simp) rfl; have u3 := ev_get v3
              exact iv_val (v := .bool true) (by simp [execOp, u2, u3, go_sem]) ⟨_, rfl, hj, (fun _ _ h => h), rfl⟩
            · have v4 : a'.eval (.tmp 97) = .bool true := hd ⟨4, .data⟩ (by simp) rfl; have u4 := ev_get v4
              exact iv_val (v := .bool true) (by simp [execOp, v4]) ⟨_, rfl, hj, (fun _ _ h => h), rfl⟩
            · have b9 : a'.eval (.tmp 9) = .pointer (some ⟨w9.heap.size, 0, none⟩) := hb' 9 (by rfl); have c9 := ev_get b9
              obtain ⟨x0, x1, _, _⟩ := two_cells ((hj.block _ (Array.getElem?_eq_some_iff.1 hS).1).trans hS)
              exact iv_val (v := cv m (.slice sa xn sc)) (by simp [execOp, c9, x0, x1, go_sem, Result.andThen]) ⟨_, rfl, hj, (fun _ _ h => h), rfl⟩
            · have b5 : a'.eval (.tmp 5) = .pointer (some ⟨w3.heap.size, 0, none⟩) := hb' 5 (by rfl); have c5 := ev_get b5
              obtain ⟨x0, x1, _, _⟩ := two_cells ((hj.block _ (Array.getElem?_eq_some_iff.1 hY).1).trans hY)
              exact iv_val (v := cv m (.slice xa xn xc)) (by simp [execOp, c5, x0, x1, go_sem, Result.andThen]) ⟨_, rfl, hj, (fun _ _ h => h), rfl⟩
            · have v6 : a'.eval (.tmp 99) = cv m (.slice sa xn sc) := hd ⟨6, .data⟩ (by simp) rfl; have u6 := ev_get v6
              have v7 : a'.eval (.tmp 100) = cv m (.slice xa xn xc) := hd ⟨7, .data⟩ (by simp) rfl; have u7 := ev_get v7
              refine iv_enter (f := 31) (args := #[cv m (.slice sa xn sc), cv m (.slice xa xn xc)]) (by simp [execOp, u6, u7, go_sem]) ?_
              refine (laws_sameCache_c m _ _ xk wk (Rd.on hrs hj) (Rd.on hrx hj)).mono ?_
              rintro e w5 ⟨rfl, b5⟩
              exact ⟨_, rfl, _, rfl, hj.trans (b5.mono hj.size), (fun i v h => fact_gr luF_gr i v _ _ b5 h), rfl⟩
            · have v5 : a'.eval (.tmp 98) = .bool true := hd ⟨5, .data⟩ (by simp) rfl; have u5 := ev_get v5
              have v8 : a'.eval (.tmp 101) = .bool true := hd ⟨8, .data⟩ (by simp) rfl; have u8 := ev_get v8
              exact iv_val (v := .bool true) (by simp [execOp, u5, u8, go_sem]) ⟨_, rfl, hj, (fun _ _ h => h), rfl⟩
            · have v9 : a'.eval (.tmp 102) = .bool true := hd ⟨9, .data⟩ (by simp) rfl; have u9 := ev_get v9
              exact iv_val (v := .bool true) (by simp [execOp, v9]) ⟨_, rfl, hj, (fun _ _ h => h), rfl⟩
            · have b5 : a'.eval (.tmp 5) = .pointer (some ⟨w3.heap.size, 0, none⟩) := hb' 5 (by rfl); have c5 := ev_get b5
              exact iv_val (v := .pointer (some ⟨w3.heap.size, 1, none⟩)) (by simp [execOp, c5, go_sem, Result.andThen]) ⟨_, rfl, hj, (fun _ _ h => h), rfl⟩
            · have v11 : a'.eval (.tmp 104) = .pointer (some ⟨w3.heap.size, 1, none⟩) := hd ⟨11, .data⟩ (by simp) rfl; have u11 := ev_get v11
              obtain ⟨x0, x1, _, _⟩ := two_cells ((hj.block _ (Array.getElem?_eq_some_iff.1 hY).1).trans hY)
              exact iv_val (v := .slice xa xn xc) (by simp [execOp, u11, x1, go_sem, Result.andThen]) ⟨_, rfl, hj, (fun _ _ h => h), rfl⟩
            · have b11 : a'.eval (.tmp 11) = .slice ra rn rc := hb' 11 (by rfl); have c11 := ev_get b11
              exact iv_val (v := .slice ra rn rc) (by simp [execOp, b11]) ⟨_, rfl, hj, (fun _ _ h => h), rfl⟩
            · have b5 : a'.eval (.tmp 5) = .pointer (some ⟨w3.heap.size, 0, none⟩) := hb' 5 (by rfl); have c5 := ev_get b5
              exact iv_val (v := .pointer (some ⟨w3.heap.size, 1, none⟩)) (by simp [execOp, c5, go_sem, Result.andThen]) ⟨_, rfl, hj, (fun _ _ h => h), rfl⟩
            · have v14 : a'.eval (.tmp 107) = .pointer (some ⟨w3.heap.size, 1, none⟩) := hd ⟨14, .data⟩ (by simp) rfl; have u14 := ev_get v14
              obtain ⟨x0, x1, _, _⟩ := two_cells ((hj.block _ (Array.getElem?_eq_some_iff.1 hY).1).trans hY)
              exact iv_val (v := .slice xa xn xc) (by simp [execOp, u14, x1, go_sem, Result.andThen]) ⟨_, rfl, hj, (fun _ _ h => h), rfl⟩
            · have v15 : a'.eval (.tmp 108) = .slice xa xn xc := hd ⟨15, .data⟩ (by simp) rfl; have u15 := ev_get v15
              exact iv_val (v := .int .i64 xn) (by simp [execOp, u15, go_sem, Result.andThen]) ⟨_, rfl, hj, (fun _ _ h => h), rfl⟩
            · have v13 : a'.eval (.tmp 106) = .slice ra rn rc := hd ⟨13, .data⟩ (by simp) rfl; have u13 := ev_get v13
              have v16 : a'.eval (.tmp 109) = .int .i64 xn := hd ⟨16, .data⟩ (by simp) rfl; have u16 := ev_get v16
              have hcap : (xn : Int) ≤ rc := hxr
              exact iv_val (v := .slice ra xn rc) (by simp [execOp, u13, u16, hcap, go_sem, Result.andThen]) ⟨_, rfl, hj, (fun _ _ h => h), rfl⟩
            · have v12 : a'.eval (.tmp 105) = .slice xa xn xc := hd ⟨12, .data⟩ (by simp) rfl; have u12 := ev_get v12
              have v17 : a'.eval (.tmp 110) = .slice ra xn rc := hd ⟨17, .data⟩ (by simp) rfl; have u17 := ev_get v17
              refine iv_enter (f := 32) (args := #[.slice xa xn xc, .slice ra xn rc]) (by simp [execOp, u12, u17, go_sem]) ?_
              refine (laws_sameInts_b _ _ xk xk _ _ wk (Rd.on hrx hj) (Rd.on hrr hj)).mono ?_
              rintro e w5 ⟨rfl, b5⟩
              rw [show decide (xk = xk) = true by simp]
              exact ⟨_, rfl, _, rfl, hj.trans (b5.mono hj.size), (fun i v h => fact_gr luF_gr i v _ _ b5 h), rfl⟩
            · have v10 : a'.eval (.tmp 103) = .bool true := hd ⟨10, .data⟩ (by simp) rfl; have u10 := ev_get v10
              have v18 : a'.eval (.tmp 111) = .bool true := hd ⟨18, .data⟩ (by simp) rfl; have u18 := ev_get v18
              exact iv_val (v := .bool true) (by simp [execOp, u10, u18, go_sem]) ⟨_, rfl, hj, (fun _ _ h => h), rfl⟩
            · have v19 : a'.eval (.tmp 112) = .bool true := hd ⟨19, .data⟩ (by simp) rfl; have u19 := ev_get v19
              exact iv_val (v := .bool true) (by simp [execOp, v19]) ⟨_, rfl, hj, (fun _ _ h => h), rfl⟩
            · have b6 : a'.eval (.tmp 6) = .bool hit := hb' 6 (by rfl); have c6 := ev_get b6
              exact iv_val (v := .bool hit) (by simp [execOp, b6]) ⟨_, rfl, hj, (fun _ _ h => h), rfl⟩
            · have b3 : a'.eval (.tmp 3) = .pointer (some ⟨w1.heap.size, 0, none⟩) := hb' 3 (by rfl); have c3 := ev_get b3
              exact iv_val (v := .pointer (some ⟨w1.heap.size, 1, none⟩)) (by simp [execOp, c3, go_sem, Result.andThen]) ⟨_, rfl, hj, (fun _ _ h => h), rfl⟩
            · have v22 : a'.eval (.tmp 115) = .pointer (some ⟨w1.heap.size, 1, none⟩) := hd ⟨22, .data⟩ (by simp) rfl; have u22 := ev_get v22
              obtain ⟨x0, x1, _, _⟩ := two_cells ((hj.block _ (Array.getElem?_eq_some_iff.1 hX).1).trans hX)
              exact iv_val (v := .slice ka kn kc) (by simp [execOp, u22, x1, go_sem, Result.andThen]) ⟨_, rfl, hj, (fun _ _ h => h), rfl⟩
            · have b4 : a'.eval (.tmp 4) = .int .i64 p := hb' 4 (by rfl); have c4 := ev_get b4
              exact iv_val (v := .int .i64 p) (by simp [execOp, b4]) ⟨_, rfl, hj, (fun _ _ h => h), rfl⟩
            · have v23 : a'.eval (.tmp 116) = .slice ka kn kc := hd ⟨23, .data⟩ (by simp) rfl; have u23 := ev_get v23
              have v24 : a'.eval (.tmp 117) = .int .i64 p := hd ⟨24, .data⟩ (by simp) rfl; have u24 := ev_get v24
              refine iv_enter (f := 33) (args := #[.slice ka kn kc, .int .i64 p]) (by simp [execOp, u23, u24, go_sem]) ?_
              refine (laws_hasInt_c _ keep p _ wk (Rd.on hrk hj)).mono ?_
              rw [hhit2.out]
              rintro e w5 ⟨rfl, rfl⟩
              exact ⟨_, rfl, _, rfl, hj, (fun _ _ h => h), rfl⟩
            · have v21 : a'.eval (.tmp 114) = .bool hit := hd ⟨21, .data⟩ (by simp) rfl; have u21 := ev_get v21
              have v25 : a'.eval (.tmp 118) = .bool hit := hd ⟨25, .data⟩ (by simp) rfl; have u25 := ev_get v25
              exact iv_val (v := .bool true) (by simp [execOp, u21, u25, go_sem, Result.andThen]) ⟨_, rfl, hj, (fun _ _ h => h), rfl⟩
            · have v20 : a'.eval (.tmp 113) = .bool true := hd ⟨20, .data⟩ (by simp) rfl; have u20 := ev_get v20
              have v26 : a'.eval (.tmp 119) = .bool true := hd ⟨26, .data⟩ (by simp) rfl; have u26 := ev_get v26
              exact iv_val (v := .bool true) (by simp [execOp, u20, u26, go_sem]) ⟨_, rfl, hj, (fun _ _ h => h), rfl⟩
            · have v27 : a'.eval (.tmp 120) = .bool true := hd ⟨27, .data⟩ (by simp) rfl; have u27 := ev_get v27
              exact iv_val (v := .bool true) (by simp [execOp, v27]) ⟨_, rfl, hj, (fun _ _ h => h), rfl⟩
          case fin =>
            intro tm w20 hj hF
            have q2 : tm.getD 2 undef = .bool true := hF 28 _ rfl
            clear hF
            simp only [refillL, List.setIfInBounds_toArray, List.set_cons_succ, List.set_cons_zero]
            rw [q2]
            go_wp2
            go_ret
            exact ⟨rfl, cwr.trans (hj.mono (by have := cwr.size; omega))⟩

end Go.Proofs.Ytnedkfmbeeodfaa
