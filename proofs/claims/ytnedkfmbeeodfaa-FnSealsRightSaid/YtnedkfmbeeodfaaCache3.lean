/- Walks: used caches, the reference's. -/
import Derived.Test.YtnedkfmbeeodfaaCache2
namespace Go.Proofs.Ytnedkfmbeeodfaa
open Go.RowKit

def UsePostR (m : Int) (xs : List Int) (p : Int) (w : World) (e : Ending) (w' : World) : Prop :=
  ∃ v', e = .returned (.tuple #[cv (useMost m xs p) v', .bool (useHit m xs p)]) ∧ OwnCut w' w.heap.size v' (useKeep m xs p) ∧ Below w.heap.size w w'

set_option maxHeartbeats 2000000 in
theorem spec_UseCache_c (m : Int) (v : Value) (xs : List Int) (p : Int) (w : World) (h : Ints w w.heap.size v xs) :
    Calls Try.prog 26 #[cv m v, .int .i64 p] w (UsePostR m xs p w) := by
  obtain ⟨n, hn⟩ : ∃ n, xs.length = n := ⟨_, rfl⟩
  obtain ⟨a, c, rfl, h1, h2, h3⟩ := h.ints hn
  have HN := hid hn
  clear hn
  obtain ⟨W2, hW2⟩ : ∃ W2, W2 = ((w.alloc (.cells #[.int .i64 m, .slice a n c] 27)).alloc (.cells #[.int .i64 0, .slice none 0 0] 27)) := ⟨_, rfl⟩
  have hb0 : Below w.heap.size w W2 := by rw [hW2]; exact ((Below.refl _ _).alloc (Nat.le_refl _) _).alloc (by simp) _
  have hs2 : W2.heap.size = w.heap.size + 2 := by rw [hW2]; simp
  have hh0 : W2.heap[w.heap.size]? = some (.cells #[.int .i64 m, .slice a n c] 27 (0, 0)) := by rw [hW2]; exact first_heap _ _ _
  have hh1 : W2.heap[w.heap.size + 1]? = some (.cells #[.int .i64 0, .slice none 0 0] 27 (0, 0)) := by rw [hW2]; exact second_heap _ _ _
  have hsx := h.below hb0 (Nat.le_refl _)
  cases hok : useOk m xs p
  · have HO := hid (use_off hok)
    cases hc : cacheOk m xs
    all_goals
      first
      | (have hp : inB p 0 16777212 = false := (by simpa [useOk, hc] using hok))
      | skip
      go_enter Try.func26, Try.ntmps26
      go_wp2_with fail
      rw [← hW2]
      refine (spec_CacheValid_c m _ xs _ W2 hsx (by omega)).mono ?_
      rw [hc]
      rintro e w2 ⟨rfl, b2⟩
      have hg1 := (b2.block (w.heap.size + 1) (by omega)).trans hh1
      have hg0 := (b2.block (w.heap.size) (by omega)).trans hh0
      obtain ⟨k0, k1, f0, f1⟩ := two_cells hg1
      have c2 := bl_then hb0 (b2.mono (by omega))
      go_wp2_with (go_at_call 54; refine (spec_l1In_c _ _ _ _).mono ?_; rintro e w' ⟨rfl, rfl⟩)
      obtain ⟨q0, q1⟩ := set2 (x' := .int .i64 0) (y' := .slice none 0 0) k0 k1
      refine bodyPost_ret (v := .tuple #[cv 0 (.slice none 0 0), .bool false]) (by simp [results, Try.results26, go_sem, q0, q1]; try rfl) rfl ?_
      exact ⟨_, by rw [HO.out.1, HO.out.2.2], by rw [HO.out.2.1]; exact OwnCut.nil, (c2.setCell (by simp) _).setCell (by simp) _⟩
  · have HO := hid (use_on hok)
    obtain ⟨hc, hp⟩ := use_on_in hok
    obtain ⟨m1, m8, m3, _, _⟩ := cacheOk_in hc
    have HOK := hid hok
    clear hok
    have hp' : inB p 0 16777212 = true := hp
    have hn8 : n ≤ 8 := by have := HN.out; omega
    go_enter Try.func26, Try.ntmps26
    go_wp2_with fail
    rw [← hW2]
    refine (spec_CacheValid_c m _ xs _ W2 hsx (by omega)).mono ?_
    rw [hc]
    rintro e w2 ⟨rfl, b2⟩
    have hg1 := (b2.block (w.heap.size + 1) (by omega)).trans hh1
    have hg0 := (b2.block (w.heap.size) (by omega)).trans hh0
    have c2 := bl_then hb0 (b2.mono (by omega))
    have hs3 := b2.size
    have z0 : w.heap.size < w2.heap.size := by omega
    have z1 : w.heap.size + 1 < w2.heap.size := by omega
    have hsx2 := hsx.below b2 (by omega)
    obtain ⟨_, _, _, _⟩ := two_cells hg0
    have hlit : OwnI (w2.alloc (.cells #[.int .i64 p] 3)) w2.heap.size (.slice (some ⟨w2.heap.size, 0, none⟩) 1 1) [p] := Own.lit (enc := encI) (e := 3) (k := 1) w2 (B := w2.heap.size) (Nat.le_refl _) [p] #[.int .i64 p] 1 rfl rfl rfl (by simp [maxLen])
    have hal : Below w2.heap.size w2 (w2.alloc (.cells #[.int .i64 p] 3)) := (Below.refl _ _).alloc (Nat.le_refl _) _
    go_wp2_with (go_at_call 54; refine (spec_l1In_c _ _ _ _).mono ?_; rintro e w' ⟨rfl, rfl⟩)
    go_loopw [6, 7] (fun out i wr => ∃ (k : Nat) (acc : List Int), k ≤ n ∧ i = .int .i64 k ∧ OwnI wr w2.heap.size out acc ∧ Hid (acc = p :: others p (xs.take k)) ∧ acc.length ≤ k + 1 ∧ Below w2.heap.size w2 wr) (fun _ i _ => n - (intOf i).toNat)
    case atStart => exact ⟨0, _, Nat.zero_le _, rfl, hlit, by simp [Hid, others], by simp, hal⟩
    case round =>
      obtain ⟨k, acc, hk, rfl, hown, hacc, hlen, hb⟩ := hrel
      clear hlit hal
      have hB := hb.size
      have r0 := (hb.block (w.heap.size) (by omega)).trans hg0
      have r1 := (hb.block (w.heap.size + 1) (by omega)).trans hg1
      obtain ⟨x0, x1, _, _⟩ := two_cells r0
      by_cases hlt : k < n
      · obtain ⟨b, o, x, rfl, hbl, hx, hc'⟩ := h3 k hlt
        have hcx : wr.cell? ⟨b, o + k, none⟩ = some (.int .i64 x) := ((bl_then c2 (hb.mono (by omega))).cell (p := ⟨b, o + k, none⟩) hbl).trans hc'
        clear h3 hc'
        obtain ⟨ln, hln⟩ : ∃ ln, acc.length = ln := ⟨_, rfl⟩
        obtain ⟨oa, oc, rfl, _, _, _⟩ := (Rd.of_own hown).ints hln
        have HLN := hid hln
        rw [hln] at hlen
        clear hln
        by_cases hxp : x = p
        · have hu := hid (others_succ_eq hx.out hxp)
          have hbf : (x != p) = false := by simp [hxp]
          clear hxp
          go_wp2
          go_roundw
          case rel => exact ⟨k + 1, _, by omega, by go_num, hown, by unfold Hid; rw [hu.out]; exact hacc.out, by rw [HLN.out]; omega, hb⟩
          case measure => simp [intOf]; omega
        · have hbf : (x != p) = true := by simp [hxp]
          have hu := hid (others_succ_ne hx.out hxp)
          clear hxp
          go_wp2_with (at_builtin; refine push_int (w0 := w2) rfl _ _ rfl _ _ _ _ _ hown hb hB (Nat.le_refl _) rfl rfl (by rw [HLN.out]; omega) ?_; intro v' w' hown' hb' hB' _)
          go_roundw
          case rel => exact ⟨k + 1, _, by omega, by go_num, hown', by unfold Hid; rw [hu.out, hacc.out]; rfl, by have := HLN.out; simp; omega, hb'⟩
          case measure => simp [intOf]; omega
      · have hacc' := hacc.out
        rw [take_all HN.out (show n ≤ k by omega)] at hacc'
        have HA := hid (show acc.take m.toNat = usedKeep m xs p by rw [hacc']; rfl)
        clear hacc' hacc h3
        obtain ⟨y0, y1, f0, f1⟩ := two_cells r1
        obtain ⟨kN, hkN⟩ : ∃ kN, acc.length = kN := ⟨_, rfl⟩
        obtain ⟨ka, kc, rfl, kl, _, _⟩ := (Rd.of_own hown).ints hkN
        obtain ⟨mn, rfl⟩ : ∃ mn : Nat, m = mn := ⟨m.toNat, by omega⟩
        have hkN9 : kN ≤ 9 := by have := HN.out; omega
        by_cases hcut : (mn : Int) < kN
        · have hcut' : mn < kN := by omega
          have hcut'' : (mn : Int) ≤ kc := by omega
          go_wp2
          refine wp_region_inv rfl (by kernel_rfl) (by kernel_rfl) (by simp) (fun _ w' => UJ w (fun W => OwnI W (w.heap.size + 2) (.slice ka kN kc) acc) (.slice a n c) mn w') (fun w' w'' => UF w (.slice ka mn kc) mn w' → UF w (.slice ka mn kc) mn w'') (fact (useF w (.slice ka mn kc) (.slice a n c) mn p (hasI xs p))) ?jj (fun i v w' w'' hS hf => useF_st i v w' w'' hS hf) ?oo ?fin
          case oo =>
            intro i o hi nn a' w4 hn hj hb hd
            obtain ⟨hlt, rfl⟩ := Array.getElem?_eq_some_iff.1 hi
            have hlt' : i < 10 := hlt
            clear hi
            obtain rfl | rfl | rfl | rfl | rfl | rfl | rfl | rfl | rfl | rfl : i = 0 ∨ i = 1 ∨ i = 2 ∨ i = 3 ∨ i = 4 ∨ i = 5 ∨ i = 6 ∨ i = 7 ∨ i = 8 ∨ i = 9 := by omega
            · have b2 : a'.eval (.tmp 2) = .pointer (some ⟨w.heap.size, 0, none⟩) := hb 2 (by rfl); have c2 := ev_get b2
              exact iv_val (v := .pointer (some ⟨w.heap.size, 0, none⟩)) (by simp [execOp, c2, go_sem, Result.andThen]) ⟨_, rfl, hj, id, rfl⟩
            · have v0 : a'.eval (.tmp 50) = .pointer (some ⟨w.heap.size, 0, none⟩) := hd ⟨0, .data⟩ (by simp) rfl; have u0 := ev_get v0
              obtain ⟨x0, x1, _, _⟩ := two_cells hj.2.1
              exact iv_val (v := .int .i64 mn) (by simp [execOp, u0, x0, go_sem, Result.andThen]) ⟨_, rfl, hj, id, rfl⟩
            · have b6 : a'.eval (.tmp 6) = .slice ka mn kc := hb 6 (by rfl); have c6 := ev_get b6
              exact iv_val (v := .slice ka mn kc) (by simp [execOp, b6]) ⟨_, rfl, hj, id, rfl⟩
            · have v1 : a'.eval (.tmp 51) = .int .i64 mn := hd ⟨1, .data⟩ (by simp) rfl; have u1 := ev_get v1
              have v2 : a'.eval (.tmp 52) = .slice ka mn kc := hd ⟨2, .data⟩ (by simp) rfl; have u2 := ev_get v2
              exact iv_val (v := .agg #[.int .i64 mn, .slice ka mn kc]) (by simp [execOp, u1, u2, go_sem, Result.andThen]) ⟨_, rfl, hj, id, rfl⟩
            · have b2 : a'.eval (.tmp 2) = .pointer (some ⟨w.heap.size, 0, none⟩) := hb 2 (by rfl); have c2 := ev_get b2
              exact iv_val (v := .pointer (some ⟨w.heap.size, 1, none⟩)) (by simp [execOp, c2, go_sem, Result.andThen]) ⟨_, rfl, hj, id, rfl⟩
            · have v4 : a'.eval (.tmp 54) = .pointer (some ⟨w.heap.size, 1, none⟩) := hd ⟨4, .data⟩ (by simp) rfl; have u4 := ev_get v4
              obtain ⟨x0, x1, _, _⟩ := two_cells hj.2.1
              exact iv_val (v := .slice a n c) (by simp [execOp, u4, x1, go_sem, Result.andThen]) ⟨_, rfl, hj, id, rfl⟩
            · have b1 : a'.eval (.tmp 1) = .int .i64 p := hb 1 (by rfl); have c1 := ev_get b1
              exact iv_val (v := .int .i64 p) (by simp [execOp, b1]) ⟨_, rfl, hj, id, rfl⟩
            · have v5 : a'.eval (.tmp 55) = .slice a n c := hd ⟨5, .data⟩ (by simp) rfl; have u5 := ev_get v5
              have v6 : a'.eval (.tmp 56) = .int .i64 p := hd ⟨6, .data⟩ (by simp) rfl; have u6 := ev_get v6
              refine iv_enter (f := 55) (args := #[.slice a n c, .int .i64 p]) (by simp [execOp, u5, u6, go_sem]) ?_
              refine (spec_l19Has_c _ xs p _ _ (h.below hj.1 (Nat.le_refl _))).mono ?_
              rintro e w5 ⟨rfl, rfl⟩
              exact ⟨_, rfl, _, rfl, hj, id, rfl⟩
            · have b4 : a'.eval (.tmp 4) = .pointer (some ⟨w.heap.size + 1, 0, none⟩) := hb 4 (by rfl); have c4 := ev_get b4
              have v3 : a'.eval (.tmp 53) = .agg #[.int .i64 mn, .slice ka mn kc] := hd ⟨3, .data⟩ (by simp) rfl; have u3 := ev_get v3
              obtain ⟨x, y, hxy⟩ := hj.2.2.1
              obtain ⟨x0, x1, g0, g1⟩ := two_cells hxy
              have x1' : (w4.setCell ⟨w.heap.size + 1, 0, none⟩ (.int .i64 mn)).cell? ⟨w.heap.size + 1, 1, none⟩ = some y := by rw [World.cell?_setCell_other _ _ _ _ (by simp)]; exact x1
              have g1' : (w4.setCell ⟨w.heap.size + 1, 0, none⟩ (.int .i64 mn)).frozen? ⟨w.heap.size + 1, 1, none⟩ = false := by simpa using g1
              exact iv_skip (w' := (w4.setCell ⟨w.heap.size + 1, 0, none⟩ (.int .i64 mn)).setCell ⟨w.heap.size + 1, 1, none⟩ (.slice ka mn kc)) (by simp [execOp, c4, u3, x0, x1', g0, g1', go_sem, Result.andThen]) ⟨undef, rfl, hj.store hxy, fun _ => UF.store hxy, (UF.store hxy : UF w (.slice ka mn kc) mn _)⟩
            · have v7 : a'.eval (.tmp 57) = .bool (hasI xs p) := hd ⟨7, .data⟩ (by simp) rfl; have u7 := ev_get v7
              exact iv_val (v := .bool (hasI xs p)) (by simp [execOp, v7]) ⟨_, rfl, hj, id, rfl⟩
          case jj => exact ⟨(bl_then c2 (hb.mono (by omega))).drew, r0, ⟨_, _, r1⟩, (hown.drewN 1).less (show w.heap.size + 2 ≤ w2.heap.size by omega), fun w1 w2 hg hk => Own.far hk hg (fun g hg => by simp at hg; omega)⟩
          case fin =>
            rintro ⟨tm, df⟩ w4 hj hsz hdf hb hF
            obtain rfl : df = [] := hdf
            have q9 : tm[5]?.getD undef = .bool (hasI xs p) := (Array.getD_eq_getD_getElem? ..).symm.trans (hF 9 _ rfl)
            have q4 : tm[4]?.getD undef = .pointer (some ⟨w.heap.size + 1, 0, none⟩) := (Array.getD_eq_getD_getElem? ..).symm.trans (hb 4 (by kernel_rfl))
            have hst : UF w (.slice ka mn kc) mn w4 := hF 8 _ rfl
            obtain ⟨s0, s1, _, _⟩ := two_cells hst
            go_wp2
            refine bodyPost_ret (v := .tuple #[cv mn (.slice ka mn kc), .bool (hasI xs p)]) (by simp [results, Try.results26, go_sem, q4, q9, s0, s1]; try rfl) rfl ?_
            exact ⟨_, by rw [HO.out.1, HO.out.2.2], by rw [HO.out.2.1, ← HA.out]; exact ⟨_, _, _, _, _, hj.2.2.2.1.less (by omega), hkN, rfl, by omega, rfl⟩, hj.1⟩
        · have HA2 := hid (show acc = usedKeep mn xs p by rw [← HA.out, List.take_of_length_le (by omega)])
          go_wp2
          refine wp_region_inv rfl (by kernel_rfl) (by kernel_rfl) (by simp) (fun _ w' => UJ w (fun W => OwnI W (w.heap.size + 2) (.slice ka kN kc) acc) (.slice a n c) mn w') (fun w' w'' => UF w (.slice ka kN kc) mn w' → UF w (.slice ka kN kc) mn w'') (fact (useF w (.slice ka kN kc) (.slice a n c) mn p (hasI xs p))) ?jj (fun i v w' w'' hS hf => useF_st i v w' w'' hS hf) ?oo ?fin
          case oo =>
            intro i o hi nn a' w4 hn hj hb hd
            obtain ⟨hlt, rfl⟩ := Array.getElem?_eq_some_iff.1 hi
            have hlt' : i < 10 := hlt
            clear hi
            obtain rfl | rfl | rfl | rfl | rfl | rfl | rfl | rfl | rfl | rfl : i = 0 ∨ i = 1 ∨ i = 2 ∨ i = 3 ∨ i = 4 ∨ i = 5 ∨ i = 6 ∨ i = 7 ∨ i = 8 ∨ i = 9 := by omega
            · have b2 : a'.eval (.tmp 2) = .pointer (some ⟨w.heap.size, 0, none⟩) := hb 2 (by rfl); have c2 := ev_get b2
              exact iv_val (v := .pointer (some ⟨w.heap.size, 0, none⟩)) (by simp [execOp, c2, go_sem, Result.andThen]) ⟨_, rfl, hj, id, rfl⟩
            · have v0 : a'.eval (.tmp 50) = .pointer (some ⟨w.heap.size, 0, none⟩) := hd ⟨0, .data⟩ (by simp) rfl; have u0 := ev_get v0
              obtain ⟨x0, x1, _, _⟩ := two_cells hj.2.1
              exact iv_val (v := .int .i64 mn) (by simp [execOp, u0, x0, go_sem, Result.andThen]) ⟨_, rfl, hj, id, rfl⟩
            · have b6 : a'.eval (.tmp 6) = .slice ka kN kc := hb 6 (by rfl); have c6 := ev_get b6
              exact iv_val (v := .slice ka kN kc) (by simp [execOp, b6]) ⟨_, rfl, hj, id, rfl⟩
            · have v1 : a'.eval (.tmp 51) = .int .i64 mn := hd ⟨1, .data⟩ (by simp) rfl; have u1 := ev_get v1
              have v2 : a'.eval (.tmp 52) = .slice ka kN kc := hd ⟨2, .data⟩ (by simp) rfl; have u2 := ev_get v2
              exact iv_val (v := .agg #[.int .i64 mn, .slice ka kN kc]) (by simp [execOp, u1, u2, go_sem, Result.andThen]) ⟨_, rfl, hj, id, rfl⟩
            · have b2 : a'.eval (.tmp 2) = .pointer (some ⟨w.heap.size, 0, none⟩) := hb 2 (by rfl); have c2 := ev_get b2
              exact iv_val (v := .pointer (some ⟨w.heap.size, 1, none⟩)) (by simp [execOp, c2, go_sem, Result.andThen]) ⟨_, rfl, hj, id, rfl⟩
            · have v4 : a'.eval (.tmp 54) = .pointer (some ⟨w.heap.size, 1, none⟩) := hd ⟨4, .data⟩ (by simp) rfl; have u4 := ev_get v4
              obtain ⟨x0, x1, _, _⟩ := two_cells hj.2.1
              exact iv_val (v := .slice a n c) (by simp [execOp, u4, x1, go_sem, Result.andThen]) ⟨_, rfl, hj, id, rfl⟩
            · have b1 : a'.eval (.tmp 1) = .int .i64 p := hb 1 (by rfl); have c1 := ev_get b1
              exact iv_val (v := .int .i64 p) (by simp [execOp, b1]) ⟨_, rfl, hj, id, rfl⟩
            · have v5 : a'.eval (.tmp 55) = .slice a n c := hd ⟨5, .data⟩ (by simp) rfl; have u5 := ev_get v5
              have v6 : a'.eval (.tmp 56) = .int .i64 p := hd ⟨6, .data⟩ (by simp) rfl; have u6 := ev_get v6
              refine iv_enter (f := 55) (args := #[.slice a n c, .int .i64 p]) (by simp [execOp, u5, u6, go_sem]) ?_
              refine (spec_l19Has_c _ xs p _ _ (h.below hj.1 (Nat.le_refl _))).mono ?_
              rintro e w5 ⟨rfl, rfl⟩
              exact ⟨_, rfl, _, rfl, hj, id, rfl⟩
            · have b4 : a'.eval (.tmp 4) = .pointer (some ⟨w.heap.size + 1, 0, none⟩) := hb 4 (by rfl); have c4 := ev_get b4
              have v3 : a'.eval (.tmp 53) = .agg #[.int .i64 mn, .slice ka kN kc] := hd ⟨3, .data⟩ (by simp) rfl; have u3 := ev_get v3
              obtain ⟨x, y, hxy⟩ := hj.2.2.1
              obtain ⟨x0, x1, g0, g1⟩ := two_cells hxy
              have x1' : (w4.setCell ⟨w.heap.size + 1, 0, none⟩ (.int .i64 mn)).cell? ⟨w.heap.size + 1, 1, none⟩ = some y := by rw [World.cell?_setCell_other _ _ _ _ (by simp)]; exact x1
              have g1' : (w4.setCell ⟨w.heap.size + 1, 0, none⟩ (.int .i64 mn)).frozen? ⟨w.heap.size + 1, 1, none⟩ = false := by simpa using g1
              exact iv_skip (w' := (w4.setCell ⟨w.heap.size + 1, 0, none⟩ (.int .i64 mn)).setCell ⟨w.heap.size + 1, 1, none⟩ (.slice ka kN kc)) (by simp [execOp, c4, u3, x0, x1', g0, g1', go_sem, Result.andThen]) ⟨undef, rfl, hj.store hxy, fun _ => UF.store hxy, (UF.store hxy : UF w (.slice ka kN kc) mn _)⟩
            · have v7 : a'.eval (.tmp 57) = .bool (hasI xs p) := hd ⟨7, .data⟩ (by simp) rfl; have u7 := ev_get v7
              exact iv_val (v := .bool (hasI xs p)) (by simp [execOp, v7]) ⟨_, rfl, hj, id, rfl⟩
          case jj => exact ⟨(bl_then c2 (hb.mono (by omega))).drew, r0, ⟨_, _, r1⟩, (hown.drewN 1).less (show w.heap.size + 2 ≤ w2.heap.size by omega), fun w1 w2 hg hk => Own.far hk hg (fun g hg => by simp at hg; omega)⟩
          case fin =>
            rintro ⟨tm, df⟩ w4 hj hsz hdf hb hF
            obtain rfl : df = [] := hdf
            have q9 : tm[5]?.getD undef = .bool (hasI xs p) := (Array.getD_eq_getD_getElem? ..).symm.trans (hF 9 _ rfl)
            have q4 : tm[4]?.getD undef = .pointer (some ⟨w.heap.size + 1, 0, none⟩) := (Array.getD_eq_getD_getElem? ..).symm.trans (hb 4 (by kernel_rfl))
            have hst : UF w (.slice ka kN kc) mn w4 := hF 8 _ rfl
            obtain ⟨s0, s1, _, _⟩ := two_cells hst
            go_wp2
            refine bodyPost_ret (v := .tuple #[cv mn (.slice ka kN kc), .bool (hasI xs p)]) (by simp [results, Try.results26, go_sem, q4, q9, s0, s1]; try rfl) rfl ?_
            exact ⟨_, by rw [HO.out.1, HO.out.2.2], by rw [HO.out.2.1, ← HA2.out]; exact OwnCut.of (hj.2.2.2.1.less (by omega)), hj.1⟩

end Go.Proofs.Ytnedkfmbeeodfaa
