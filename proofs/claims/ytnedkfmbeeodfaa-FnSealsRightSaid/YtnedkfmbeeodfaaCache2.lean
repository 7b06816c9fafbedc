/- Walks: used caches. -/
import Derived.Test.YtnedkfmbeeodfaaCache
import Derived.Test.YtnedkfmbeeodfaaInvR
namespace Go.Proofs.Ytnedkfmbeeodfaa
open Go.RowKit

theorem two_cells {w : World} {g : Nat} {t : TypeId} {x y : Value} (h : w.heap[g]? = some (.cells #[x, y] t (0, 0))) :
    w.cell? ⟨g, 0, none⟩ = some x ∧ w.cell? ⟨g, 1, none⟩ = some y ∧ w.frozen? ⟨g, 0, none⟩ = false ∧ w.frozen? ⟨g, 1, none⟩ = false := by
  refine ⟨?_, ?_, frozen_of_row _ _ _ _ _ h, frozen_of_row _ _ _ _ _ h⟩ <;> simp [World.cell?, h]
theorem set2 {w : World} {g : Nat} {x y x' y' : Value} (k0 : w.cell? ⟨g, 0, none⟩ = some x) (k1 : w.cell? ⟨g, 1, none⟩ = some y) :
    ((w.setCell ⟨g, 0, none⟩ x').setCell ⟨g, 1, none⟩ y').cell? ⟨g, 0, none⟩ = some x' ∧ ((w.setCell ⟨g, 0, none⟩ x').setCell ⟨g, 1, none⟩ y').cell? ⟨g, 1, none⟩ = some y' := by
  refine ⟨?_, ?_⟩
  · rw [World.cell?_setCell_other _ _ _ _ (by simp)]; exact World.cell?_setCell_same _ _ _ k0
  · exact World.cell?_setCell_same _ _ _ (u := y) (by rw [World.cell?_setCell_other _ _ _ _ (by simp)]; exact k1)
theorem first_heap (w : World) (o o' : Obj) : ((w.alloc o).alloc o').heap[w.heap.size]? = some o :=
  (Below.heap_alloc (w.alloc o) o' _ (by simp)).trans (heap_alloc_new w o)

theorem set2_heap {w : World} {g : Nat} {t : TypeId} {x y x' y' : Value} (h : w.heap[g]? = some (.cells #[x, y] t (0, 0))) :
    ((w.setCell ⟨g, 0, none⟩ x').setCell ⟨g, 1, none⟩ y').heap[g]? = some (.cells #[x', y'] t (0, 0)) := by
  simp [World.setCell, Array.getElem?_modify, h]
theorem gb_set2 (w : World) (g : Nat) (x y : Value) : w.grownBy ((w.setCell ⟨g, 0, none⟩ x).setCell ⟨g, 1, none⟩ y) (some g) :=
  ⟨rfl, rfl, rfl, by simp [World.setCell], fun k _ hne => (Below.heap_setCell _ _ _ _ (fun e => hne (by rw [e]))).trans (Below.heap_setCell _ _ _ _ (fun e => hne (by rw [e])))⟩

theorem iv_skip {P : Program} {o : Oper} {a : Act} {w w' : World} {K : Act → World → Prop} {Q : Exit → Act → World → Prop} (hr : (execOp a.eval o).run P w = .ok .skip w') (h : K (a.put o.dst undef) w') : o.wp P a w K Q := by
  unfold Oper.wp; rw [hr]; exact h

/-- Beside a result's cells that are being written: what came in, and what holds of the row that is kept. -/
def UJ (w : World) (K : World → Prop) (A : Value) (m : Int) (w' : World) : Prop :=
  Below w.heap.size w w' ∧ w'.heap[w.heap.size]? = some (.cells #[.int .i64 m, A] 27 (0, 0)) ∧ (∃ x y, w'.heap[w.heap.size + 1]? = some (.cells #[x, y] 27 (0, 0))) ∧ K w' ∧ ∀ w1 w2, w1.grownBy w2 (some (w.heap.size + 1)) → K w1 → K w2
def UF (w : World) (keep : Value) (m : Int) (w' : World) : Prop := w'.heap[w.heap.size + 1]? = some (.cells #[.int .i64 m, keep] 27 (0, 0))
def useF (w : World) (keep A : Value) (m p : Int) (b : Bool) : List (Value → World → Prop) :=
  [isV (.pointer (some ⟨w.heap.size, 0, none⟩)), isV (.int .i64 m), isV keep, isV (.agg #[.int .i64 m, keep]), isV (.pointer (some ⟨w.heap.size, 1, none⟩)), isV A, isV (.int .i64 p), isV (.bool b), fun _ w' => UF w keep m w', isV (.bool b)]

theorem UF.store {w w' : World} {keep : Value} {m : Int} {x y : Value} (h : w'.heap[w.heap.size + 1]? = some (.cells #[x, y] 27 (0, 0))) :
    UF w keep m ((w'.setCell ⟨w.heap.size + 1, 0, none⟩ (.int .i64 m)).setCell ⟨w.heap.size + 1, 1, none⟩ keep) := set2_heap h
theorem UJ.store {w w' : World} {K : World → Prop} {A keep : Value} {m : Int} (hj : UJ w K A m w') {x y : Value} (h : w'.heap[w.heap.size + 1]? = some (.cells #[x, y] 27 (0, 0))) :
    UJ w K A m ((w'.setCell ⟨w.heap.size + 1, 0, none⟩ (.int .i64 m)).setCell ⟨w.heap.size + 1, 1, none⟩ keep) := by
  obtain ⟨h1, h2, _, h4, h5⟩ := hj
  have hg := gb_set2 w' (w.heap.size + 1) (.int .i64 m) keep
  refine ⟨(h1.setCell (by simp) _).setCell (by simp) _, (hg.block _ (Array.getElem?_eq_some_iff.1 h2).1 (some_ne (by omega))).trans h2, ⟨_, _, set2_heap h⟩, h5 _ _ hg h4, h5⟩
theorem useF_st {w : World} {keep A : Value} {m p : Int} {b : Bool} (i : Nat) (v : Value) (w' w'' : World) (hS : UF w keep m w' → UF w keep m w'') (hf : fact (useF w keep A m p b) i v w') : fact (useF w keep A m p b) i v w'' := by
  have hi : i < 10 ∨ 10 ≤ i := by omega
  rcases hi with hi | hi
  · obtain rfl | rfl | rfl | rfl | rfl | rfl | rfl | rfl | rfl | rfl : i = 0 ∨ i = 1 ∨ i = 2 ∨ i = 3 ∨ i = 4 ∨ i = 5 ∨ i = 6 ∨ i = 7 ∨ i = 8 ∨ i = 9 := by omega
    all_goals first | exact hS hf | exact hf
  · unfold fact at *
    rw [List.getD_eq_getElem?_getD, List.getElem?_eq_none (by simpa [useF] using hi)]
    trivial

def UsePost (m : Int) (xs : List Int) (p : Int) (w : World) (e : Ending) (w' : World) : Prop :=
  ∃ v', e = .returned (.tuple #[cv (useMost m xs p) v', .bool (useHit m xs p)]) ∧ OwnI w' w.heap.size v' (useKeep m xs p) ∧ Below w.heap.size w w'

set_option maxHeartbeats 2000000 in
theorem impl_UseCache_c (m : Int) (v : Value) (xs : List Int) (p : Int) (w : World) (h : Ints w w.heap.size v xs) :
    Calls Try.prog 27 #[cv m v, .int .i64 p] w (UsePost m xs p w) := by
  obtain ⟨n, hn⟩ : ∃ n, xs.length = n := ⟨_, rfl⟩
  obtain ⟨a, c, rfl, h1, h2, h3⟩ := h.ints hn
  have HN := hid hn
  clear hn
  obtain ⟨W2, hW2⟩ : ∃ W2, W2 = ((w.alloc (.cells #[.int .i64 m, .slice a n c] 27)).alloc (.cells #[.int .i64 0, .slice none 0 0] 27)) := ⟨_, rfl⟩
  have hb0 : Below w.heap.size w W2 := by rw [hW2]; exact ((Below.refl _ _).alloc (Nat.le_refl _) _).alloc (by simp) _
  have hs2 : W2.heap.size = w.heap.size + 2 := by rw [hW2]; simp
  have hh0 : W2.heap[w.heap.size]? = some (.cells #[.int .i64 m, .slice a n c] 27 (0, 0)) := by rw [hW2]; exact first_heap _ _ _
  have hh1 : W2.heap[w.heap.size + 1]? = some (.cells #[.int .i64 0, .slice none 0 0] 27 (0, 0)) := by rw [hW2]; exact second_heap _ _ _
  have hsx := h.below hb0 (Nat.le_refl _)
  cases hok : useOk m xs p
  · have HO := hid (use_off hok)
    cases hc : cacheOk m xs
    all_goals
      first
      | (have hp : inB p 0 16777212 = false := (by simpa [useOk, hc] using hok))
      | skip
      go_enter Try.func27, Try.ntmps27
      go_wp2_with fail
      rw [← hW2]
      refine (impl_CacheValid_c m _ xs _ W2 hsx (by omega)).mono ?_
      rw [hc]
      rintro e w2 ⟨rfl, b2⟩
      have hg1 := (b2.block (w.heap.size + 1) (by omega)).trans hh1
      have hg0 := (b2.block (w.heap.size) (by omega)).trans hh0
      obtain ⟨k0, k1, f0, f1⟩ := two_cells hg1
      have c2 := bl_then hb0 (b2.mono (by omega))
      go_wp2_with (go_at_call 56; refine (impl_printValid_c _ _).mono ?_; rintro e w' ⟨rfl, rfl⟩)
      obtain ⟨q0, q1⟩ := set2 (x' := .int .i64 0) (y' := .slice none 0 0) k0 k1
      refine bodyPost_ret (v := .tuple #[cv 0 (.slice none 0 0), .bool false]) (by simp [results, Try.results27, go_sem, q0, q1]; try rfl) rfl ?_
      exact ⟨_, by rw [HO.out.1, HO.out.2.2], by rw [HO.out.2.1]; exact Own.nil_, (c2.setCell (by simp) _).setCell (by simp) _⟩
  · have HO := hid (use_on hok)
    obtain ⟨hc, hp⟩ := use_on_in hok
    obtain ⟨m1, m8, m3, _, _⟩ := cacheOk_in hc
    have HOK := hid hok
    clear hok
    have hp' : inB p 0 16777212 = true := hp
    go_enter Try.func27, Try.ntmps27
    go_wp2_with fail
    rw [← hW2]
    refine (impl_CacheValid_c m _ xs _ W2 hsx (by omega)).mono ?_
    rw [hc]
    rintro e w2 ⟨rfl, b2⟩
    have hg1 := (b2.block (w.heap.size + 1) (by omega)).trans hh1
    have hg0 := (b2.block (w.heap.size) (by omega)).trans hh0
    have c2 := bl_then hb0 (b2.mono (by omega))
    have hs3 := b2.size
    have z0 : w.heap.size < w2.heap.size := by omega
    have z1 : w.heap.size + 1 < w2.heap.size := by omega
    have hsx2 := hsx.below b2 (by omega)
    obtain ⟨_, _, _, _⟩ := two_cells hg0
    have hlit : OwnI (w2.alloc (.cells #[.int .i64 p] 3)) w2.heap.size (.slice (some ⟨w2.heap.size, 0, none⟩) 1 1) [p] := Own.lit (enc := encI) (e := 3) (k := 1) w2 (B := w2.heap.size) (Nat.le_refl _) [p] #[.int .i64 p] 1 rfl rfl rfl (by simp [maxLen])
    have hal : Below w2.heap.size w2 (w2.alloc (.cells #[.int .i64 p] 3)) := (Below.refl _ _).alloc (Nat.le_refl _) _
    go_wp2_with (go_at_call 56; refine (impl_printValid_c _ _).mono ?_; rintro e w' ⟨rfl, rfl⟩)
    go_loopw [6, 23] (fun out i wr => ∃ (k : Nat) (acc : List Int), k ≤ n ∧ i = .int .i64 k ∧ OwnI wr w2.heap.size out acc ∧ Hid (acc = usedKeep m (xs.take k) p) ∧ acc.length ≤ 8 ∧ Below w2.heap.size w2 wr) (fun _ i _ => n - (intOf i).toNat)
    case atStart => exact ⟨0, _, Nat.zero_le _, rfl, hlit, (used_zero m1 _).symm, by simp, hal⟩
    case round =>
      obtain ⟨k, acc, hk, rfl, hown, hacc, hlen, hb⟩ := hrel
      clear hlit hal
      have hB := hb.size
      have r0 := (hb.block (w.heap.size) (by omega)).trans hg0
      have r1 := (hb.block (w.heap.size + 1) (by omega)).trans hg1
      obtain ⟨x0, x1, _, _⟩ := two_cells r0
      by_cases hlt : k < n
      · obtain ⟨b, o, x, rfl, hbl, hx, hc'⟩ := h3 k hlt
        have hcx : wr.cell? ⟨b, o + k, none⟩ = some (.int .i64 x) := ((bl_then c2 (hb.mono (by omega))).cell (p := ⟨b, o + k, none⟩) hbl).trans hc'
        clear h3 hc'
        obtain ⟨ln, hln⟩ : ∃ ln, acc.length = ln := ⟨_, rfl⟩
        obtain ⟨oa, oc, rfl, _, _, _⟩ := (Rd.of_own hown).ints hln
        have HLN := hid hln
        rw [hln] at hlen
        clear hln
        by_cases hxp : x = p
        · have hu := hid (used_succ_eq (m := m) hx.out hxp)
          have hbf : (x != p) = false := by simp [hxp]
          clear hxp
          go_wp2
          go_roundw
          case rel => exact ⟨k + 1, _, by omega, by go_num, hown, by unfold Hid; rw [hu.out]; exact hacc.out, by rw [HLN.out]; exact hlen, hb⟩
          case measure => simp [intOf]; omega
        · have hbf : (x != p) = true := by simp [hxp]
          by_cases hfull : (ln : Int) < m
          · have hu := hid (used_succ_lt hx.out hxp (m := m) (by rw [← hacc.out, HLN.out]; exact hfull))
            clear hxp
            go_wp2_with (at_builtin; refine push_int (w0 := w2) rfl _ _ rfl _ _ _ _ _ hown hb hB (Nat.le_refl _) rfl rfl (by rw [HLN.out]; omega) ?_; intro v' w' hown' hb' hB' _)
            go_roundw
            case rel => exact ⟨k + 1, _, by omega, by go_num, hown', by unfold Hid; rw [hu.out, hacc.out], by have := HLN.out; simp; omega, hb'⟩
            case measure => simp [intOf]; omega
          · have hu := hid (used_succ_full hx.out hxp (m := m) (by rw [← hacc.out, HLN.out]; exact hfull))
            clear hxp
            go_wp2
            go_roundw
            case rel => exact ⟨k + 1, _, by omega, by go_num, hown, by unfold Hid; rw [hu.out]; exact hacc.out, by rw [HLN.out]; exact hlen, hb⟩
            case measure => simp [intOf]; omega
      · have hacc' := hacc.out
        rw [take_all HN.out (show n ≤ k by omega)] at hacc'
        have HA := hid hacc'
        clear hacc' hacc h3
        obtain ⟨y0, y1, f0, f1⟩ := two_cells r1
        obtain ⟨kn, hkn⟩ : ∃ kn, acc.length = kn := ⟨_, rfl⟩
        obtain ⟨ka, kc, rfl, _, _, _⟩ := (Rd.of_own hown).ints hkn
        go_wp2
        refine wp_region_inv rfl (by kernel_rfl) (by kernel_rfl) (by simp) (fun _ w' => UJ w (fun W => OwnI W (w.heap.size + 2) (.slice ka kn kc) acc) (.slice a n c) m w') (fun w' w'' => UF w (.slice ka kn kc) m w' → UF w (.slice ka kn kc) m w'') (fact (useF w (.slice ka kn kc) (.slice a n c) m p (hasI xs p))) ?jj (fun i v w' w'' hS hf => useF_st i v w' w'' hS hf) ?oo ?fin
        case oo =>
          intro i o hi nn a' w4 hn hj hb hd
          obtain ⟨hlt, rfl⟩ := Array.getElem?_eq_some_iff.1 hi
          have hlt' : i < 10 := hlt
          clear hi
          obtain rfl | rfl | rfl | rfl | rfl | rfl | rfl | rfl | rfl | rfl : i = 0 ∨ i = 1 ∨ i = 2 ∨ i = 3 ∨ i = 4 ∨ i = 5 ∨ i = 6 ∨ i = 7 ∨ i = 8 ∨ i = 9 := by omega
          · have b2 : a'.eval (.tmp 2) = .pointer (some ⟨w.heap.size, 0, none⟩) := hb 2 (by rfl); have c2 := ev_get b2
            exact iv_val (v := .pointer (some ⟨w.heap.size, 0, none⟩)) (by simp [execOp, c2, go_sem, Result.andThen]) ⟨_, rfl, hj, id, rfl⟩
          · have v0 : a'.eval (.tmp 42) = .pointer (some ⟨w.heap.size, 0, none⟩) := hd ⟨0, .data⟩ (by simp) rfl; have u0 := ev_get v0
            obtain ⟨x0, x1, _, _⟩ := two_cells hj.2.1
            exact iv_val (v := .int .i64 m) (by simp [execOp, u0, x0, go_sem, Result.andThen]) ⟨_, rfl, hj, id, rfl⟩
          · have b6 : a'.eval (.tmp 6) = .slice ka kn kc := hb 6 (by rfl); have c6 := ev_get b6
            exact iv_val (v := .slice ka kn kc) (by simp [execOp, b6]) ⟨_, rfl, hj, id, rfl⟩
          · have v1 : a'.eval (.tmp 43) = .int .i64 m := hd ⟨1, .data⟩ (by simp) rfl; have u1 := ev_get v1
            have v2 : a'.eval (.tmp 44) = .slice ka kn kc := hd ⟨2, .data⟩ (by simp) rfl; have u2 := ev_get v2
            exact iv_val (v := .agg #[.int .i64 m, .slice ka kn kc]) (by simp [execOp, u1, u2, go_sem, Result.andThen]) ⟨_, rfl, hj, id, rfl⟩
          · have b2 : a'.eval (.tmp 2) = .pointer (some ⟨w.heap.size, 0, none⟩) := hb 2 (by rfl); have c2 := ev_get b2
            exact iv_val (v := .pointer (some ⟨w.heap.size, 1, none⟩)) (by simp [execOp, c2, go_sem, Result.andThen]) ⟨_, rfl, hj, id, rfl⟩
          · have v4 : a'.eval (.tmp 46) = .pointer (some ⟨w.heap.size, 1, none⟩) := hd ⟨4, .data⟩ (by simp) rfl; have u4 := ev_get v4
            obtain ⟨x0, x1, _, _⟩ := two_cells hj.2.1
            exact iv_val (v := .slice a n c) (by simp [execOp, u4, x1, go_sem, Result.andThen]) ⟨_, rfl, hj, id, rfl⟩
          · have b1 : a'.eval (.tmp 1) = .int .i64 p := hb 1 (by rfl); have c1 := ev_get b1
            exact iv_val (v := .int .i64 p) (by simp [execOp, b1]) ⟨_, rfl, hj, id, rfl⟩
          · have v5 : a'.eval (.tmp 47) = .slice a n c := hd ⟨5, .data⟩ (by simp) rfl; have u5 := ev_get v5
            have v6 : a'.eval (.tmp 48) = .int .i64 p := hd ⟨6, .data⟩ (by simp) rfl; have u6 := ev_get v6
            refine iv_enter (f := 57) (args := #[.slice a n c, .int .i64 p]) (by simp [execOp, u5, u6, go_sem]) ?_
            refine (slices_Contains_c _ xs p _ _ (h.below hj.1 (Nat.le_refl _))).mono ?_
            rintro e w5 ⟨rfl, rfl⟩
            exact ⟨_, rfl, _, rfl, hj, id, rfl⟩
          · have b4 : a'.eval (.tmp 4) = .pointer (some ⟨w.heap.size + 1, 0, none⟩) := hb 4 (by rfl); have c4 := ev_get b4
            have v3 : a'.eval (.tmp 45) = .agg #[.int .i64 m, .slice ka kn kc] := hd ⟨3, .data⟩ (by simp) rfl; have u3 := ev_get v3
            obtain ⟨x, y, hxy⟩ := hj.2.2.1
            obtain ⟨x0, x1, g0, g1⟩ := two_cells hxy
            have x1' : (w4.setCell ⟨w.heap.size + 1, 0, none⟩ (.int .i64 m)).cell? ⟨w.heap.size + 1, 1, none⟩ = some y := by rw [World.cell?_setCell_other _ _ _ _ (by simp)]; exact x1
            have g1' : (w4.setCell ⟨w.heap.size + 1, 0, none⟩ (.int .i64 m)).frozen? ⟨w.heap.size + 1, 1, none⟩ = false := by simpa using g1
            exact iv_skip (w' := (w4.setCell ⟨w.heap.size + 1, 0, none⟩ (.int .i64 m)).setCell ⟨w.heap.size + 1, 1, none⟩ (.slice ka kn kc)) (by simp [execOp, c4, u3, x0, x1', g0, g1', go_sem, Result.andThen]) ⟨undef, rfl, hj.store hxy, fun _ => UF.store hxy, (UF.store hxy : UF w (.slice ka kn kc) m _)⟩
          · have v7 : a'.eval (.tmp 49) = .bool (hasI xs p) := hd ⟨7, .data⟩ (by simp) rfl; have u7 := ev_get v7
            exact iv_val (v := .bool (hasI xs p)) (by simp [execOp, v7]) ⟨_, rfl, hj, id, rfl⟩
        case jj => exact ⟨(bl_then c2 (hb.mono (by omega))).drew, r0, ⟨_, _, r1⟩, (hown.drewN 1).less (show w.heap.size + 2 ≤ w2.heap.size by omega), fun w1 w2 hg hk => Own.far hk hg (fun g hg => by simp at hg; omega)⟩
        case fin =>
          rintro ⟨tm, df⟩ w4 hj hsz hdf hb hF
          obtain rfl : df = [] := hdf
          have q9 : tm[5]?.getD undef = .bool (hasI xs p) := (Array.getD_eq_getD_getElem? ..).symm.trans (hF 9 _ rfl)
          have q4 : tm[4]?.getD undef = .pointer (some ⟨w.heap.size + 1, 0, none⟩) := (Array.getD_eq_getD_getElem? ..).symm.trans (hb 4 (by kernel_rfl))
          have hst : UF w (.slice ka kn kc) m w4 := hF 8 _ rfl
          obtain ⟨s0, s1, _, _⟩ := two_cells hst
          go_wp2
          refine bodyPost_ret (v := .tuple #[cv m (.slice ka kn kc), .bool (hasI xs p)]) (by simp [results, Try.results27, go_sem, q4, q9, s0, s1]; try rfl) rfl ?_
          exact ⟨_, by rw [HO.out.1, HO.out.2.2], by rw [HO.out.2.1, ← HA.out]; exact hj.2.2.2.1.less (by omega), hj.1⟩

end Go.Proofs.Ytnedkfmbeeodfaa
