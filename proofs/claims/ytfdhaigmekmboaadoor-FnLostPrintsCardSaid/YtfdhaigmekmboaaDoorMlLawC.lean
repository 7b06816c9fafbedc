/- Walks: the laws on tops and on missing prints. -/
import Derived.Test.YtfdhaigmekmboaaDoorMg1
import Derived.Test.YtfdhaigmekmboaaDoorMg2
import Derived.Test.YtfdhaigmekmboaaDoorMg4
import Derived.Test.YtfdhaigmekmboaaDoorMg6
import Derived.Test.YtfdhaigmekmboaaDoorMg7
import Derived.Test.YtfdhaigmekmboaaDoorMg8
import Derived.Test.YtfdhaigmekmboaaDoorMg9
namespace Go.Proofs.YtfdhaigmekmboaaDoor
open Go.RowKit

theorem DrawnH.sizes' {l : List Pc} (h : DrawnH l) : (∀ x ∈ l, x.text.size ≤ 1048576) ∧ l.length ≤ 1048576 := ⟨fun x hx => by have := h.2.1 x hx; omega, by have := h.1; omega⟩
theorem tops_off {l : List Pc} (h : storeOk l = false) : topsOf l = [] := by unfold topsOf; rw [countsOf_off h]; rfl

set_option maxHeartbeats 2000000 in
set_option maxRecDepth 100000 in
theorem laws_FnTopPrints_c (v : Value) (l : List Int) (w : World) (h : Rd encU 1 w w.heap.size v l) (hl : ∀ x ∈ l, 0 ≤ x ∧ x ≤ 255) (hg : Glob w) :
    Calls Tryd.prog 5 #[v] w fun e w' => e = .returned (.bool true) ∧ Below w.heap.size w w' := by
  obtain ⟨n0, hn0⟩ : ∃ n, l.length = n := ⟨_, rfl⟩
  obtain ⟨a, c, rfl, _, _, _⟩ := Rd.openN h (fun _ => rfl) hn0
  have HG := hid hg
  clear hg
  by_cases hbig : 1048576 < n0
  · go_enter Tryd.func5, Tryd.ntmps5
    go_wp2
    go_ret
    exact ⟨rfl, Below.refl _ _⟩
  go_enter Tryd.func5, Tryd.ntmps5
  go_wp2_with fail
  refine (spec_DrawTopPrints_c _ l w h hl).mono ?_
  rintro e w1 ⟨sv, xs, rfl, o1, hd, b1⟩
  clear h hl hn0
  obtain ⟨n, hn⟩ : ∃ n, xs.length = n := ⟨_, rfl⟩
  obtain ⟨xa, xc, rfl, _, _, _⟩ := (Rd.of_own o1).pcs hn
  have HN := hid hn
  have HD := hid hd
  have HX := hid (Rd.of_own o1)
  obtain ⟨ts, hts⟩ : ∃ ts, topsOf xs = ts := ⟨_, rfl⟩
  have HTS := hid hts
  obtain ⟨q, hq⟩ : ∃ q, ts.length = q := ⟨_, rfl⟩
  have HQ := hid hq
  have hqn : q ≤ n := by rw [← hq, ← hts, ← hn]; exact topsOf_le
  have hq40 : q ≤ 40 := by rw [← hq, ← hts]; exact topsOf_len
  clear o1 hn hd hts hq
  go_wp2_with fail
  refine (impl_TopPrints_c _ xs _ HX.out HD.out.sizes'.1 HD.out.sizes'.2 (HG.out.on b1)).mono ?_
  rw [HTS.out]
  rintro e w2 ⟨tv, rfl, t2, b2⟩
  obtain ⟨ta, tc, rfl, _, _, _⟩ := (Rd.of_own t2).ints HQ.out
  have d2 := bl_then b1 b2
  have X2 := hid (HX.out.on b2)
  have T2 := hid (Rd.of_own t2)
  clear t2 b2 HX
  go_wp2_with fail
  refine (spec_TopPrints_c _ xs _ X2.out HD.out.sizes'.1 HD.out.sizes'.2).mono ?_
  rw [HTS.out]
  rintro e w3 ⟨tv', rfl, t3, b3⟩
  have d3 := bl_then d2 b3
  have X3 := hid (X2.out.on b3)
  have T3 := hid (T2.out.on b3)
  have U3 := hid (Rd.of_own t3)
  clear t3 b3 X2 T2 d2
  go_wp2_with fail
  refine (laws_sameInts_s _ _ ts _ _ _ T3.out U3.out).mono ?_
  rintro e w4 ⟨rfl, z4, rfl⟩
  have d4 := bl_drewN d3 z4
  have X4 := hid (X3.out.drewN z4)
  have T4 := hid (T3.out.drewN z4)
  clear X3 T3 U3 d3
  go_wp2_with fail
  refine (impl_StoreValid_c _ xs _ X4.out).mono ?_
  rintro e w5 ⟨rfl, b5⟩
  have d5 := bl_then d4 b5
  have X5 := hid (X4.out.on b5)
  have T5 := hid (T4.out.on b5)
  clear X4 T4 d4 b5
  cases hok : storeOk xs
  · obtain rfl : q = 0 := by rw [← HQ.out, ← HTS.out, tops_off hok]; rfl
    clear hok
    go_wp2_with (go_at_call 12; refine (laws_alive_c _).mono ?_; rintro e w7 ⟨rfl, rfl⟩)
    go_ret
    exact ⟨rfl, d5⟩
  · have HL := hid (show lostOf xs ts = [] by rw [← HTS.out]; exact lost_none (tops_reach hok (HD.out.acy hok)))
    have hqn' : (q : Int) ≤ n := by omega
    clear hok
    go_wp2_with fail
    refine (impl_LostPrints_e _ _ xs ts _ HL.out _ X5.out T5.out (by rw [HQ.out]; omega) (HG.out.on d5)).mono ?_
    rintro e w6 ⟨lv, rfl, l6, b6⟩
    obtain ⟨la, lc, rfl, _, _, _⟩ := (Rd.of_own l6).ints (n := 0) rfl
    have d6 := bl_then d5 b6
    clear l6 b6
    go_wp2
    go_ret
    exact ⟨rfl, d6⟩

theorem allV_same {L : List (Value → World → Prop)} (h : ∀ f ∈ L, ∃ v, f = isV v) (i : Nat) (v : Value) (w w' : World) (hf : fact L i v w) : fact L i v w' := by
  unfold fact at *
  rw [List.getD_eq_getElem?_getD] at *
  cases hL : L[i]? with
  | none => simp only [Option.getD_none]
  | some f =>
    obtain ⟨x, rfl⟩ := h f (List.mem_of_getElem? hL)
    rw [hL] at hf
    exact hf

set_option maxHeartbeats 2000000 in
set_option maxRecDepth 100000 in
theorem laws_FnMissingPrints_c (v : Value) (l : List Int) (w : World) (h : Rd encU 1 w w.heap.size v l) (hl : ∀ x ∈ l, 0 ≤ x ∧ x ≤ 255) (hg : Glob w) :
    Calls Tryd.prog 4 #[v] w fun e w' => e = .returned (.bool true) ∧ Below w.heap.size w w' := by
  obtain ⟨n0, hn0⟩ : ∃ n, l.length = n := ⟨_, rfl⟩
  obtain ⟨a, c, rfl, _, _, _⟩ := Rd.openN h (fun _ => rfl) hn0
  have HG := hid hg
  clear hg
  by_cases hbig : 1048576 < n0
  · go_enter Tryd.func4, Tryd.ntmps4
    go_wp2
    go_ret
    exact ⟨rfl, Below.refl _ _⟩
  go_enter Tryd.func4, Tryd.ntmps4
  go_wp2_with fail
  refine (spec_DrawMissingPrints_c _ l w h hl).mono ?_
  rintro e w1 ⟨sv, xs, rfl, o1, hd, b1⟩
  clear h hl hn0
  obtain ⟨n, hn⟩ : ∃ n, xs.length = n := ⟨_, rfl⟩
  obtain ⟨xa, xc, rfl, _, _, _⟩ := (Rd.of_own o1).pcs hn
  have HN := hid hn
  have HD := hid hd
  have HX := hid (Rd.of_own o1)
  obtain ⟨ts, hts⟩ : ∃ ts, missingOf xs = ts := ⟨_, rfl⟩
  have HTS := hid hts
  obtain ⟨q, hq⟩ : ∃ q, ts.length = q := ⟨_, rfl⟩
  have HQ := hid hq
  have hq20 : q ≤ 1048576 := by rw [← hq, ← hts]; have := missingOf_len (l := xs); omega
  clear o1 hn hd hts hq
  go_wp2_with fail
  refine (impl_MissingPrints_c _ xs _ HX.out HD.out.sizes'.1 HD.out.sizes'.2 (HG.out.on b1)).mono ?_
  rw [HTS.out]
  rintro e w2 ⟨tv, rfl, t2, b2⟩
  obtain ⟨ta, tc, rfl, _, _, _⟩ := (Rd.of_own t2).ints HQ.out
  have d2 := bl_then b1 b2
  have X2 := hid (HX.out.on b2)
  have T2 := hid (Rd.of_own t2)
  clear t2 b2 HX
  go_wp2_with fail
  refine (spec_MissingPrints_c _ xs _ X2.out HD.out.sizes'.1 HD.out.sizes'.2).mono ?_
  rw [HTS.out]
  rintro e w3 ⟨tv', rfl, t3, b3⟩
  have d3 := bl_then d2 b3
  have X3 := hid (X2.out.on b3)
  have T3 := hid (T2.out.on b3)
  have U3 := hid (Rd.of_own t3)
  clear t3 b3 X2 T2 d2
  go_wp2_with fail
  refine (laws_sameInts_s _ _ ts _ _ _ T3.out U3.out).mono ?_
  rintro e w4 ⟨rfl, z4, rfl⟩
  obtain ⟨w5, hw5⟩ : ∃ w5, w5 = w3.drewN z4 := ⟨_, rfl⟩
  have d5 : Below w.heap.size w w5 := by rw [hw5]; exact bl_drewN d3 z4
  have X5 : Hid (Pcs w5 w5.heap.size (.slice xa n xc) xs) := by rw [hw5]; exact X3.out.drewN z4
  have T5 : Hid (Ints w5 w5.heap.size (.slice ta q tc) ts) := by rw [hw5]; exact T3.out.drewN z4
  rw [← hw5]
  have hT5 : ∀ i, i < q → ∃ b o x, ta = some ⟨b, o, none⟩ ∧ b < w5.heap.size ∧ Hid (ts[i]? = some x) ∧ w5.cell? ⟨b, o + i, none⟩ = some (.int .i64 x) := by
    obtain ⟨a', c', hv', _, _, h3'⟩ := T5.out.ints HQ.out
    simp only [Value.slice.injEq] at hv'
    obtain ⟨rfl, _, rfl⟩ := hv'
    exact h3'
  have HT5 := hid hT5
  have HTC := hid (show q ≤ tc by
    obtain ⟨a', c', hv', _, h2', _⟩ := T5.out.ints HQ.out
    simp only [Value.slice.injEq] at hv'
    obtain ⟨_, _, rfl⟩ := hv'
    omega)
  clear X3 T3 U3 d3 hw5 hT5
  go_wp2
  go_loopw [5, 6, 7] (fun kv _ _ wr => ∃ k : Nat, k ≤ q ∧ kv = .int .i64 k ∧ Below w5.heap.size w5 wr) (fun kv _ _ _ => q - (intOf kv).toNat)
  case atStart => exact ⟨0, Nat.zero_le _, rfl, Below.refl _ _⟩
  case round =>
    obtain ⟨k, hk, rfl, hb⟩ := hrel
    have X6 := hid (X5.out.on hb)
    by_cases hlt : k < q
    · obtain ⟨b, o, x, rfl, hbl, hx, k0⟩ := HT5.out k hlt
      have k1 := (hb.cell (p := ⟨b, o + k, none⟩) hbl).trans k0
      have HB := hid hbl
      have HK0 := hid k0
      have hkm : (k : Int) < q := by omega
      have HP := hid (show hasP xs x = false by
        have hm := List.mem_of_getElem? hx.out
        rw [← HTS.out] at hm
        exact missing_hasP hm)
      have HT := hid (show getText xs x = (ByteArray.empty, false) by
        cases hok : storeOk xs
        · exact getText_off hok x
        · rw [getText_on hok x, HP.out]
          have := HP.out
          unfold hasP at this
          cases hg : getP xs x with
          | none => rfl
          | some u => rw [hg] at this; simp at this)
      have HH := hid (show hasI (ts.take k) x = false by
        have := hx.out
        rw [← HTS.out] at this ⊢
        exact missing_once this)
      clear k0
      go_wp2_with fail
      refine (impl_GetText_c _ xs x _ X6.out).mono ?_
      rw [HT.out]
      rintro e w7 ⟨rfl, b7⟩
      have hb7 := bl_then hb b7
      have k7 := (hb7.cell (p := ⟨b, o + k, none⟩) HB.out).trans HK0.out
      have T7 := hid (Rd.front (T5.out.on hb7) (k := k) (by omega))
      have htc : k ≤ tc := by have := HTC.out; omega
      have htc' : (k : Int) ≤ tc := by omega
      clear b7 k1
      have hb8 : b < w7.heap.size := by have := HB.out; have := hb7.size; omega
      clear HP HT
      go_wp2
      refine wp_region_inv3g rfl (by kernel_rfl) (by kernel_rfl) (by kernel_rfl) (by kernel_rfl) (by simp) (fun _ w' => Below w7.heap.size w7 w') (fun _ _ => True) (fact [isV (.bool false), isV (.bool false), isV (.slice (some ⟨b, o, none⟩) q tc), isV (.int .i64 k), isV (.slice (some ⟨b, o, none⟩) k tc), isV (.slice (some ⟨b, o, none⟩) q tc), isV (.int .i64 k), isV (.pointer (some ⟨b, o + k, none⟩)), isV (.int .i64 x), isV (.bool false), isV (.bool false)]) (Below.refl _ _).drew (fun i v w' w'' _ hf => allV_same (by simp only [List.mem_cons, List.not_mem_nil, or_false, forall_eq_or_imp, forall_eq]; exact ⟨⟨_, rfl⟩, ⟨_, rfl⟩, ⟨_, rfl⟩, ⟨_, rfl⟩, ⟨_, rfl⟩, ⟨_, rfl⟩, ⟨_, rfl⟩, ⟨_, rfl⟩, ⟨_, rfl⟩, ⟨_, rfl⟩, ⟨_, rfl⟩⟩) i v w' w'' hf) ?grd ?oo ?fin
      case grd =>
        intro i oo d bb hi hg v w' hf
        obtain ⟨hlt1, rfl⟩ := Array.getElem?_eq_some_iff.1 hi
        have hlt' : i < 11 := hlt1
        clear hi
        obtain rfl | rfl | rfl | rfl | rfl | rfl | rfl | rfl | rfl | rfl | rfl : i = 0 ∨ i = 1 ∨ i = 2 ∨ i = 3 ∨ i = 4 ∨ i = 5 ∨ i = 6 ∨ i = 7 ∨ i = 8 ∨ i = 9 ∨ i = 10 := by omega
        all_goals first | (simp at hg; done) | (simp at hg; obtain ⟨rfl, rfl⟩ := hg; exact hf)
      case oo =>
        intro i oo hi qn a' wk hnn hj hb' hd
        obtain ⟨hlt1, rfl⟩ := Array.getElem?_eq_some_iff.1 hi
        have hlt' : i < 11 := hlt1
        clear hi
        obtain rfl | rfl | rfl | rfl | rfl | rfl | rfl | rfl | rfl | rfl | rfl : i = 0 ∨ i = 1 ∨ i = 2 ∨ i = 3 ∨ i = 4 ∨ i = 5 ∨ i = 6 ∨ i = 7 ∨ i = 8 ∨ i = 9 ∨ i = 10 := by omega
        · have b7 : a'.eval (.tmp 7) = .bool false := hb' 7 (by kernel_rfl); have c7 := ev_get b7
          exact iv_val (v := .bool false) (by simp [execOp, b7]) ⟨_, rfl, hj, trivial, rfl⟩
        · have v0 : a'.eval (.tmp 35) = .bool false := hd ⟨0, .data⟩ (by simp) rfl; have u0 := ev_get v0
          exact iv_val (v := .bool false) (by simp [execOp, v0]) ⟨_, rfl, hj, trivial, rfl⟩
        · have b4 : a'.eval (.tmp 4) = .slice (some ⟨b, o, none⟩) q tc := hb' 4 (by kernel_rfl); have c4 := ev_get b4
          exact iv_val (v := .slice (some ⟨b, o, none⟩) q tc) (by simp [execOp, b4]) ⟨_, rfl, hj, trivial, rfl⟩
        · have b5 : a'.eval (.tmp 5) = .int .i64 k := hb' 5 (by kernel_rfl); have c5 := ev_get b5
          exact iv_val (v := .int .i64 k) (by simp [execOp, b5]) ⟨_, rfl, hj, trivial, rfl⟩
        · have v2 : a'.eval (.tmp 37) = .slice (some ⟨b, o, none⟩) q tc := hd ⟨2, .data⟩ (by simp) rfl; have u2 := ev_get v2
          have v3 : a'.eval (.tmp 38) = .int .i64 k := hd ⟨3, .data⟩ (by simp) rfl; have u3 := ev_get v3
          exact iv_val (v := .slice (some ⟨b, o, none⟩) k tc) (by simp [execOp, u2, u3, htc', go_sem, Result.andThen]) ⟨_, rfl, hj, trivial, rfl⟩
        · have b4 : a'.eval (.tmp 4) = .slice (some ⟨b, o, none⟩) q tc := hb' 4 (by kernel_rfl); have c4 := ev_get b4
          exact iv_val (v := .slice (some ⟨b, o, none⟩) q tc) (by simp [execOp, b4]) ⟨_, rfl, hj, trivial, rfl⟩
        · have b5 : a'.eval (.tmp 5) = .int .i64 k := hb' 5 (by kernel_rfl); have c5 := ev_get b5
          exact iv_val (v := .int .i64 k) (by simp [execOp, b5]) ⟨_, rfl, hj, trivial, rfl⟩
        · have v5 : a'.eval (.tmp 40) = .slice (some ⟨b, o, none⟩) q tc := hd ⟨5, .data⟩ (by simp) rfl; have u5 := ev_get v5
          have v6 : a'.eval (.tmp 41) = .int .i64 k := hd ⟨6, .data⟩ (by simp) rfl; have u6 := ev_get v6
          exact iv_val (v := .pointer (some ⟨b, o + k, none⟩)) (by simp [execOp, u5, u6, hkm, go_sem, Result.andThen]) ⟨_, rfl, hj, trivial, rfl⟩
        · have v7 : a'.eval (.tmp 42) = .pointer (some ⟨b, o + k, none⟩) := hd ⟨7, .data⟩ (by simp) rfl; have u7 := ev_get v7
          have ck := (hj.cell (p := ⟨b, o + k, none⟩) hb8).trans k7
          exact iv_val (v := .int .i64 x) (by simp [execOp, u7, ck, go_sem, Result.andThen]) ⟨_, rfl, hj, trivial, rfl⟩
        · have v4 : a'.eval (.tmp 39) = .slice (some ⟨b, o, none⟩) k tc := hd ⟨4, .data⟩ (by simp) rfl; have u4 := ev_get v4
          have v8 : a'.eval (.tmp 43) = .int .i64 x := hd ⟨8, .data⟩ (by simp) rfl; have u8 := ev_get v8
          refine iv_enter (f := 15) (args := #[.slice (some ⟨b, o, none⟩) k tc, .int .i64 x]) (by simp [execOp, u4, u8, go_sem]) ?_
          refine (laws_hasInt_c _ (ts.take k) x _ _ (Rd.on T7.out hj)).mono ?_
          rw [HH.out]
          rintro e w8 ⟨rfl, rfl⟩
          exact ⟨_, rfl, _, rfl, hj, trivial, rfl⟩
        · have v1 : a'.eval (.tmp 36) = .bool false := hd ⟨1, .data⟩ (by simp) rfl; have u1 := ev_get v1
          have v9 : a'.eval (.tmp 44) = .bool false := hd ⟨9, .data⟩ (by simp) rfl; have u9 := ev_get v9
          exact iv_val (v := .bool false) (by simp [execOp, u1, u9, go_sem]) ⟨_, rfl, hj, trivial, rfl⟩
      case fin =>
        intro tm w20 hj hF
        have q45 : tm.getD 45 undef = .bool false := hF 10 _ rfl
        have hb20 := bl_then hb7 hj
        clear hF
        simp only [refillL, List.setIfInBounds_toArray, List.set_cons_succ, List.set_cons_zero]
        rw [q45]
        go_wp2
        go_roundw
        case rel => exact ⟨k + 1, by omega, by go_num, hb20⟩
        case measure => simp [intOf]; omega
    · have HW := hid (show wantedOf xs ts = ts by rw [← HTS.out]; exact missing_want xs)
      have d6 := bl_then d5 hb
      have T6 := hid (T5.out.on hb)
      go_wp2_with fail
      refine (impl_WantedOf_c _ _ xs ts _ X6.out T6.out (by rw [HQ.out]; omega)).mono ?_
      rw [HW.out]
      rintro e w7 ⟨wv, rfl, v7, b7⟩
      have d7 := bl_then d6 b7
      have T7 := hid (T6.out.on b7)
      have W7 := hid (Rd.of_own v7)
      clear v7 b7
      go_wp2_with fail
      refine (laws_sameInts_s _ _ ts _ _ _ W7.out T7.out).mono ?_
      rintro e w8 ⟨rfl, z8, rfl⟩
      have d8 := bl_drewN d7 z8
      go_wp2_with (go_at_call 12; refine (laws_alive_c _).mono ?_; rintro e w9 ⟨rfl, rfl⟩)
      go_ret
      exact ⟨rfl, d8⟩

end Go.Proofs.YtfdhaigmekmboaaDoor
