/- Walks: the laws on wanted and sent texts. -/
import Derived.Test.YtfdhaigmekmboaaMg1
import Derived.Test.YtfdhaigmekmboaaMg2
import Derived.Test.YtfdhaigmekmboaaMg6
import Derived.Test.YtfdhaigmekmboaaMg7
namespace Go.Proofs.Ytfdhaigmekmboaa
open Go.RowKit

/-- A drawn store with numbers. -/
def AskedB (w : World) (m : Nat) (e : Ending) (w' : World) : Prop :=
  ∃ (v u : Value) (xs : List Pc) (ns : List Int), e = .returned (.tuple #[v, u]) ∧ OwnP w' w.heap.size v xs ∧ Drawn xs ∧ OwnI w' w.heap.size u ns ∧ ns.length ≤ m ∧ Below w.heap.size w w'
theorem Drawn.sizes {l : List Pc} (h : Drawn l) : (∀ x ∈ l, x.text.size ≤ 1048576) ∧ l.length ≤ 1048576 := ⟨fun x hx => by have := h.2.2.1 x hx; omega, by have := h.2.1; omega⟩
theorem DrawnH.sizes {l : List Pc} (h : DrawnH l) : (∀ x ∈ l, x.text.size ≤ 1048576) ∧ l.length ≤ 1048576 := ⟨fun x hx => by have := h.2.1 x hx; omega, by have := h.1; omega⟩

set_option maxHeartbeats 2000000 in
set_option maxRecDepth 100000 in
theorem spec_DrawSendTexts_c (v : Value) (l : List Int) (w : World) (h : Rd encU 1 w w.heap.size v l) (hl : ∀ x ∈ l, 0 ≤ x ∧ x ≤ 255) :
    Calls Try.prog 6 #[v] w (AskedB w 6) := by
  go_enter Try.func6, Try.ntmps6
  go_wp2_with fail
  refine (spec_l20Open_c v l w h hl).mono ?_
  rintro e w1 ⟨l', rfl, r1, b1⟩
  clear h hl
  go_wp2_with fail
  refine (spec_l20Asked_c _ l' 9 _ r1 (by omega) (by omega)).mono ?_
  rintro e w2 ⟨sv, nv, xs, ns, p2, rfl, o2, hd, a2, hns, _, _, _, g2⟩
  have s1 := b1.size
  have d2 := b1.grown g2 b1.size (by simp)
  have O2 := hid o2
  have A2 := hid a2
  have HD := hid hd
  clear o2 a2 g2 r1 hd b1
  go_wp2
  go_ret2
  exact ⟨_, _, xs, ns, rfl, O2.out.less s1, HD.out, A2.out.less s1, hns, d2⟩

set_option maxHeartbeats 2000000 in
set_option maxRecDepth 100000 in
theorem spec_DrawWantedOf_c (v : Value) (l : List Int) (w : World) (h : Rd encU 1 w w.heap.size v l) (hl : ∀ x ∈ l, 0 ≤ x ∧ x ≤ 255) :
    Calls Try.prog 15 #[v] w (AskedB w 6) := by
  go_enter Try.func15, Try.ntmps15
  go_wp2_with fail
  refine (spec_l20Open_c v l w h hl).mono ?_
  rintro e w1 ⟨l', rfl, r1, b1⟩
  clear h hl
  go_wp2_with fail
  refine (spec_l20Asked_c _ l' 9 _ r1 (by omega) (by omega)).mono ?_
  rintro e w2 ⟨sv, nv, xs, ns, p2, rfl, o2, hd, a2, hns, _, _, _, g2⟩
  have s1 := b1.size
  have d2 := b1.grown g2 b1.size (by simp)
  have O2 := hid o2
  have A2 := hid a2
  have HD := hid hd
  clear o2 a2 g2 r1 hd b1
  go_wp2
  go_ret2
  exact ⟨_, _, xs, ns, rfl, O2.out.less s1, HD.out, A2.out.less s1, hns, d2⟩

def cntNo (ws ns : List Int) (k : Nat) : Nat := ((ns.take k).filter fun n => !hasI ws n).length
theorem cntNo_succ {ws ns : List Int} {k : Nat} {x : Int} (h : ns[k]? = some x) : cntNo ws ns (k + 1) = cntNo ws ns k + (if hasI ws x then 0 else 1) := by
  unfold cntNo
  rw [filter_succ _ h, List.length_append]
  cases hasI ws x <;> simp
theorem cntNo_le (ws ns : List Int) (k : Nat) : cntNo ws ns k ≤ k := by
  unfold cntNo
  exact Nat.le_trans (List.length_filter_le _ _) (by simp; omega)

set_option maxHeartbeats 2000000 in
set_option maxRecDepth 100000 in
theorem laws_FnSendTexts_c (v : Value) (l : List Int) (w : World) (h : Rd encU 1 w w.heap.size v l) (hl : ∀ x ∈ l, 0 ≤ x ∧ x ≤ 255) :
    Calls Try.prog 3 #[v] w fun e w' => e = .returned (.bool true) ∧ Below w.heap.size w w' := by
  obtain ⟨n0, hn0⟩ : ∃ n, l.length = n := ⟨_, rfl⟩
  obtain ⟨a, c, rfl, _, _, _⟩ := Rd.openN h (fun _ => rfl) hn0
  by_cases hbig : 1048576 < n0
  · go_enter Try.func3, Try.ntmps3
    go_wp2
    go_ret
    exact ⟨rfl, Below.refl _ _⟩
  go_enter Try.func3, Try.ntmps3
  go_wp2_with fail
  refine (spec_DrawSendTexts_c _ l w h hl).mono ?_
  rintro e w1 ⟨sv, nv, xs, ns, rfl, o1, hd, a1, hns, b1⟩
  clear h hl hn0
  obtain ⟨n, hn⟩ : ∃ n, xs.length = n := ⟨_, rfl⟩
  obtain ⟨m, hm⟩ : ∃ m, ns.length = m := ⟨_, rfl⟩
  obtain ⟨xa, xc, rfl, _, _, _⟩ := (Rd.of_own o1).pcs hn
  obtain ⟨na, nc, rfl, _, _, hn3⟩ := (Rd.of_own a1).ints hm
  have HM := hid hm
  have hm6 : m ≤ 6 := by omega
  have HD := hid hd
  have HX := hid (Rd.of_own o1)
  have HNN := hid (Rd.of_own a1)
  have HNS := hid hns
  clear o1 a1 hn hm hd hns
  obtain ⟨ts, hts⟩ : ∃ ts, sendTexts xs ns = ts := ⟨_, rfl⟩
  have HTS := hid hts
  have hsm : ∀ t ∈ ts, t.size ≤ 60 ∧ hasI ns (printOf (bs t)) = true := fun t ht => by
    rw [← hts] at ht
    refine ⟨?_, lw_send2 ht⟩
    cases hok : storeOk xs
    · unfold sendTexts at ht; rw [hok] at ht; simp at ht
    · rw [sendTexts_on hok] at ht
      obtain ⟨y, _, hy⟩ := List.mem_filterMap.1 ht
      exact (getP_text hok hy).2.2
  have HSM := hid hsm
  clear hts hsm
  go_wp2_with fail
  refine (impl_SendTexts_c _ _ xs ns _ HX.out HNN.out (by have := HNS.out; omega)).mono ?_
  rw [HTS.out]
  rintro e w2 ⟨tv, rfl, t2, b2⟩
  have d2 := bl_then b1 b2
  have X2 := hid (HX.out.on b2)
  have N2 := hid (HNN.out.on b2)
  have T2 := hid (Rd.of_own t2)
  clear t2 b2 HX
  go_wp2_with fail
  refine (spec_SendTexts_c _ _ xs ns _ X2.out N2.out HD.out.sizes.1 HD.out.sizes.2 (by have := HNS.out; omega)).mono ?_
  rw [HTS.out]
  rintro e w3 ⟨tv', rfl, t3, b3⟩
  have d3 := bl_then d2 b3
  have X3 := hid (X2.out.on b3)
  have N3 := hid (N2.out.on b3)
  have T3 := hid (T2.out.on b3)
  have U3 := hid (Rd.of_own t3)
  clear t3 b3 X2 N2 T2 d2
  go_wp2_with fail
  refine (laws_sameTexts_s _ _ ts _ _ _ T3.out U3.out).mono ?_
  rintro e w4 ⟨rfl, z4, rfl⟩
  have d4 := bl_drewN d3 z4
  have X4 := hid (X3.out.drewN z4)
  have N4 := hid (N3.out.drewN z4)
  have T4 := hid (T3.out.drewN z4)
  clear X3 N3 T3 U3 d3
  obtain ⟨ws, hws⟩ : ∃ ws, wantedOf xs ns = ws := ⟨_, rfl⟩
  have HWS := hid hws
  clear hws
  go_wp2_with fail
  refine (impl_WantedOf_c _ _ xs ns _ X4.out N4.out (by have := HNS.out; omega)).mono ?_
  rw [HWS.out]
  rintro e w5 ⟨wv, rfl, v5, b5⟩
  have d5 := bl_then d4 b5
  have X5 := hid (X4.out.on b5)
  have N5 := hid (N4.out.on b5)
  have T5 := hid (T4.out.on b5)
  have W5 := hid (Rd.of_own v5)
  have hN5 : ∀ i, i < m → ∃ b o x, na = some ⟨b, o, none⟩ ∧ b < w5.heap.size ∧ Hid (ns[i]? = some x) ∧ w5.cell? ⟨b, o + i, none⟩ = some (.int .i64 x) := by
    obtain ⟨a', c', hv', _, _, h3'⟩ := N5.out.ints HM.out
    simp only [Value.slice.injEq] at hv'
    obtain ⟨rfl, _, rfl⟩ := hv'
    exact h3'
  have HN5 := hid hN5
  clear v5 b5 X4 N4 T4 d4 hN5 hn3 HNN
  obtain ⟨q, hq⟩ : ∃ q, ts.length = q := ⟨_, rfl⟩
  have HQ := hid hq
  obtain ⟨ta, tc, rfl, _, _, _⟩ := T5.out.strs hq
  clear hq
  have HEND := hid (show storeOk xs = true → cntNo ws ns m = q by
    intro hok
    have := lw_send hok ns
    rw [HTS.out, HWS.out, HQ.out] at this
    unfold cntNo
    rw [take_all HM.out (Nat.le_refl m)]
    exact this.symm)
  have HEND0 := hid (show storeOk xs = false → q = 0 by
    intro hok
    have h := HTS.out
    unfold sendTexts at h
    rw [hok] at h
    rw [← HQ.out, ← h]; rfl)
  go_wp2
  go_loopw [6, 8] (fun mv kv wr => ∃ k : Nat, k ≤ m ∧ kv = .int .i64 k ∧ mv = .int .i64 (cntNo ws ns k : Nat) ∧ Hid (storeOk xs = false → k = 0) ∧ Below w5.heap.size w5 wr) (fun _ kv _ => m - (intOf kv).toNat)
  case atStart => exact ⟨0, Nat.zero_le _, rfl, rfl, hid (fun _ => rfl), Below.refl _ _⟩
  case round =>
    obtain ⟨k, hk, rfl, rfl, hk0, hb⟩ := hrel
    have X6 := hid (X5.out.on hb)
    have hck := cntNo_le ws ns k
    by_cases hgo : k < m ∧ storeOk xs = true
    · obtain ⟨hlt, hok⟩ := hgo
      have hd0 : decide (k < m) = true := by simp; omega
      have HK := hid hok
      obtain ⟨b, o, x, rfl, hbl, hx, k0⟩ := HN5.out k hlt
      have k1 := (hb.cell (p := ⟨b, o + k, none⟩) hbl).trans k0
      have W6 := hid (W5.out.on hb)
      have HC := hid (cntNo_succ (ws := ws) hx.out)
      have hkm : (k : Int) < m := by omega
      have HB := hid hbl
      have HK0 := hid k0
      clear hok hk0 k0
      go_wp2_with fail
      refine (impl_StoreValid_c _ xs _ X6.out).mono ?_
      rw [HK.out]
      rintro e w6 ⟨rfl, b6⟩
      have hb6 := bl_then hb b6
      have k6 := (hb6.cell (p := ⟨b, o + k, none⟩) HB.out).trans HK0.out
      have W7 := hid (W6.out.on b6)
      clear k1 W6 b6
      obtain ⟨y, hy⟩ : ∃ y, hasI ws x = y := ⟨_, rfl⟩
      have HY := hid hy
      rw [hy] at HC
      clear hy
      go_wp2_with fail
      refine (laws_hasInt_c _ ws x _ _ W7.out).mono ?_
      rw [HY.out]
      rintro e w7 ⟨rfl, rfl⟩
      cases y
      · have HC2 := hid (show cntNo ws ns (k + 1) = cntNo ws ns k + 1 from HC.out)
        clear HC
        go_wp2
        go_roundw
        case rel => exact ⟨k + 1, by omega, by go_num, by rw [HC2.out]; go_num, hid (fun h => (by rw [HK.out] at h; cases h)), hb6⟩
        case measure => simp [intOf]; omega
      · have HC2 := hid (show cntNo ws ns (k + 1) = cntNo ws ns k from HC.out)
        clear HC
        go_wp2
        go_roundw
        case rel => exact ⟨k + 1, by omega, by go_num, by rw [HC2.out], hid (fun h => (by rw [HK.out] at h; cases h)), hb6⟩
        case measure => simp [intOf]; omega
    · have hcq : cntNo ws ns k = q := by
        cases hok : storeOk xs
        · rw [hk0.out hok, HEND0.out hok]; rfl
        · have : k = m := by
            rcases Nat.lt_or_ge k m with h | h
            · exact absurd ⟨h, hok⟩ hgo
            · omega
          rw [this]; exact HEND.out hok
      rw [hcq]
      clear hck hcq HEND HEND0
      by_cases hlt : k < m
      · have HK := hid (show storeOk xs = false by
          cases hok : storeOk xs
          · rfl
          · exact absurd ⟨hlt, hok⟩ hgo)
        have hd0 : decide (k < m) = true := by simp; omega
        have hkm : (k : Int) < m := by omega
        clear hgo hk0
        go_wp2_with fail
        refine (impl_StoreValid_c _ xs _ X6.out).mono ?_
        rw [HK.out]
        rintro e w6 ⟨rfl, b6⟩
        have hb6 := bl_then hb b6
        have T6 := T5.out.on hb6
        obtain ⟨a', c', hv', _, _, ht3⟩ := T6.strs HQ.out
        simp only [Value.slice.injEq] at hv'
        obtain ⟨rfl, _, rfl⟩ := hv'
        have N6 := hid (N5.out.on hb6)
        clear T6
        go_wp2
        go_loop [9] (fun i => ∃ j : Nat, j ≤ q ∧ i = .int .i64 j) (fun i => q - (intOf i).toNat)
        case atStart => exact ⟨0, Nat.zero_le _, rfl⟩
        case round =>
          obtain ⟨j, hj, rfl⟩ := hrel
          by_cases hjq : j < q
          · obtain ⟨b, o, t, rfl, hbl, hx, k0⟩ := ht3 j hjq
            obtain ⟨z, hz⟩ : ∃ z, printOf (bs t) = z := ⟨_, rfl⟩
            have HZ := hid hz
            have HH := hid (show hasI ns z = true by rw [← hz]; exact (HSM.out t (List.mem_of_getElem? hx.out)).2)
            have hjq' : (j : Int) < q := by omega
            clear ht3 hz
            go_wp2_with (first | (go_at_call 13; refine (impl_PrintOf_e _ _ HZ.out).mono ?_; rintro e w7 ⟨rfl, rfl⟩) | (go_at_call 12; refine (laws_hasInt_c _ ns z _ _ N6.out).mono ?_; rw [HH.out]; rintro e w7 ⟨rfl, rfl⟩))
            go_round
            case rel => exact ⟨j + 1, by omega, by go_num⟩
            case measure => simp [intOf]; omega
          · obtain rfl : j = q := by omega
            clear ht3
            go_wp2_with (go_at_call 14; refine (laws_alive_c _).mono ?_; rintro e w7 ⟨rfl, rfl⟩)
            go_ret
            exact ⟨rfl, bl_then d5 hb6⟩
      · have hd0 : decide (k < m) = false := by simp; omega
        clear hgo hk0
        have hb6 := hb
        have T6 := T5.out.on hb6
        obtain ⟨a', c', hv', _, _, ht3⟩ := T6.strs HQ.out
        simp only [Value.slice.injEq] at hv'
        obtain ⟨rfl, _, rfl⟩ := hv'
        have N6 := hid (N5.out.on hb6)
        clear T6
        go_wp2
        go_loop [9] (fun i => ∃ j : Nat, j ≤ q ∧ i = .int .i64 j) (fun i => q - (intOf i).toNat)
        case atStart => exact ⟨0, Nat.zero_le _, rfl⟩
        case round =>
          obtain ⟨j, hj, rfl⟩ := hrel
          by_cases hjq : j < q
          · obtain ⟨b, o, t, rfl, hbl, hx, k0⟩ := ht3 j hjq
            obtain ⟨z, hz⟩ : ∃ z, printOf (bs t) = z := ⟨_, rfl⟩
            have HZ := hid hz
            have HH := hid (show hasI ns z = true by rw [← hz]; exact (HSM.out t (List.mem_of_getElem? hx.out)).2)
            have hjq' : (j : Int) < q := by omega
            clear ht3 hz
            go_wp2_with (first | (go_at_call 13; refine (impl_PrintOf_e _ _ HZ.out).mono ?_; rintro e w7 ⟨rfl, rfl⟩) | (go_at_call 12; refine (laws_hasInt_c _ ns z _ _ N6.out).mono ?_; rw [HH.out]; rintro e w7 ⟨rfl, rfl⟩))
            go_round
            case rel => exact ⟨j + 1, by omega, by go_num⟩
            case measure => simp [intOf]; omega
          · obtain rfl : j = q := by omega
            clear ht3
            go_wp2_with (go_at_call 14; refine (laws_alive_c _).mono ?_; rintro e w7 ⟨rfl, rfl⟩)
            go_ret
            exact ⟨rfl, bl_then d5 hb6⟩

set_option maxHeartbeats 2000000 in
set_option maxRecDepth 100000 in
theorem laws_FnWantedOf_c (v : Value) (l : List Int) (w : World) (h : Rd encU 1 w w.heap.size v l) (hl : ∀ x ∈ l, 0 ≤ x ∧ x ≤ 255) :
    Calls Try.prog 4 #[v] w fun e w' => e = .returned (.bool true) ∧ Below w.heap.size w w' := by
  obtain ⟨n0, hn0⟩ : ∃ n, l.length = n := ⟨_, rfl⟩
  obtain ⟨a, c, rfl, _, _, _⟩ := Rd.openN h (fun _ => rfl) hn0
  by_cases hbig : 1048576 < n0
  · go_enter Try.func4, Try.ntmps4
    go_wp2
    go_ret
    exact ⟨rfl, Below.refl _ _⟩
  go_enter Try.func4, Try.ntmps4
  go_wp2_with fail
  refine (spec_DrawWantedOf_c _ l w h hl).mono ?_
  rintro e w1 ⟨sv, nv, xs, ns, rfl, o1, hd, a1, hns, b1⟩
  clear h hl hn0
  obtain ⟨n, hn⟩ : ∃ n, xs.length = n := ⟨_, rfl⟩
  obtain ⟨m, hm⟩ : ∃ m, ns.length = m := ⟨_, rfl⟩
  obtain ⟨xa, xc, rfl, _, _, _⟩ := (Rd.of_own o1).pcs hn
  obtain ⟨na, nc, rfl, _, _, hn3⟩ := (Rd.of_own a1).ints hm
  have HM := hid hm
  have hm6 : m ≤ 6 := by omega
  have HD := hid hd
  have HX := hid (Rd.of_own o1)
  have HNN := hid (Rd.of_own a1)
  have HNS := hid hns
  clear o1 a1 hn hm hd hns
  obtain ⟨ws, hws⟩ : ∃ ws, wantedOf xs ns = ws := ⟨_, rfl⟩
  have HWS := hid hws
  obtain ⟨q, hq⟩ : ∃ q, ws.length = q := ⟨_, rfl⟩
  have HQ := hid hq
  have hqm : q ≤ m := by rw [← hq, ← hws, ← HM.out]; exact wantedOf_le
  clear hws hq
  go_wp2_with fail
  refine (impl_WantedOf_c _ _ xs ns _ HX.out HNN.out (by have := HNS.out; omega)).mono ?_
  rw [HWS.out]
  rintro e w2 ⟨tv, rfl, t2, b2⟩
  obtain ⟨ta, tc, rfl, _, _, _⟩ := (Rd.of_own t2).ints HQ.out
  have d2 := bl_then b1 b2
  have X2 := hid (HX.out.on b2)
  have N2 := hid (HNN.out.on b2)
  have T2 := hid (Rd.of_own t2)
  clear t2 b2 HX
  go_wp2_with fail
  refine (spec_WantedOf_c _ _ xs ns _ X2.out N2.out HD.out.sizes.1 HD.out.sizes.2 (by have := HNS.out; omega)).mono ?_
  rw [HWS.out]
  rintro e w3 ⟨tv', rfl, t3, b3⟩
  have d3 := bl_then d2 b3
  have X3 := hid (X2.out.on b3)
  have N3 := hid (N2.out.on b3)
  have T3 := hid (T2.out.on b3)
  have U3 := hid (Rd.of_own t3)
  clear t3 b3 X2 N2 T2 d2
  go_wp2_with fail
  refine (laws_sameInts_s _ _ ws _ _ _ T3.out U3.out).mono ?_
  rintro e w4 ⟨rfl, z4, rfl⟩
  obtain ⟨w5, hw5⟩ : ∃ w5, w5 = w3.drewN z4 := ⟨_, rfl⟩
  have d5 : Below w.heap.size w w5 := by rw [hw5]; exact bl_drewN d3 z4
  have X5 : Hid (Pcs w5 w5.heap.size (.slice xa n xc) xs) := by rw [hw5]; exact X3.out.drewN z4
  have N5 : Hid (Ints w5 w5.heap.size (.slice na m nc) ns) := by rw [hw5]; exact N3.out.drewN z4
  have T5 : Hid (Ints w5 w5.heap.size (.slice ta q tc) ws) := by rw [hw5]; exact T3.out.drewN z4
  rw [← hw5]
  have hN5 : ∀ i, i < m → ∃ b o x, na = some ⟨b, o, none⟩ ∧ b < w5.heap.size ∧ Hid (ns[i]? = some x) ∧ w5.cell? ⟨b, o + i, none⟩ = some (.int .i64 x) := by
    obtain ⟨a', c', hv', _, _, h3'⟩ := N5.out.ints HM.out
    simp only [Value.slice.injEq] at hv'
    obtain ⟨rfl, _, rfl⟩ := hv'
    exact h3'
  have HN5 := hid hN5
  clear X3 N3 T3 U3 d3 hw5 hN5 hn3 HNN
  go_wp2
  go_loopw [6, 7, 8] (fun kv _ _ wr => ∃ k : Nat, k ≤ m ∧ kv = .int .i64 k ∧ Below w5.heap.size w5 wr) (fun kv _ _ _ => m - (intOf kv).toNat)
  case atStart => exact ⟨0, Nat.zero_le _, rfl, Below.refl _ _⟩
  case round =>
    obtain ⟨k, hk, rfl, hb⟩ := hrel
    have X6 := hid (X5.out.on hb)
    by_cases hlt : k < m
    · have hd0 : decide (k < m) = true := by simp; omega
      cases hok : storeOk xs
      · have HK := hid hok
        clear hok
        go_wp2_with fail
        refine (impl_StoreValid_c _ xs _ X6.out).mono ?_
        rw [HK.out]
        rintro e w6 ⟨rfl, b6⟩
        have hb6 := bl_then d5 (bl_then hb b6)
        clear b6
        go_wp2_with (go_at_call 14; refine (laws_alive_c _).mono ?_; rintro e w7 ⟨rfl, rfl⟩)
        go_ret
        exact ⟨rfl, hb6⟩
      · have HK := hid hok
        obtain ⟨b, o, x, rfl, hbl, hx, k0⟩ := HN5.out k hlt
        have HB := hid hbl
        have HK0 := hid k0
        have hkm : (k : Int) < m := by omega
        have HT := hid (show getText xs x = ((getP xs x).getD ByteArray.empty, hasP xs x) from getText_on hok x)
        have HWH := hid (show hasI ws x = !hasP xs x by rw [← HWS.out]; exact wanted_has hok (List.mem_of_getElem? hx.out))
        obtain ⟨y, hy⟩ : ∃ y, hasP xs x = y := ⟨_, rfl⟩
        rw [hy] at HT HWH
        clear hok k0 hy
        go_wp2_with fail
        refine (impl_StoreValid_c _ xs _ X6.out).mono ?_
        rw [HK.out]
        rintro e w6 ⟨rfl, b6⟩
        have hb6 := bl_then hb b6
        have k6 := (hb6.cell (p := ⟨b, o + k, none⟩) HB.out).trans HK0.out
        have X7 := hid (X6.out.on b6)
        clear b6
        go_wp2_with fail
        refine (impl_GetText_c _ xs x _ X7.out).mono ?_
        rw [HT.out]
        rintro e w7 ⟨rfl, b7⟩
        have hb7 := bl_then hb6 b7
        have k7 := (hb7.cell (p := ⟨b, o + k, none⟩) HB.out).trans HK0.out
        have T7 := hid (T5.out.on hb7)
        clear b7 k6
        go_wp2_with fail
        refine (laws_hasInt_c _ ws x _ _ T7.out).mono ?_
        rw [HWH.out]
        rintro e w8 ⟨rfl, rfl⟩
        cases y
        · go_wp2
          go_roundw
          case rel => exact ⟨k + 1, by omega, by go_num, hb7⟩
          case measure => simp [intOf]; omega
        · go_wp2
          go_roundw
          case rel => exact ⟨k + 1, by omega, by go_num, hb7⟩
          case measure => simp [intOf]; omega
    · have hd0 : decide (k < m) = false := by simp; omega
      have hqm' : (q : Int) ≤ m := by omega
      have hb6 := bl_then d5 hb
      go_wp2_with (go_at_call 14; refine (laws_alive_c _).mono ?_; rintro e w7 ⟨rfl, rfl⟩)
      go_ret
      exact ⟨rfl, hb6⟩

end Go.Proofs.Ytfdhaigmekmboaa
