/- Walks: the laws on name counts and on lost prints. -/
import Derived.Test.YtfdhaigmekmboaaDoorMg3
import Derived.Test.YtfdhaigmekmboaaDoorMlLawC
namespace Go.Proofs.YtfdhaigmekmboaaDoor
open Go.RowKit

theorem cnt_bound {l : List Pc} (hs : storeOk l = true) {k : Nat} {x : Int} (h : (countsOf l)[k]? = some x) : 0 ≤ x ∧ x ≤ 120 := by
  rw [countsOf_on hs] at h
  have hk : k < l.length := by have := (List.getElem?_eq_some_iff.1 h).1; rw [cnt_len] at this; exact this
  have hg := cnt_get (l := l) (named l) (List.getElem?_eq_getElem hk)
  rw [h] at hg
  have e := Option.some.inj hg
  have h1 : (named l).count (l[k].print) ≤ (named l).length := List.count_le_length
  have h2 := named_len l
  have h3 := (st_in hs).1
  omega
theorem missW_bound (l : List Pc) (n : Int) : 0 ≤ missW l n ∧ missW l n ≤ 1 := by unfold missW; split <;> omega
theorem sum_take {L : List Int} {k : Nat} {x : Int} (h : L[k]? = some x) : (L.take (k + 1)).sum = (L.take k).sum + x := by rw [take_snoc' h]; simp

theorem wpList_wanted {P : Program} {ops : Array Oper} {rest : List Oper} {o : Oper} {a : Act} {w : World} {Q : Exit → Act → World → Prop} (hg : Region.wanted o (yielded ops a.tmps) = true) (h : o.wp P a w (wpList P ops Q rest) Q) : wpList P ops Q (o :: rest) a w := by
  unfold wpList
  rw [if_pos hg]
  exact .inl h
/-- Appending a row of numbers to one of the call's own, at an operation that its guard lets through. -/
theorem catG_int {ops : Array Oper} {rest : List Oper} {o : Oper} {a : Act} {Q : Exit → Act → World → Prop} {w : World} (hg : Region.wanted o (yielded ops a.tmps) = true) (s x : Operand) (ho : o.op = .call { callee := .builtin .append, args := #[s, x], argTypes := #[25, 25] }) (B : Nat) (v sv : Value) (acc ys : List Int)
    (hown : OwnI w B v acc) (hr : Ints w w.heap.size sv ys) (hB : B ≤ w.heap.size) (hs : a.eval s = v) (hx : a.eval x = sv) (hn : acc.length + ys.length < 1099511627776)
    (h : ∀ v' w', OwnI w' B v' (acc ++ ys) → Below B w w' → (∀ g, v'.ownBlock = some g → v.ownBlock = some g ∨ w.heap.size ≤ g) → wpList Tryd.prog ops Q rest (a.put o.dst v') w') :
    wpList Tryd.prog ops Q (o :: rest) a w := by
  obtain ⟨i0, hi, hz0, hz1, hz2⟩ := info_parts info_int
  refine wpList_wanted hg (wp_cat (enc := encI) w s x 25 ho B 3 i0 _ 1 8 Tryd.underlying25 hi hz0 hz1 hz2 rfl (by decide) v sv acc ys hs hx hown _ hr (by simp [encI, Value.oneCell']) hn (by decide) hB ?_)
  intro v' w' h1 h2 h3
  exact h v' w' h1 ((Below.refl _ _).grown h2 hB (fun g hg => (hown.lt g hg).1)) (fun g hg => (h3 g hg).imp id (fun e => by omega))

set_option maxHeartbeats 2000000 in
set_option maxRecDepth 100000 in
theorem laws_FnNameCounts_c (v : Value) (l : List Int) (w : World) (h : Rd encU 1 w w.heap.size v l) (hl : ∀ x ∈ l, 0 ≤ x ∧ x ≤ 255) (hg : Glob w) :
    Calls Tryd.prog 3 #[v] w fun e w' => e = .returned (.bool true) ∧ Below w.heap.size w w' := by
  obtain ⟨n0, hn0⟩ : ∃ n, l.length = n := ⟨_, rfl⟩
  obtain ⟨a, c, rfl, _, _, _⟩ := Rd.openN h (fun _ => rfl) hn0
  have HG := hid hg
  clear hg
  by_cases hbig : 1048576 < n0
  · go_enter Tryd.func3, Tryd.ntmps3
    go_wp2
    go_ret
    exact ⟨rfl, Below.refl _ _⟩
  go_enter Tryd.func3, Tryd.ntmps3
  go_wp2_with fail
  refine (spec_DrawNameCounts_c _ l w h hl).mono ?_
  rintro e w1 ⟨sv, xs, rfl, o1, hd, b1⟩
  clear h hl hn0
  obtain ⟨n, hn⟩ : ∃ n, xs.length = n := ⟨_, rfl⟩
  obtain ⟨xa, xc, rfl, _, _, _⟩ := (Rd.of_own o1).pcs hn
  have HN := hid hn
  have hn41 : n ≤ 41 := by rw [← hn]; exact hd.1
  have HD := hid hd
  have HX := hid (Rd.of_own o1)
  obtain ⟨ts, hts⟩ : ∃ ts, countsOf xs = ts := ⟨_, rfl⟩
  have HTS := hid hts
  obtain ⟨q, hq⟩ : ∃ q, ts.length = q := ⟨_, rfl⟩
  have HQ := hid hq
  clear o1 hn hd hts hq
  go_wp2_with fail
  refine (impl_NameCounts_c _ xs _ HX.out HD.out.sizes'.1 HD.out.sizes'.2 (HG.out.on b1)).mono ?_
  rw [HTS.out]
  rintro e w2 ⟨tv, rfl, t2, b2⟩
  obtain ⟨ta, tc, rfl, _, _, _⟩ := (Rd.of_own t2).ints HQ.out
  have d2 := bl_then b1 b2
  have X2 := hid (HX.out.on b2)
  have T2 := hid (Rd.of_own t2)
  clear t2 b2 HX
  go_wp2_with fail
  refine (spec_NameCounts_c _ xs _ X2.out HD.out.sizes'.1 HD.out.sizes'.2).mono ?_
  rw [HTS.out]
  rintro e w3 ⟨tv', rfl, t3, b3⟩
  have d3 := bl_then d2 b3
  have X3 := hid (X2.out.on b3)
  have T3 := hid (T2.out.on b3)
  have U3 := hid (Rd.of_own t3)
  clear t3 b3 X2 T2 d2
  go_wp2_with fail
  refine (laws_sameInts_s _ _ ts _ _ _ T3.out U3.out).mono ?_
  rintro e w4 ⟨rfl, z4, rfl⟩
  have d4 := bl_drewN d3 z4
  have X4 := hid (X3.out.drewN z4)
  have T4 := hid (T3.out.drewN z4)
  clear X3 T3 U3 d3
  go_wp2_with fail
  refine (impl_StoreValid_c _ xs _ X4.out).mono ?_
  rintro e w5 ⟨rfl, b5⟩
  have d5 := bl_then d4 b5
  have X5 := hid (X4.out.on b5)
  have T5 := hid (T4.out.on b5)
  clear X4 T4 d4 b5
  cases hok : storeOk xs
  · obtain rfl : q = 0 := by rw [← HQ.out, ← HTS.out, countsOf_off hok]; rfl
    clear hok
    go_wp2_with (go_at_call 12; refine (laws_alive_c _).mono ?_; rintro e w7 ⟨rfl, rfl⟩)
    go_ret
    exact ⟨rfl, d5⟩
  have HK := hid hok
  obtain rfl : q = n := by rw [← HQ.out, ← HTS.out, counts_full hok, HN.out]
  have hT5 : ∀ i, i < q → ∃ b o x, ta = some ⟨b, o, none⟩ ∧ b < w5.heap.size ∧ Hid (ts[i]? = some x) ∧ w5.cell? ⟨b, o + i, none⟩ = some (.int .i64 x) := by
    obtain ⟨a', c', hv', _, _, h3'⟩ := T5.out.ints HQ.out
    simp only [Value.slice.injEq] at hv'
    obtain ⟨rfl, _, rfl⟩ := hv'
    exact h3'
  have HT5 := hid hT5
  clear hok hT5
  go_wp2
  go_loop [5, 6] (fun sv kv => ∃ (k : Nat) (S : Int), k ≤ q ∧ kv = .int .i64 k ∧ sv = .int .i64 S ∧ Hid (S = (ts.take k).sum) ∧ 0 ≤ S ∧ S ≤ 120 * (k : Int)) (fun _ kv => q - (intOf kv).toNat)
  case atStart => exact ⟨0, 0, Nat.zero_le _, rfl, rfl, hid rfl, by omega, by omega⟩
  case round =>
    obtain ⟨k, S, hk, rfl, rfl, hS, hS0, hS1⟩ := hrel
    by_cases hlt : k < q
    · obtain ⟨b, o, x, rfl, hbl, hx, k0⟩ := HT5.out k hlt
      have hx2 := cnt_bound HK.out (by rw [HTS.out]; exact hx.out)
      have hx3 := hx2.1
      have hx4 := hx2.2
      have hkm : (k : Int) < q := by omega
      have HS2 := hid (show S + x = (ts.take (k + 1)).sum by rw [sum_take hx.out, hS.out])
      have hwr : IntKind.i64.wrap (S + x) = S + x := IntWalk.i64_in _ (by omega)
      clear hx2
      go_wp2
      go_round
      case rel => exact ⟨k + 1, S + x, by omega, by go_num, by first | rfl | (rw [hwr]) | go_num, HS2, by omega, by omega⟩
      case measure => simp [intOf]; omega
    · have HS := hid (show S = (ts.take q).sum by have e : k = q := (by omega); rw [← e]; exact hS.out)
      have hS2 : S ≤ 4920 := by omega
      have hlt' : ¬ ((k : Int) < q) := by omega
      clear hS hS1 hlt hk HT5
      obtain ⟨ms, hms⟩ : ∃ ms, missingOf xs = ms := ⟨_, rfl⟩
      have HMS := hid hms
      clear hms
      go_wp2_with fail
      refine (impl_MissingPrints_c _ xs _ X5.out HD.out.sizes'.1 HD.out.sizes'.2 (HG.out.on d5)).mono ?_
      rw [HMS.out]
      rintro e w6 ⟨mv, rfl, m6, b6⟩
      have d6 := bl_then d5 b6
      have X6 := hid (X5.out.on b6)
      have M6 := hid (Rd.of_own m6)
      have hX6 : ∀ i, i < q → ∃ b o r t, xa = some ⟨b, o, none⟩ ∧ b < w6.heap.size ∧ Hid (xs[i]? = some ⟨r, t⟩) ∧ w6.cell? ⟨b, o + i * 2, none⟩ = some (.int .i64 r) ∧ w6.cell? ⟨b, o + i * 2 + 1, none⟩ = some (.string t) := by
        obtain ⟨a', c', hv', _, _, h3'⟩ := X6.out.pcs HN.out
        simp only [Value.slice.injEq] at hv'
        obtain ⟨rfl, _, rfl⟩ := hv'
        exact h3'
      have HX6 := hid hX6
      clear m6 b6 hX6 d5 X5
      go_wp2
      go_loopw [5, 8, 9, 10, 11] (fun sv kv _ _ _ wr => ∃ (k : Nat) (S2 : Int), k ≤ q ∧ kv = .int .i64 k ∧ sv = .int .i64 S2 ∧ Hid (S2 = S - ((named (xs.take k)).map (missW xs)).sum) ∧ S2 ≤ 4920 ∧ -(3 * (k : Int)) ≤ S2 ∧ Below w6.heap.size w6 wr) (fun _ kv _ _ _ _ => q - (intOf kv).toNat)
      case atStart => exact ⟨0, S, Nat.zero_le _, rfl, rfl, hid (by simp [named]), hS2, by omega, Below.refl _ _⟩
      case round =>
        obtain ⟨k, S2, hk, rfl, rfl, hS, hS3, hS4, hb⟩ := hrel
        by_cases hlt : k < q
        · obtain ⟨b, o, r, t, rfl, hbl, hx, k0, k1⟩ := HX6.out k hlt
          have j1 := (hb.cell (p := ⟨b, o + k * 2 + 1, none⟩) hbl).trans k1
          have HT := hid (HD.out.sizes'.1 _ (List.mem_of_getElem? hx.out))
          have HNS := hid (named_succ hx.out)
          obtain ⟨es, hes⟩ : ∃ es, entsOf (bs t) = es := ⟨_, rfl⟩
          have HES := hid hes
          have hm3 := entsOf_len (bs t)
          rw [hes] at hm3
          obtain ⟨m, hm⟩ : ∃ m, es.length = m := ⟨_, rfl⟩
          have HM := hid hm
          have hm4 : m ≤ 3 := by omega
          have hkm : (k : Int) < q := by omega
          have hPRS := hid (show prs ⟨r, t⟩ = es.map (·.print) by unfold prs; rw [hes])
          clear k0 k1 hes hm3 hm
          go_wp2_with fail
          refine (impl_ReadFolder_c t _ HT.out (HG.out.on (bl_then d6 hb))).mono ?_
          rw [HES.out]
          rintro e w7 ⟨lv, rfl, l7, b7⟩
          obtain ⟨la, lc, rfl, _, _, h7⟩ := (Rd.of_own l7).ents HM.out
          have H7 := hid h7
          have hb7 := bl_then hb b7
          have M7 := hid (M6.out.on hb7)
          clear l7 b7 h7 j1
          go_wp2
          go_loop [5, 11] (fun sv jv => ∃ (j : Nat) (S3 : Int), j ≤ m ∧ jv = .int .i64 j ∧ sv = .int .i64 S3 ∧ Hid (S3 = S2 - (((es.map (·.print)).take j).map (missW xs)).sum) ∧ S3 ≤ S2 ∧ S2 - (j : Int) ≤ S3) (fun _ jv => m - (intOf jv).toNat)
          case atStart => exact ⟨0, S2, Nat.zero_le _, rfl, rfl, hid (by simp), by omega, by omega⟩
          case round =>
            obtain ⟨j, S3, hj, rfl, rfl, hS5, hS6, hS7⟩ := hrel
            by_cases hjm : j < m
            · obtain ⟨eb, eo, nm, y, rfl, hebl, hex, c0, c1⟩ := H7.out j hjm
              have hy : (es.map (·.print))[j]? = some y := by rw [List.getElem?_map, hex.out]; rfl
              have HSU := hid (show (((es.map (·.print)).take (j + 1)).map (missW xs)).sum = (((es.map (·.print)).take j).map (missW xs)).sum + missW xs y by rw [take_snoc' hy]; simp)
              obtain ⟨z, hz⟩ : ∃ z, hasI ms y = z := ⟨_, rfl⟩
              have HZ := hid hz
              have HW := hid (show missW xs y = if z then 0 else 1 by unfold missW; rw [HMS.out, hz])
              have hjm' : (j : Int) < m := by omega
              have hw1 : IntKind.i64.wrap (S3 - 1) = S3 - 1 := IntWalk.i64_in _ (by omega)
              have hw2 : IntKind.i64.wrap (S3 - 1 + 1) = S3 := by rw [IntWalk.i64_in _ (by omega)]; omega
              clear hz hy
              go_wp2_with fail
              refine (laws_hasInt_c _ ms y _ _ M7.out).mono ?_
              rw [HZ.out]
              rintro e w8 ⟨rfl, rfl⟩
              cases z
              · have HS3 := hid (show S3 - 1 = S2 - (((es.map (·.print)).take (j + 1)).map (missW xs)).sum by rw [HSU.out, HW.out, hS5.out]; simp; omega)
                go_wp2
                go_round
                case rel => exact ⟨j + 1, S3 - 1, by omega, by go_num, by first | rfl | (rw [hw1]) | go_num, HS3, by omega, by omega⟩
                case measure => simp [intOf]; omega
              · have HS3 := hid (show S3 = S2 - (((es.map (·.print)).take (j + 1)).map (missW xs)).sum by rw [HSU.out, HW.out, hS5.out]; simp)
                go_wp2
                go_round
                case rel => exact ⟨j + 1, S3, by omega, by go_num, by first | rfl | (rw [hw2]) | go_num, HS3, by omega, by omega⟩
                case measure => simp [intOf]; omega
            · have HS9 := hid (show S3 = S - ((named (xs.take (k + 1))).map (missW xs)).sum by
                rw [HNS.out, hPRS.out, List.map_append, List.sum_append, hS5.out, hS.out, take_all (show (es.map (·.print)).length = m by rw [List.length_map]; exact HM.out) (show m ≤ j by omega)]; omega)
              clear hS hS5
              go_wp2
              go_roundw
              case rel => exact ⟨k + 1, S3, by omega, by go_num, rfl, HS9, by omega, by omega, hb7⟩
              case measure => simp [intOf]; omega
        · have hz : S2 = 0 := by
            rw [hS.out, HS.out, take_all HQ.out (Nat.le_refl q), take_all HN.out (show q ≤ k by omega), ← HTS.out]
            exact lw_count HK.out
          subst hz
          clear hS HS
          have d9 := bl_then d6 hb
          go_wp2
          go_ret
          exact ⟨rfl, d9⟩

set_option maxHeartbeats 2000000 in
set_option maxRecDepth 100000 in
theorem laws_FnLostPrints_c (v : Value) (l : List Int) (w : World) (h : Rd encU 1 w w.heap.size v l) (hl : ∀ x ∈ l, 0 ≤ x ∧ x ≤ 255) (hg : Glob w) :
    Calls Tryd.prog 6 #[v] w fun e w' => e = .returned (.bool true) ∧ Below w.heap.size w w' := by
  obtain ⟨n0, hn0⟩ : ∃ n, l.length = n := ⟨_, rfl⟩
  obtain ⟨a, c, rfl, _, _, _⟩ := Rd.openN h (fun _ => rfl) hn0
  have HG := hid hg
  clear hg
  by_cases hbig : 1048576 < n0
  · go_enter Tryd.func6, Tryd.ntmps6
    go_wp2
    go_ret
    exact ⟨rfl, Below.refl _ _⟩
  go_enter Tryd.func6, Tryd.ntmps6
  go_wp2_with fail
  refine (spec_DrawLostPrints_c _ l w h hl).mono ?_
  rintro e w1 ⟨sv, rv, xs, ns, rfl, o1, hd, a1, hns, b1⟩
  clear h hl hn0
  obtain ⟨n, hn⟩ : ∃ n, xs.length = n := ⟨_, rfl⟩
  obtain ⟨p, hp⟩ : ∃ p, ns.length = p := ⟨_, rfl⟩
  obtain ⟨xa, xc, rfl, _, _, _⟩ := (Rd.of_own o1).pcs hn
  obtain ⟨na, nc, rfl, _, _, _⟩ := (Rd.of_own a1).ints hp
  have HN := hid hn
  have HPP := hid hp
  have hp4 : p ≤ 4 := by omega
  have HD := hid hd.2
  have HX := hid (Rd.of_own o1)
  have HNN := hid (Rd.of_own a1)
  obtain ⟨ts, hts⟩ : ∃ ts, lostOf xs ns = ts := ⟨_, rfl⟩
  have HTS := hid hts
  obtain ⟨q, hq⟩ : ∃ q, ts.length = q := ⟨_, rfl⟩
  have HQ := hid hq
  have hq40 : q ≤ 40 := by rw [← hq, ← hts]; exact lostOf_len
  clear o1 a1 hn hp hns hd hts hq
  go_wp2_with fail
  refine (impl_LostPrints_c _ _ xs ns _ HX.out HNN.out (by rw [HPP.out]; omega) (HG.out.on b1)).mono ?_
  rw [HTS.out]
  rintro e w2 ⟨tv, rfl, t2, b2⟩
  obtain ⟨ta, tc, rfl, _, _, _⟩ := (Rd.of_own t2).ints HQ.out
  have d2 := bl_then b1 b2
  have X2 := hid (HX.out.on b2)
  have N2 := hid (HNN.out.on b2)
  have T2 := hid (Rd.of_own t2)
  clear t2 b2 HX HNN
  go_wp2_with fail
  refine (spec_LostPrints_c _ _ xs ns _ X2.out N2.out HD.out.sizes'.1 HD.out.sizes'.2).mono ?_
  rw [HTS.out]
  rintro e w3 ⟨tv', rfl, t3, b3⟩
  have d3 := bl_then d2 b3
  have X3 := hid (X2.out.on b3)
  have N3 := hid (N2.out.on b3)
  have T3 := hid (T2.out.on b3)
  have U3 := hid (Rd.of_own t3)
  clear t3 b3 X2 N2 T2 d2
  go_wp2_with fail
  refine (laws_sameInts_s _ _ ts _ _ _ T3.out U3.out).mono ?_
  rintro e w4 ⟨rfl, z4, rfl⟩
  have d4 := bl_drewN d3 z4
  have X4 := hid (X3.out.drewN z4)
  have N4 := hid (N3.out.drewN z4)
  have T4 := hid (T3.out.drewN z4)
  clear X3 N3 T3 U3 d3
  go_wp2_with fail
  refine (impl_StoreValid_c _ xs _ X4.out).mono ?_
  rintro e w5 ⟨rfl, b5⟩
  have d5 := bl_then d4 b5
  have X5 := hid (X4.out.on b5)
  have N5 := hid (N4.out.on b5)
  have T5 := hid (T4.out.on b5)
  clear X4 N4 T4 d4 b5
  cases hok : storeOk xs
  · obtain rfl : q = 0 := by rw [← HQ.out, ← HTS.out, lostOf_off hok]; rfl
    clear hok
    go_wp2_with (go_at_call 12; refine (laws_alive_c _).mono ?_; rintro e w7 ⟨rfl, rfl⟩)
    go_ret
    exact ⟨rfl, d5⟩
  have HK := hid hok
  obtain ⟨rs, hrs⟩ : ∃ rs, reachOf xs ns = rs := ⟨_, rfl⟩
  have HRS := hid hrs
  obtain ⟨p2, hp2⟩ : ∃ p2, rs.length = p2 := ⟨_, rfl⟩
  have HP2 := hid hp2
  have hsum : q + p2 = n := by rw [← HQ.out, ← hp2, ← HTS.out, ← hrs, ← HN.out]; exact lost_all hok
  have hp240 : p2 ≤ 40 := by rw [← hp2, ← hrs]; exact reachOf_len
  have HL := hid (show lostOf xs (ns ++ ts) = [] by rw [← HTS.out]; exact lost_more hok)
  have hwq : IntKind.i64.wrap ((q : Int) + p2) = n := by rw [IntWalk.i64_in _ (by omega)]; omega
  clear hok hrs hp2
  go_wp2_with fail
  refine (impl_ReachOf_e _ _ xs ns rs HRS.out _ X5.out N5.out (by rw [HPP.out]; omega) (HG.out.on d5)).mono ?_
  rintro e w6 ⟨rv, rfl, r6, b6⟩
  obtain ⟨ra, rc, rfl, _, _, _⟩ := (Rd.of_own r6).ints HP2.out
  have d6 := bl_then d5 b6
  have X6 := hid (X5.out.on b6)
  have N6 := hid (N5.out.on b6)
  have T6 := hid (T5.out.on b6)
  clear r6 b6 X5 N5 T5 d5
  have HLN := hid (show (ns ++ ts).length = p + q by rw [List.length_append, HPP.out, HQ.out])
  go_wp2_with (first
    | (at_builtin; refine catG_int (by rfl) _ _ rfl w6.heap.size _ _ [] ns (Own.made w6 (Nat.le_refl _)) (N6.out.on ((Below.refl _ _).alloc (Nat.le_refl _) _)) (by simp) rfl rfl (by simp [HPP.out]; omega) ?_; intro v7 w7 o7 b7 g7; obtain ⟨a7, c7, rfl, _, _, _⟩ := (Rd.of_own o7).ints (n := p) (by simpa using HPP.out); have B67 := ((Below.refl w6.heap.size w6).alloc (Nat.le_refl _) _).trans b7; have T7 := T6.out.on B67; clear b7 g7)
    | (at_builtin; refine catG_int (by rfl) _ _ rfl w6.heap.size _ _ ([] ++ ns) ts o7 T7 B67.size rfl rfl (by simp [HPP.out, HQ.out]; omega) ?_; intro v8 w8 o8 b8 g8; obtain ⟨a8, c8, rfl, _, _, _⟩ := (Rd.of_own o8).ints (n := p + q) HLN.out; have B68 := B67.trans b8; have X8 := X6.out.on B68; have R8 : Ints w8 w8.heap.size _ (ns ++ ts) := Rd.of_own o8; clear b8 g8 o8 o7 T7)
    | (go_at_call 23; refine (impl_LostPrints_e _ _ xs (ns ++ ts) _ HL.out _ X8 R8 (by rw [HLN.out]; omega) (HG.out.on (bl_then d6 B68))).mono ?_; rintro e w9 ⟨lv, rfl, l9, b9⟩; obtain ⟨la, lc, rfl, _, _, _⟩ := (Rd.of_own l9).ints (n := 0) rfl; have d9 := bl_then (bl_then d6 B68) b9; clear l9 b9))
  go_ret
  exact ⟨rfl, d9⟩

end Go.Proofs.YtfdhaigmekmboaaDoor
