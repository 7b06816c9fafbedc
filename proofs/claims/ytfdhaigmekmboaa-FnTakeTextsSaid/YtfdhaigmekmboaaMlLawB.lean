/- Walks: the law on taken texts. -/
import Derived.Test.YtfdhaigmekmboaaMg8
import Derived.Test.YtfdhaigmekmboaaMlLawA
namespace Go.Proofs.Ytfdhaigmekmboaa
open Go.RowKit

theorem Own.apartA {α : Type} {enc : α → List Value} {e k B : Nat} {w w' : World} {v : Value} {xs : List α} {row : Option Nat} (h : Own enc e k w B v xs) (hg : w.grownBy w' row) (hr : ∀ b, v.ownBlock = some b → row ≠ some b) : Own enc e k w' B v xs :=
  h.kept hg (by
    cases hv : v.ownBlock with
    | none => exact .inl rfl
    | some g => exact .inr (Ne.symm (hr g hv)))
theorem gb_row {w1 wr w' : World} {g0 : Nat} {row : Option Nat} (h : w1.grownBy wr (some g0)) (hg : wr.grownBy w' row) (hr : ∀ g, row = some g → w1.heap.size ≤ g) : w1.grownBy w' (some g0) := gb_out h hg (fun g e => .inr (hr g e))
/-- A drawn store, numbers, and texts. -/
def TakeB (w : World) (e : Ending) (w' : World) : Prop :=
  ∃ (v u t : Value) (xs : List Pc) (ns : List Int) (ts : List ByteArray), e = .returned (.tuple #[v, u, t]) ∧ OwnP w' w.heap.size v xs ∧ Drawn xs ∧ OwnI w' w.heap.size u ns ∧ ns.length ≤ 12 ∧ OwnS w' w.heap.size t ts ∧ ts.length ≤ 5 ∧ (∀ x ∈ ts, x.size ≤ 61) ∧ Below w.heap.size w w'

set_option maxHeartbeats 2000000 in
set_option maxRecDepth 100000 in
theorem spec_DrawTakeTexts_c (v : Value) (l : List Int) (w : World) (h : Rd encU 1 w w.heap.size v l) (hl : ∀ x ∈ l, 0 ≤ x ∧ x ≤ 255) :
    Calls Try.prog 19 #[v] w (TakeB w) := by
  go_enter Try.func19, Try.ntmps19
  go_wp2_with fail
  refine (spec_l20Open_c v l w h hl).mono ?_
  rintro e w1 ⟨l', rfl, r1, b1⟩
  have hg1 := r1.lt
  clear h hl
  go_wp2_with fail
  refine (spec_l20Asked_c _ l' 9 _ r1 (by omega) (by omega)).mono ?_
  rintro e w2 ⟨sv, nv, xs, ns, p2, rfl, o2, hd, a2, hns, hab, hp2, r2, g2⟩
  have s1 := b1.size
  have s2 := g2.size
  obtain ⟨B, hB⟩ : ∃ B, w2.heap.size = B := ⟨_, rfl⟩
  have HBB := hid hB
  have HSB := hid (show ∀ b, sv.ownBlock = some b → b < B from fun b hb => by have := (o2.lt b hb).2; omega)
  have HNB := hid (show ∀ b, nv.ownBlock = some b → b < B from fun b hb => by have := (a2.lt b hb).2; omega)
  have HAB := hid hab
  have HD := hid hd
  have O2 := hid (o2.alloc (.cells #[] 9))
  have A2 := hid (a2.alloc (.cells #[] 9))
  have R2 := hid (r2.alloc (.cells #[] 9))
  have hown0 : Hid (OwnS (w2.alloc (.cells #[] 9)) B (.slice (some ⟨w2.heap.size, 0, none⟩) 0 0) []) := hid (Own.made _ (by omega))
  have G2 := hid (gb_alloc g2 (.cells #[] 9))
  have HB1 := hid b1
  clear o2 a2 r2 g2 r1 hd b1 hab hB
  go_wp2_with fail
  refine (spec_pick_c _ p2 l' 5 _ R2.out (by omega)).mono ?_
  rintro e w3 ⟨x, rfl, x0, x3, _, r3, g3⟩
  have x3' := x3 (by omega)
  obtain ⟨m, rfl⟩ : ∃ m : Nat, x = m := ⟨x.toNat, by omega⟩
  have R3 := hid r3
  have G3 := hid (G2.out.trans g3)
  have O3 := hid (O2.out.far g3 (fun b hb => by simp at hb; omega))
  have A3 := hid (A2.out.far g3 (fun b hb => by simp at hb; omega))
  have T3 := hid (hown0.out.far g3 (fun b hb => by simp at hb; have := HBB.out; omega))
  have s3 := g3.size
  clear r3 g3 x3 O2 A2 R2 G2 hown0
  go_wp2
  go_loopw [8, 9] (fun tv kv wr => ∃ (q p' : Nat) (ts : List ByteArray), q ≤ m ∧ kv = .int .i64 q ∧ Hid (OwnS wr B tv ts) ∧ ts.length + q = m ∧ Hid (∀ x ∈ ts, x.size ≤ 61) ∧ Hid (OwnP wr w1.heap.size sv xs) ∧ Hid (OwnI wr w1.heap.size nv ns) ∧ B ≤ wr.heap.size ∧ p' + 2 * q ≤ p2 + 1 + 2 * m ∧ Hid (Reader wr w.heap.size l' p') ∧ Hid (w1.grownBy wr (some w.heap.size))) (fun _ k _ => (intOf k).toNat)
  case atStart => exact ⟨m, p2 + 1, [], Nat.le_refl _, rfl, T3, by simp, hid (by simp), O3, A3, by simp at s3; have := HBB.out; omega, by omega, R3, G3⟩
  case round =>
    obtain ⟨q, p', ts, hq, rfl, T, htl, HT, O, A, hBw, hp', R, G⟩ := hrel
    by_cases hq0 : 0 < q
    · go_wp2_with fail
      refine (spec_l20Text_c _ p' l' 9 _ R.out (by omega) (by omega) (by omega)).mono ?_
      rintro e w4 ⟨s, p4, rfl, hs, hp4, r4, g4⟩
      have R4 := hid r4
      have G4 := hid (G.out.trans g4)
      have O4 := hid (O.out.far g4 (fun b hb => by simp at hb; omega))
      have A4 := hid (A.out.far g4 (fun b hb => by simp at hb; omega))
      have T4 := T.out.far g4 (fun b hb => by simp at hb; have := HBB.out; omega)
      have s4 := g4.size
      clear r4 g4 O A T R G
      go_wp2_with (at_builtin; refine push_str (w0 := w4) (wr := w4) rfl _ _ rfl B B _ ts s T4 (Below.refl _ _) (by omega) (Nat.le_refl _) rfl rfl (by omega) ?_; intro v' w' hown' _ hB' hg')
      have T5 := hid hown'
      have O5 := hid (O4.out.apartA hg'.1 (fun b hb e => by have := HSB.out b hb; have := (T4.lt b e).1; omega))
      have A5 := hid (A4.out.apartA hg'.1 (fun b hb e => by have := HNB.out b hb; have := (T4.lt b e).1; omega))
      have R5 := hid (R4.out.kept hg'.1 (fun b hb => by have := (T4.lt b hb).1; have := HBB.out; omega))
      have G5 := hid (gb_row G4.out hg'.1 (fun b hb => by have := (T4.lt b hb).1; have := HBB.out; omega))
      have HT5 := hid (show ∀ x ∈ ts ++ [s], x.size ≤ 61 from fun x hx => by
        rcases List.mem_append.1 hx with h | h
        · exact HT.out x h
        · simp at h; subst h; exact hs)
      have hB5 := hB'
      clear hown' hg' O4 A4 T4 R4 G4 HT hB'
      go_wp2
      go_roundw
      case rel => exact ⟨q - 1, p4, _, by omega, by go_num, T5, by simp; omega, HT5, O5, A5, hB5, by omega, R5, G5⟩
      case measure => simp [intOf]; omega
    · obtain ⟨n, hn⟩ : ∃ n, ts.length = n := ⟨_, rfl⟩
      have HN := hid hn
      have hn4 : n ≤ 5 := by omega
      obtain ⟨ta, tc, rfl, _, _, _⟩ := (Rd.of_own T.out).strs hn
      clear hn O3 A3 T3 R3 G3
      go_wp2
      go_loopw [7, 10] (fun uv kv wr2 => ∃ (j p'' : Nat) (ms : List Int), j ≤ n ∧ kv = .int .i64 j ∧ Hid (OwnS wr2 B (.slice ta n tc) ts) ∧ Hid (OwnP wr2 w1.heap.size sv xs) ∧ Hid (OwnI wr2 w1.heap.size uv ms) ∧ ms.length ≤ 6 + j ∧ Hid (∀ b, uv.ownBlock = some b → sv.ownBlock ≠ some b ∧ (Value.slice ta n tc).ownBlock ≠ some b) ∧ B ≤ wr2.heap.size ∧ p'' ≤ p' + j ∧ Hid (Reader wr2 w.heap.size l' p'') ∧ Hid (w1.grownBy wr2 (some w.heap.size))) (fun _ k _ => n - (intOf k).toNat)
      case atStart => exact ⟨0, p', ns, Nat.zero_le _, rfl, T, O, A, by omega, hid (fun b hb => ⟨fun e => HAB.out b b e hb rfl, fun e => by have := HNB.out b hb; have := (T.out.lt b e).1; omega⟩), hBw, by omega, R, G⟩
      case round =>
        obtain ⟨j, p'', ms, hj, rfl, T6, O6, A6, hml, hne, hB6, hp6, R6, G6⟩ := hrel
        by_cases hjn : j < n
        · have hjn' : (j : Int) < n := by omega
          go_wp2_with fail
          refine (spec_pick_c _ p'' l' 2 _ R6.out (by omega)).mono ?_
          rintro e w7 ⟨z, rfl, z0, z3, _, r7, g7⟩
          have R7 := hid r7
          have G7 := hid (G6.out.trans g7)
          have O7 := hid (O6.out.far g7 (fun b hb => by simp at hb; omega))
          have A7 := A6.out.far g7 (fun b hb => by simp at hb; omega)
          have T7 := hid (T6.out.far g7 (fun b hb => by simp at hb; have := HBB.out; omega))
          have s7 := g7.size
          clear r7 g7 z3 O6 A6 T6 R6 G6
          by_cases hz0 : z = 0
          · have hzd : (z == 0) = true := by simp [hz0]
            clear hz0 z0
            obtain ⟨a', c', hv', _, _, ht3⟩ := (Rd.of_own T7.out).strs HN.out
            simp only [Value.slice.injEq] at hv'
            obtain ⟨rfl, _, rfl⟩ := hv'
            obtain ⟨b, o, t, rfl, hbl, hx, k0⟩ := ht3 j hjn
            have hts := HT.out t (List.mem_of_getElem? hx.out)
            have HTS := hid (show t.size ≤ 4611686018427387904 by omega)
            obtain ⟨pz, hpz⟩ : ∃ pz, printOf (bs t) = pz := ⟨_, rfl⟩
            have HPZ := hid hpz
            clear ht3 hpz
            go_wp2_with (first | (go_at_call 35; refine (spec_PrintOf_e _ _ HTS.out HPZ.out).mono ?_; rintro e w8 ⟨rfl, rfl⟩) | (at_builtin; refine push_int (w0 := w7) (wr := w7) rfl _ _ rfl w1.heap.size w1.heap.size _ ms pz A7 (Below.refl _ _) (by have := HBB.out; omega) (Nat.le_refl _) rfl rfl (by omega) ?_; intro v' w' hown' _ hB' hg'))
            have A8 := hid hown'
            have O8 := hid (O7.out.apartA hg'.1 (fun b hb e => (hne.out b e).1 hb))
            have T8 := hid (T7.out.apartA hg'.1 (fun b hb e => (hne.out b e).2 hb))
            have R8 := hid (R7.out.kept hg'.1 (fun b hb => by have := (A7.lt b hb).1; omega))
            have G8 := hid (gb_row G7.out hg'.1 (fun b hb => (A7.lt b hb).1))
            have hs8 := hg'.1.size
            have HNE := hid (show ∀ b, v'.ownBlock = some b → sv.ownBlock ≠ some b ∧ _ ≠ some b from fun b hb => by
              rcases hg'.2 b hb with h | h
              · exact hne.out b h
              · exact ⟨fun e => by have := (O7.out.lt b e).2; omega, fun e => by have := (T7.out.lt b e).2; omega⟩)
            clear hown' hg' hB' O7 A7 T7 R7 G7 hne
            go_wp2
            go_roundw
            case rel => exact ⟨j + 1, p'' + 1, _, by omega, by go_num, T8, O8, A8, by simp; omega, HNE, by omega, by omega, R8, G8⟩
            case measure => simp [intOf]; omega
          · have hzd : (z == 0) = false := by simp [hz0]
            have A8 := hid A7
            clear hz0 z0 A7
            go_wp2
            go_roundw
            case rel => exact ⟨j + 1, p'' + 1, ms, by omega, by go_num, T7, O7, A8, by omega, hne, by omega, by omega, R7, G7⟩
            case measure => simp [intOf]; omega
        · have d9 := HB1.out.grown G6.out s1 (by simp)
          go_wp2
          go_ret3
          exact ⟨_, _, _, xs, ms, ts, rfl, O6.out.less s1, HD.out, A6.out.less s1, by omega, T6.out.less (by have := HBB.out; omega), by have := HN.out; omega, HT.out, d9⟩

/-- What stands in the cells of a row of pieces, numbers, texts. -/
theorem Rd.cellsP {w : World} {B n c : Nat} {a : Option Addr} {xs : List Pc} (h : Pcs w B (.slice a n c) xs) (hn : xs.length = n) :
    ∀ i, i < n → ∃ (b o : Nat) (r : Int) (t : ByteArray), a = some ⟨b, o, none⟩ ∧ b < B ∧ Hid (xs[i]? = some ⟨r, t⟩) ∧ w.cell? ⟨b, o + i * 2, none⟩ = some (.int .i64 r) ∧ w.cell? ⟨b, o + i * 2 + 1, none⟩ = some (.string t) := by
  obtain ⟨a', c', hv', _, _, h3'⟩ := h.pcs hn
  simp only [Value.slice.injEq] at hv'
  obtain ⟨rfl, _, rfl⟩ := hv'
  exact h3'
theorem Rd.cellsI {w : World} {B n c : Nat} {a : Option Addr} {xs : List Int} (h : Ints w B (.slice a n c) xs) (hn : xs.length = n) :
    ∀ i, i < n → ∃ b o x, a = some ⟨b, o, none⟩ ∧ b < B ∧ Hid (xs[i]? = some x) ∧ w.cell? ⟨b, o + i, none⟩ = some (.int .i64 x) := by
  obtain ⟨a', c', hv', _, _, h3'⟩ := h.ints hn
  simp only [Value.slice.injEq] at hv'
  obtain ⟨rfl, _, rfl⟩ := hv'
  exact h3'

theorem Rd.cellsS {w : World} {B n c : Nat} {a : Option Addr} {xs : List ByteArray} (h : Strs w B (.slice a n c) xs) (hn : xs.length = n) :
    ∀ i, i < n → ∃ b o x, a = some ⟨b, o, none⟩ ∧ b < B ∧ Hid (xs[i]? = some x) ∧ w.cell? ⟨b, o + i, none⟩ = some (.string x) := by
  obtain ⟨a', c', hv', _, _, h3'⟩ := h.strs hn
  simp only [Value.slice.injEq] at hv'
  obtain ⟨rfl, _, rfl⟩ := hv'
  exact h3'

set_option maxHeartbeats 2000000 in
set_option maxRecDepth 100000 in
theorem laws_FnTakeTexts_c (v : Value) (l : List Int) (w : World) (h : Rd encU 1 w w.heap.size v l) (hl : ∀ x ∈ l, 0 ≤ x ∧ x ≤ 255) :
    Calls Try.prog 5 #[v] w fun e w' => e = .returned (.bool true) ∧ Below w.heap.size w w' := by
  obtain ⟨n0, hn0⟩ : ∃ n, l.length = n := ⟨_, rfl⟩
  obtain ⟨a, c, rfl, _, _, _⟩ := Rd.openN h (fun _ => rfl) hn0
  by_cases hbig : 1048576 < n0
  · go_enter Try.func5, Try.ntmps5
    go_wp2
    go_ret
    exact ⟨rfl, Below.refl _ _⟩
  go_enter Try.func5, Try.ntmps5
  go_wp2_with fail
  refine (spec_DrawTakeTexts_c _ l w h hl).mono ?_
  rintro e w1 ⟨sv, nv, tv, xs, ns, ts, rfl, o1, hd, a1, hns, t1, hts, htz, b1⟩
  clear h hl hn0
  obtain ⟨n, hn⟩ : ∃ n, xs.length = n := ⟨_, rfl⟩
  obtain ⟨m, hm⟩ : ∃ m, ts.length = m := ⟨_, rfl⟩
  obtain ⟨xa, xc, rfl, _, _, _⟩ := (Rd.of_own o1).pcs hn
  obtain ⟨ta, tc, rfl, _, _, _⟩ := (Rd.of_own t1).strs hm
  have HN := hid hn
  have HM := hid hm
  have HD := hid hd
  have hn41 : n ≤ 41 := by rw [← hn]; exact hd.2.1
  have hm5 : m ≤ 5 := by omega
  have HTZ := hid (show ∀ t ∈ ts, t.size ≤ 1048576 from fun t ht => by have := htz t ht; omega)
  have X1 := hid (Rd.of_own o1)
  have N1 := hid (Rd.of_own a1)
  have T1 := hid (Rd.of_own t1)
  clear o1 a1 t1 hn hm hd hns hts htz
  obtain ⟨⟨ys, z⟩, hR⟩ : ∃ R, takeTexts xs ns ts = R := ⟨_, rfl⟩
  have HR := hid hR
  obtain ⟨q, hq⟩ : ∃ q, ys.length = q := ⟨_, rfl⟩
  have HQ := hid hq
  clear hR hq
  go_wp2_with fail
  refine (impl_TakeTexts_c _ _ _ xs ns ts _ X1.out N1.out T1.out (by have := HM.out; omega)).mono ?_
  rw [HR.out]
  rintro e w2 ⟨yv, rfl, y2, b2⟩
  obtain ⟨ya, yc, rfl, _, _, _⟩ := (Rd.of_own y2).pcs HQ.out
  have d2 := bl_then b1 b2
  have X2 := hid (X1.out.on b2)
  have N2 := hid (N1.out.on b2)
  have T2 := hid (T1.out.on b2)
  have Y2 := hid (Rd.of_own y2)
  clear y2 b2 X1 N1 T1 b1
  go_wp2_with fail
  refine (spec_TakeTexts_c _ _ _ xs ns ts _ X2.out N2.out T2.out HD.out.sizes.1 HD.out.sizes.2 (by have := HM.out; omega) HTZ.out).mono ?_
  rw [HR.out]
  rintro e w3 ⟨uv, rfl, u3, b3⟩
  have d3 := bl_then d2 b3
  have X3 := hid (X2.out.on b3)
  have N3 := hid (N2.out.on b3)
  have Y3 := hid (Y2.out.on b3)
  have U3 := hid (Rd.of_own u3)
  clear u3 b3 X2 N2 T2 Y2 d2
  go_wp2_with fail
  refine (laws_samePieces_s _ _ ys _ _ _ Y3.out U3.out).mono ?_
  rintro e w4 ⟨rfl, z4, rfl⟩
  obtain ⟨w5, hw5⟩ : ∃ w5, w5 = w3.drewN z4 := ⟨_, rfl⟩
  have d5 : Below w.heap.size w w5 := by rw [hw5]; exact bl_drewN d3 z4
  have X5 : Hid (Pcs w5 w5.heap.size (.slice xa n xc) xs) := by rw [hw5]; exact X3.out.drewN z4
  have N5 : Hid (Ints w5 w5.heap.size nv ns) := by rw [hw5]; exact N3.out.drewN z4
  have Y5 : Hid (Pcs w5 w5.heap.size (.slice ya q yc) ys) := by rw [hw5]; exact Y3.out.drewN z4
  rw [← hw5]
  clear X3 N3 Y3 U3 d3 hw5
  have hcX := hid (X5.out.cellsP HN.out)
  have hcY := hid (Y5.out.cellsP HQ.out)
  cases hok : storeOk xs
  · obtain ⟨rfl, rfl⟩ : ys = [] ∧ z = -1 := by
      have := HR.out
      unfold takeTexts at this
      rw [hok] at this
      simp at this
      exact ⟨this.1, this.2.symm⟩
    have hq0 : q = 0 := by have := HQ.out; simpa using this.symm
    have hqd : ((q : Int) == 0) = true := by rw [hq0]; rfl
    clear hok hq0
    go_wp2_with (go_at_call 14; refine (laws_alive_c _).mono ?_; rintro e w7 ⟨rfl, rfl⟩)
    go_ret
    exact ⟨rfl, d5⟩
  · obtain ⟨ys', b', e', hys, hle, hin, hb', hlen⟩ := lw_take hok ns ts
    obtain ⟨rfl, rfl⟩ : ys = ys' ∧ z = (b' : Int) := by
      have := HR.out.symm.trans e'
      simpa using this
    have HOK := hid hok
    have HYS := hid hys
    have HLE := hid hle
    have HIN := hid hin
    have hb1 : (b' : Int) ≤ m := by have := HM.out; omega
    have hz0 : (0 : Int) ≤ (b' : Int) := by omega
    have hl1 : (q : Int) ≤ (n : Int) + (m : Int) - (b' : Int) := by have := HM.out; have := HN.out; have := HQ.out; omega
    have hq40 : q ≤ 40 := by have := (st_in hys).1; have := HQ.out; omega
    clear hok e' hys hle hin hb' hlen HR
    go_wp2
    go_loopw [10, 11, 12] (fun kv _ _ wr => ∃ k : Nat, k ≤ q ∧ kv = .int .i64 k ∧ Below w5.heap.size w5 wr) (fun kv _ _ _ => q - (intOf kv).toNat)
    case atStart => exact ⟨0, Nat.zero_le _, rfl, Below.refl _ _⟩
    case round =>
      obtain ⟨k, hk, rfl, hb⟩ := hrel
      by_cases hlt : k < q
      · obtain ⟨b, o, r, t, rfl, hbl, hx, k0, k1⟩ := hcY.out k hlt
        have HB := hid hbl
        have HK0 := hid k0
        have hkq : (k : Int) < q := by omega
        have k2 := (hb.cell (p := ⟨b, o + k * 2, none⟩) hbl).trans k0
        have HT := hid (show getText xs r = ((getP xs r).getD ByteArray.empty, hasP xs r) from getText_on HOK.out r)
        obtain ⟨y, hy⟩ : ∃ y, hasP xs r = y := ⟨_, rfl⟩
        have HII := hid (show y = true ∨ hasI ns r = true by rw [← hy]; exact HIN.out _ (List.mem_of_getElem? hx.out))
        rw [hy] at HT
        clear hy k0 k1
        go_wp2_with fail
        refine (impl_GetText_c _ xs r _ (X5.out.on hb)).mono ?_
        rw [HT.out]
        rintro e w7 ⟨rfl, b7⟩
        have hb7 := bl_then hb b7
        have k7 := (hb7.cell (p := ⟨b, o + k * 2, none⟩) HB.out).trans HK0.out
        clear b7 k2
        cases y
        · have HHI := hid (show hasI ns r = true by
            rcases HII.out with h | h
            · cases h
            · exact h)
          go_wp2_with fail
          refine (laws_hasInt_c _ ns r _ _ (N5.out.on hb7)).mono ?_
          rw [HHI.out]
          rintro e w8 ⟨rfl, rfl⟩
          go_wp2
          go_roundw
          case rel => exact ⟨k + 1, by omega, by go_num, hb7⟩
          case measure => simp [intOf]; omega
        · go_wp2
          go_roundw
          case rel => exact ⟨k + 1, by omega, by go_num, hb7⟩
          case measure => simp [intOf]; omega
      · go_wp2
        go_loopw [13, 14, 15] (fun kv _ _ wr2 => ∃ j : Nat, j ≤ n ∧ kv = .int .i64 j ∧ Below w5.heap.size w5 wr2) (fun kv _ _ _ => n - (intOf kv).toNat)
        case atStart => exact ⟨0, Nat.zero_le _, rfl, hb⟩
        case round =>
          obtain ⟨j, hj, rfl, hb2⟩ := hrel
          by_cases hjn : j < n
          · obtain ⟨b, o, r, t, rfl, hbl, hx, k0, k1⟩ := hcX.out j hjn
            have HB := hid hbl
            have HK1 := hid k1
            have hkq : (j : Int) < n := by omega
            have k2 := (hb2.cell (p := ⟨b, o + j * 2, none⟩) hbl).trans k0
            have HT := hid (show getText ys r = (t, true) by
              have h1 := HLE.out r t ((getP_iff HOK.out).2 (List.mem_of_getElem? hx.out))
              rw [getText_on HYS.out, h1, get_has h1]; rfl)
            clear k0 k1
            go_wp2_with fail
            refine (impl_GetText_c _ ys r _ (Y5.out.on hb2)).mono ?_
            rw [HT.out]
            rintro e w7 ⟨rfl, b7⟩
            have hb7 := bl_then hb2 b7
            have k7 := (hb7.cell (p := ⟨b, o + j * 2 + 1, none⟩) HB.out).trans HK1.out
            clear b7 k2
            go_wp2
            go_roundw
            case rel => exact ⟨j + 1, by omega, by go_num, hb7⟩
            case measure => simp [intOf]; omega
          · go_wp2_with fail
            refine (impl_StoreValid_c _ ys _ (Y5.out.on hb2)).mono ?_
            rw [HYS.out]
            rintro e w7 ⟨rfl, b7⟩
            have d9 := bl_then d5 (bl_then hb2 b7)
            clear b7
            go_wp2
            go_ret
            exact ⟨rfl, d9⟩

end Go.Proofs.Ytfdhaigmekmboaa
