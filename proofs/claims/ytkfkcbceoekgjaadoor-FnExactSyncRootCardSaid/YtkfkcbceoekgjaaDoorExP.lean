/- Walks: the exact laws' helpers at rows of pieces. -/
import Derived.Test.YtkfkcbceoekgjaaDoorPcs
import Derived.Test.YtkfkcbceoekgjaaDoorExI
import Derived.Test.YtkfkcbceoekgjaaDoorMark
import Derived.Test.YtkfkcbceoekgjaaDoorInvV
import Derived.Laws.ResultCell
import Derived.Handy
namespace Go.Proofs.YtkfkcbceoekgjaaDoor
open Go.RowKit

set_option maxHeartbeats 400000 in
theorem laws_szPiece_c (v : Pc) (left : Int) (w : World) (h : v.text.size ≤ 9223372036854775807) (h0 : 0 ≤ left) (h1 : left ≤ 1048576) :
    Calls Tryd.prog 23 #[pcv v, .int .i64 left] w fun e w' => e = .returned (.int .i64 (if left < v.text.size then -1 else left - v.text.size)) ∧ Below w.heap.size w w' := by
  obtain ⟨r, t⟩ := v
  simp only at h ⊢
  by_cases hl : left < t.size
  · rw [if_pos hl]
    go_enter Tryd.func23, Tryd.ntmps23
    go_wp2
    go_ret
    exact ⟨rfl, (Below.refl _ _).alloc (Nat.le_refl _) _⟩
  · rw [if_neg hl]
    have hl' : 0 ≤ left - t.size := by omega
    go_enter Tryd.func23, Tryd.ntmps23
    go_wp2
    go_ret
    exact ⟨rfl, (Below.refl _ _).alloc (Nat.le_refl _) _⟩

set_option maxHeartbeats 400000 in
theorem laws_toPiece_c (v : Pc) (w : World) :
    Calls Tryd.prog 26 #[pcv v] w fun e w' => e = .returned (pcv v) ∧ Below w.heap.size w w' := by
  obtain ⟨r, t⟩ := v
  go_enter Tryd.func26, Tryd.ntmps26
  go_wp2
  go_returns
  refine ⟨rfl, ?_⟩
  go_grown

set_option maxHeartbeats 400000 in
theorem laws_eqPiece_c (v : Pc) (w : World) :
    Calls Tryd.prog 30 #[pcv v, pcv v] w fun e w' => e = .returned (.bool true) ∧ Below w.heap.size w w' := by
  obtain ⟨r, t⟩ := v
  go_enter Tryd.func30, Tryd.ntmps30
  go_wp2
  go_ret
  exact ⟨rfl, ((Below.refl _ _).alloc (Nat.le_refl _) _).alloc (by simp) _⟩

set_option maxHeartbeats 2000000 in
set_option maxRecDepth 100000 in
theorem laws_szPieceS_c (v : Value) (xs : List Pc) (left : Int) (w : World) (h : Pcs w w.heap.size v xs) (hx : ∀ x ∈ xs, x.text.size ≤ 9223372036854775807) (h0 : 0 ≤ left) (h1 : left ≤ 1048576) :
    Calls Tryd.prog 7 #[v, .int .i64 left] w fun e w' => e = .returned (.int .i64 (szLeftP left xs)) ∧ Below w.heap.size w w' := by
  obtain ⟨n, hn⟩ : ∃ n, xs.length = n := ⟨_, rfl⟩
  obtain ⟨a, c, rfl, c1, c2, h3⟩ := h.pcs hn
  have HN := hid hn
  have HX := hid hx
  clear hn h hx
  by_cases hl : left < n
  · have HO := hid (show szLeftP left xs = -1 by unfold szLeftP; rw [if_pos]; rw [HN.out]; omega)
    have hl' : left - n < 0 := by omega
    clear h3
    go_enter Tryd.func7, Tryd.ntmps7
    go_wp2
    go_ret
    exact ⟨ret_i HO.out.symm, Below.refl _ _⟩
  · have hl' : 0 ≤ left - n := by omega
    have hw1 : IntKind.i64.wrap (left - n) = left - n := IntWalk.i64_in _ (by omega)
    go_enter Tryd.func7, Tryd.ntmps7
    go_wp2
    go_loopw [1, 5] (fun lf i wr => ∃ (k : Nat) (x : Int), k ≤ n ∧ i = .int .i64 k ∧ lf = .int .i64 x ∧ 0 ≤ x ∧ x ≤ 1048576 ∧ Hid (x = left - n - szPcs (xs.take k)) ∧ Below w.heap.size w wr) (fun _ i _ => n - (intOf i).toNat)
    case atStart => exact ⟨0, _, Nat.zero_le _, rfl, rfl, hl', by omega, by simp [Hid, szPcs], Below.refl _ _⟩
    case round =>
      obtain ⟨k, x, hk, rfl, rfl, x0, x1, hxe, hb⟩ := hrel
      clear hw1 hl' hl
      by_cases hlt : k < n
      · obtain ⟨b, o, r, t, rfl, hbl, hx, k0, k1⟩ := h3 k hlt
        have j0 := (hb.cell (p := ⟨b, o + k * 2, none⟩) hbl).trans k0
        have j1 := (hb.cell (p := ⟨b, o + k * 2 + 1, none⟩) hbl).trans k1
        have hs := hid (szPcs_succ hx.out)
        have hst := hid (szPcs_take xs (k + 1))
        have HT := hid (HX.out _ (List.mem_of_getElem? hx.out))
        clear k0 k1 h3
        by_cases hq : x < t.size
        · have HI := hid (show (if x < (t.size : Int) then -1 else x - (t.size : Int)) = -1 by rw [if_pos hq])
          have HO := hid (show szLeftP left xs = -1 by unfold szLeftP; rw [if_pos]; have h1 : szPcs (xs.take (k + 1)) = szPcs (xs.take k) + t.size := hs.out; have h2 := hst.out; have h3 := hxe.out; have h4 := HN.out; omega)
          go_wp2_with fail
          refine (laws_szPiece_c ⟨r, t⟩ x _ HT.out x0 x1).mono ?_
          rw [HI.out]
          rintro q w4 ⟨rfl, b4⟩
          go_wp2
          go_ret
          exact ⟨ret_i HO.out.symm, bl_then hb b4⟩
        · have HI := hid (show (if x < (t.size : Int) then -1 else x - (t.size : Int)) = x - t.size by rw [if_neg hq])
          have hq0 : 0 ≤ x - (t.size : Int) := by omega
          go_wp2_with fail
          refine (laws_szPiece_c ⟨r, t⟩ x _ HT.out x0 x1).mono ?_
          rw [HI.out]
          rintro q w4 ⟨rfl, b4⟩
          go_wp2
          go_roundw
          case rel => exact ⟨k + 1, _, by omega, by go_num, rfl, hq0, by omega, by have h1 : szPcs (xs.take (k + 1)) = szPcs (xs.take k) + t.size := hs.out; have h2 := hxe.out; unfold Hid; omega, bl_then hb b4⟩
          case measure => simp [intOf]; omega
      · have hxe' := hxe.out
        rw [take_all HN.out (show n ≤ k by omega)] at hxe'
        have HO := hid (show szLeftP left xs = x by unfold szLeftP; rw [if_neg (by rw [HN.out]; omega), HN.out, hxe'])
        clear hxe' h3
        go_wp2
        go_ret
        exact ⟨ret_i HO.out.symm, hb⟩

set_option maxHeartbeats 2000000 in
set_option maxRecDepth 100000 in
theorem laws_eqPieceS_c (v u : Value) (xs : List Pc) (w : World) (h : Pcs w w.heap.size v xs) (h' : Pcs w w.heap.size u xs) :
    Calls Tryd.prog 12 #[v, u] w fun e w' => e = .returned (.bool true) ∧ Below w.heap.size w w' := by
  obtain ⟨n, hn⟩ : ∃ n, xs.length = n := ⟨_, rfl⟩
  obtain ⟨a, c, rfl, c1, c2, h3⟩ := h.pcs hn
  obtain ⟨a', c', rfl, c1', c2', h3'⟩ := h'.pcs hn
  clear hn h h'
  go_enter Tryd.func12, Tryd.ntmps12
  go_wp2
  go_loopw [5] (fun i wr => ∃ (k : Nat), k ≤ n ∧ i = .int .i64 k ∧ Below w.heap.size w wr) (fun i _ => n - (intOf i).toNat)
  case atStart => exact ⟨0, Nat.zero_le _, rfl, Below.refl _ _⟩
  case round =>
    obtain ⟨k, hk, rfl, hb⟩ := hrel
    by_cases hlt : k < n
    · obtain ⟨b, o, r, t, rfl, hbl, hx, k0, k1⟩ := h3 k hlt
      obtain ⟨b', o', r', t', rfl, hbl', hx', k0', k1'⟩ := h3' k hlt
      obtain ⟨rfl, rfl⟩ : r = r' ∧ t = t' := by have := hx.out.symm.trans hx'.out; simpa using this
      have j0 := (hb.cell (p := ⟨b, o + k * 2, none⟩) hbl).trans k0
      have j1 := (hb.cell (p := ⟨b, o + k * 2 + 1, none⟩) hbl).trans k1
      have i0 := (hb.cell (p := ⟨b', o' + k * 2, none⟩) hbl').trans k0'
      have i1 := (hb.cell (p := ⟨b', o' + k * 2 + 1, none⟩) hbl').trans k1'
      have hs := hb.size
      clear k0 k1 k0' k1' h3 h3' hx hx'
      go_wp2_with fail
      refine wp_region_early (n := 8) _ rfl rfl (by kernel_rfl) (by kernel_rfl) (fun _ _ _ _ h => h) ?_
      simp only [List.take_succ_cons, List.take_zero, List.drop_succ_cons, List.drop_zero, Act.put, Act.eval, List.setIfInBounds_toArray, List.set_cons_succ, List.set_cons_zero]
      repeat (go_big_quiet_step (fail))
      refine wpQuiet_nil ?_
      intro q1
      go_wp2_with fail
      refine (laws_eqPiece_c ⟨r, t⟩ _).mono ?_
      rintro q w4 ⟨rfl, b4⟩
      have hb4 := bl_then (bl_drewN hb q1) b4
      clear b4
      go_wp2
      go_roundw
      case rel => exact ⟨k + 1, by omega, by go_num, hb4⟩
      case measure => simp [intOf]; omega
    · go_wp2
      go_ret
      exact ⟨rfl, hb⟩

theorem info_pc : (Tryd.prog.info? 43).map (fun i => (i.zero, i.size, i.bytes)) = some (some (.agg #[.int .i64 0, .string ByteArray.empty]), 2, 24) := by kernel_rfl

/-- Two cells of a row of the call's own are written. -/
theorem row_set2 {w : World} {base g n c k : Nat} {cs : List Value} {x y : Value} (h : w.ownsRow base 43 2 (.slice (some ⟨g, 0, none⟩) n c) n cs) :
    ((w.setCell ⟨g, k * 2, none⟩ x).setCell ⟨g, k * 2 + 1, none⟩ y).ownsRow base 43 2 (.slice (some ⟨g, 0, none⟩) n c) n ((cs.set (k * 2) x).set (k * 2 + 1) y) ∧
    w.grownBy ((w.setCell ⟨g, k * 2, none⟩ x).setCell ⟨g, k * 2 + 1, none⟩ y) (some g) := by
  have h1 := h.stored (k * 2) x
  have h2 := h1.1.stored (k * 2 + 1) y
  exact ⟨h2.1, h1.2.trans h2.2⟩

theorem row_set1P {w : World} {base g n c j : Nat} {cs : List Value} (h : w.ownsRow base 43 2 (.slice (some ⟨g, 0, none⟩) n c) n cs) (x : Value) :
    (w.setCell ⟨g, j, none⟩ x).ownsRow base 43 2 (.slice (some ⟨g, 0, none⟩) n c) n (cs.set j x) ∧ w.grownBy (w.setCell ⟨g, j, none⟩ x) (some g) := h.stored j x

set_option maxHeartbeats 2000000 in
set_option maxRecDepth 100000 in
theorem laws_toPieceS_c (v : Value) (xs : List Pc) (w : World) (h : Pcs w w.heap.size v xs) (hn0 : xs.length ≤ 1048576) :
    Calls Tryd.prog 9 #[v] w fun e w' => ∃ v', e = .returned v' ∧ Own encP 43 2 w' w.heap.size v' xs ∧ Below w.heap.size w w' := by
  obtain ⟨n, hn⟩ : ∃ n, xs.length = n := ⟨_, rfl⟩
  obtain ⟨a, c, rfl, h1, h2, h3⟩ := h.pcs hn
  rw [hn] at hn0
  have HN := hid hn
  clear hn
  obtain ⟨i0, hi, hz0, hz1, hz2⟩ := info_parts info_pc
  go_enter Tryd.func9, Tryd.ntmps9
  go_wp2_with (at_make; refine wpList_make_full _ rfl _ _ 26 rfl w.heap.size 43 i0 (.agg #[.int .i64 0, .string ByteArray.empty]) 2 Tryd.underlying26 hi hz0 hz1 _ _ _ _ n rfl rfl rfl rfl ?b2 ?b3 (Nat.le_refl _) ?_)
  case b2 => rw [hz2]; omega
  case b3 => unfold maxLen; omega
  intro w1 hown hg
  have hb1 : Below w.heap.size w w1 := (Below.refl _ _).grown hg (Nat.le_refl _) (by simp)
  go_wp2
  go_loopw [4] (fun i wr => ∃ (k : Nat) (cs : List Value), k ≤ n ∧ i = .int .i64 k ∧ wr.ownsRow w.heap.size 43 2 (.slice (some ⟨w.heap.size, 0, none⟩) n n) n cs ∧ Pre cs (xs.flatMap encP) (k * 2) ∧ Below w.heap.size w wr) (fun i _ => n - (intOf i).toNat)
  case atStart => exact ⟨0, _, Nat.zero_le _, rfl, hown, Pre.zero (by rw [hown.1, flatP_len, HN.out]), hb1⟩
  case round =>
    obtain ⟨k, cs, hk, rfl, hown', hpre, hb⟩ := hrel
    clear hown hg hb1
    by_cases hlt : k < n
    · obtain ⟨b, o, r, t, rfl, hbl, hx, k0, k1⟩ := h3 k hlt
      have j0 := (hb.cell (p := ⟨b, o + k * 2, none⟩) hbl).trans k0
      have j1 := (hb.cell (p := ⟨b, o + k * 2 + 1, none⟩) hbl).trans k1
      have hlen := hid ((flatP_len xs).trans (by rw [HN.out]))
      clear k0 k1 h3
      go_wp2_with fail
      refine (laws_toPiece_c ⟨r, t⟩ _).mono ?_
      rintro q w4 ⟨rfl, b4⟩
      have hown4 := row_onP hown' b4
      have hb4 := bl_then hb b4
      obtain ⟨u0, hu0⟩ := hpre.get (j := k * 2) (by rw [hlen.out]; omega)
      obtain ⟨u1, hu1⟩ := hpre.get (j := k * 2 + 1) (by rw [hlen.out]; omega)
      have d0 : w4.cell? ⟨w.heap.size, k * 2, none⟩ = some u0 := (hown4.cellAt (k * 2) (by omega)).trans hu0
      have d1 : w4.cell? ⟨w.heap.size, k * 2 + 1, none⟩ = some u1 := (hown4.cellAt (k * 2 + 1) (by omega)).trans hu1
      have f0 : w4.frozen? ⟨w.heap.size, k * 2, none⟩ = false := hown4.frozenAt (k * 2)
      have f1 : w4.frozen? ⟨w.heap.size, k * 2 + 1, none⟩ = false := hown4.frozenAt (k * 2 + 1)
      have hst := hid (row_set2 (k := k) (x := .int .i64 r) (y := .string t) hown4)
      have hpr := hid hpre
      have HB := hid hb4
      clear hu0 hu1 hown' hown4 b4 hpre hb hb4
      go_wp2
      go_roundw
      case rel => exact ⟨k + 1, _, by omega, by go_num, hst.out.1, by obtain ⟨e0, e1⟩ := flatP_get hx.out; rw [Nat.succ_mul]; exact (hpr.out.step e0).step e1, HB.out.grown hst.out.2 HB.out.size (fun g hg => by simp at hg; omega)⟩
      case measure => simp [intOf]; omega
    · go_wp2
      go_ret
      refine ⟨_, rfl, ?_, hb⟩
      have e := hpre.all (by rw [flatP_len, HN.out]; omega)
      unfold Own
      rw [HN.out, ← e]
      exact hown'

/-- The marks of a row of pieces. -/
def marksP (k : Int) (n : Nat) : List Pc := (List.range n).map fun (j : Nat) => ⟨k + 2 * j, markT (k + 2 * j + 1)⟩
theorem marksP_len (k : Int) (n : Nat) : (marksP k n).length = n := by simp [marksP]
theorem marksP_get (k : Int) (n j : Nat) (h : j < n) : (marksP k n)[j]? = some ⟨k + 2 * j, markT (k + 2 * j + 1)⟩ := by simp [marksP, h]

set_option maxHeartbeats 2000000 in
set_option maxRecDepth 100000 in
theorem laws_markPieceS_c (v : Value) (base n : Nat) (xs : List Pc) (k : Int) (w : World) (h : Own encP 43 2 w base v xs) (hxn : xs.length = n) (hn : n ≤ 1048576) (k0 : 0 ≤ k) (k1 : k ≤ 1000000000000) :
    Calls Tryd.prog 13 #[v, .int .i64 k] w fun e w' => e = .returned (.int .i64 (k + 2 * n)) ∧ Own encP 43 2 w' base v (marksP k n) ∧ w.grownBy w' v.ownBlock := by
  have h : w.ownsRow base 43 2 v n (xs.flatMap encP) := by have := h; unfold Own at this; rwa [hxn] at this
  have hlen := (flatP_len xs).trans (by rw [hxn])
  rcases h.2 with ⟨rfl, rfl⟩ | ⟨g, cap, cur, rfl, hbg, _, hnc, hcm, _⟩
  · clear hxn h hlen
    go_enter Tryd.func13, Tryd.ntmps13
    go_wp2
    refine wp_loop_rounds 1 ?_
    rw [rounds_succ]
    go_wp2
    go_ret
    exact ⟨ret_i (by simp), by simp [marksP]; exact Own.nil_, World.grownBy.refl _ _⟩
  · have hl := hid hlen
    clear hxn hcm hlen
    go_enter Tryd.func13, Tryd.ntmps13
    go_wp2
    go_loopw [1, 5] (fun kk i wr => ∃ (j : Nat) (cs' : List Value), j ≤ n ∧ i = .int .i64 j ∧ kk = .int .i64 (k + 2 * j) ∧ wr.ownsRow base 43 2 (.slice (some ⟨g, 0, none⟩) n cap) n cs' ∧ Hid (Pre cs' ((marksP k n).flatMap encP) (j * 2)) ∧ w.grownBy wr (some g)) (fun _ i _ => n - (intOf i).toNat)
    case atStart => exact ⟨0, _, Nat.zero_le _, rfl, by simp, h, Pre.zero (by rw [hl.out, flatP_len, marksP_len]), World.grownBy.refl _ _⟩
    case round =>
      obtain ⟨j, cs', hj, rfl, rfl, hown, hcl, hg⟩ := hrel
      clear h
      by_cases hlt : j < n
      · have get : ∀ i, i < n * 2 → ∃ u, cs'[i]? = some u := fun i hi => ⟨cs'[i]'(by rw [hcl.out.1, flatP_len, marksP_len]; exact hi), List.getElem?_eq_getElem _⟩
        obtain ⟨u0, hu0⟩ := get (j * 2) (by omega)
        obtain ⟨u1, hu1⟩ := get (j * 2 + 1) (by omega)
        have d0 : wr.cell? ⟨g, j * 2, none⟩ = some u0 := (hown.cellAt (j * 2) (by omega)).trans hu0
        have f0 : wr.frozen? ⟨g, j * 2, none⟩ = false := hown.frozenAt (j * 2)
        have a1 := row_set1P (j := j * 2) hown (.int .i64 (k + 2 * j))
        have G2 := hg.trans a1.2
        have hu1' : (cs'.set (j * 2) (.int .i64 (k + 2 * j)))[j * 2 + 1]? = some u1 := by
          rw [List.getElem?_set_ne (by omega)]; exact hu1
        have hcl2 : Hid (Pre ((cs'.set (j * 2) (.int .i64 (k + 2 * j))).set (j * 2 + 1) (.string (markT (k + 2 * j + 1)))) ((marksP k n).flatMap encP) (j * 2 + 1 + 1)) := by obtain ⟨e0, e1⟩ := flatP_get (marksP_get k n j hlt); exact hid ((hcl.out.step e0).step e1)
        have A2 := hid a1.1
        have HG2 := hid G2
        clear a1 G2 hu0 hu1 hg hown get
        go_wp2_with fail
        refine (laws_markText_c (k + 2 * j + 1) _ (by omega)).mono ?_
        rintro q w4 ⟨rfl, b4⟩
        have A4 := row_onP A2.out b4
        have G4 := HG2.out.trans (gb_of_below b4 (some g))
        have d1 : w4.cell? ⟨g, j * 2 + 1, none⟩ = some u1 := (A4.cellAt (j * 2 + 1) (by omega)).trans hu1'
        have f1 : w4.frozen? ⟨g, j * 2 + 1, none⟩ = false := A4.frozenAt (j * 2 + 1)
        have a5 := row_set1P (j := j * 2 + 1) A4 (.string (markT (k + 2 * j + 1)))
        have A5 := hid a5
        have HG4 := hid G4
        clear A4 a5 G4 hu1' b4
        go_wp2
        go_roundw
        case rel => exact ⟨j + 1, _, by omega, by go_num, by go_num, A5.out.1, by rw [Nat.succ_mul]; exact hcl2.out, HG4.out.trans A5.out.2⟩
        case measure => simp [intOf]; omega
      · obtain rfl : j = n := by omega
        go_wp2
        go_ret
        have e := hcl.out.all (by rw [flatP_len, marksP_len]; omega)
        refine ⟨rfl, ?_, hg⟩
        unfold Own
        rw [marksP_len, ← e]
        exact hown

set_option maxHeartbeats 2000000 in
set_option maxRecDepth 100000 in
theorem laws_heldPieceS_c (v : Value) (base n : Nat) (k : Int) (w : World) (h : Own encP 43 2 w base v (marksP k n)) (hn : n ≤ 1048576) (k0 : 0 ≤ k) (k1 : k ≤ 1000000000000) :
    Calls Tryd.prog 22 #[v, .int .i64 k] w fun e w' => e = .returned (.int .i64 (k + 2 * n)) ∧ Below w.heap.size w w' := by
  obtain ⟨a, c, rfl, h1, h2, h3⟩ := (Rd.of_own h).pcs (marksP_len k n)
  clear h
  go_enter Tryd.func22, Tryd.ntmps22
  go_wp2
  go_loopw [1, 5] (fun kk i wr => ∃ j : Nat, j ≤ n ∧ i = .int .i64 j ∧ kk = .int .i64 (k + 2 * j) ∧ Below w.heap.size w wr) (fun _ i _ => n - (intOf i).toNat)
  case atStart => exact ⟨0, Nat.zero_le _, rfl, by simp, Below.refl _ _⟩
  case round =>
    obtain ⟨j, hj, rfl, rfl, hb⟩ := hrel
    by_cases hlt : j < n
    · obtain ⟨b, o, r, t, rfl, hbl, hx, k0', k1'⟩ := h3 j hlt
      obtain ⟨rfl, rfl⟩ : r = k + 2 * j ∧ t = markT (k + 2 * j + 1) := by have := hx.out.symm.trans (marksP_get k n j hlt); simpa using this
      have j0 := (hb.cell (p := ⟨b, o + j * 2, none⟩) hbl).trans k0'
      have j1 := (hb.cell (p := ⟨b, o + j * 2 + 1, none⟩) hbl).trans k1'
      have hc0 := k1'
      clear k0' k1' h3 hx
      go_wp2
      refine wp_region_vals rfl (by kernel_rfl) (by kernel_rfl) (by kernel_rfl) (by simp) (by kernel_rfl) (fun w' => Below w.heap.size w w') [.slice (some ⟨b, o, none⟩) n c, .int .i64 j, .pointer (some ⟨b, o + j * 2, none⟩), .pointer (some ⟨b, o + j * 2 + 1, none⟩), .string (markT (k + 2 * j + 1)), .int .i64 (k + 2 * j + 1), .string (markT (k + 2 * j + 1)), .bool false] hb.drew ?_ ?_
      · intro i oo hi a' w4 hj' hb' hd
        obtain ⟨hlt1, rfl⟩ := Array.getElem?_eq_some_iff.1 hi
        have hlt' : i < 8 := hlt1
        clear hi
        obtain rfl | rfl | rfl | rfl | rfl | rfl | rfl | rfl : i = 0 ∨ i = 1 ∨ i = 2 ∨ i = 3 ∨ i = 4 ∨ i = 5 ∨ i = 6 ∨ i = 7 := by omega
        · have b1 : a'.eval (.tmp 0) = .slice (some ⟨b, o, none⟩) n c := hb' 0 (by rfl)
          exact iv_val (by simp [execOp, b1]) ⟨rfl, hj'⟩
        · have b1 : a'.eval (.tmp 5) = .int .i64 j := hb' 5 (by rfl)
          exact iv_val (by simp [execOp, b1]) ⟨rfl, hj'⟩
        · have v1 : a'.eval (.tmp 21) = .slice (some ⟨b, o, none⟩) n c := hd ⟨0, .data⟩ (by simp) rfl; have u1 := ev_get v1
          have v2 : a'.eval (.tmp 22) = .int .i64 j := hd ⟨1, .data⟩ (by simp) rfl; have u2 := ev_get v2
          have hkn : (j : Int) < n := by omega
          exact iv_val (v := .pointer (some ⟨b, o + j * 2, none⟩)) (by simp [execOp, u1, u2, hkn, go_sem, Result.andThen]) ⟨rfl, hj'⟩
        · have v3 : a'.eval (.tmp 23) = .pointer (some ⟨b, o + j * 2, none⟩) := hd ⟨2, .data⟩ (by simp) rfl; have u3 := ev_get v3
          exact iv_val (v := .pointer (some ⟨b, o + j * 2 + 1, none⟩)) (by simp [execOp, u3, go_sem, Result.andThen]) ⟨rfl, hj'⟩
        · have v3 : a'.eval (.tmp 24) = .pointer (some ⟨b, o + j * 2 + 1, none⟩) := hd ⟨3, .data⟩ (by simp) rfl; have u3 := ev_get v3
          have hcx' := (hj'.cell (p := ⟨b, o + j * 2 + 1, none⟩) hbl).trans hc0
          exact iv_val (v := .string (markT (k + 2 * j + 1))) (by simp [execOp, u3, hcx', go_sem, Result.andThen]) ⟨rfl, hj'⟩
        · have b1 : a'.eval (.tmp 1) = .int .i64 (k + 2 * j + 1) := hb' 1 (by rfl)
          exact iv_val (by simp [execOp, b1]) ⟨rfl, hj'⟩
        · have v4 : a'.eval (.tmp 26) = .int .i64 (k + 2 * j + 1) := hd ⟨5, .data⟩ (by simp) rfl; have u4 := ev_get v4
          refine iv_enter (f := 31) (args := #[.int .i64 (k + 2 * j + 1)]) (by simp [execOp, u4, go_sem]) ?_
          refine (laws_markText_c (k + 2 * j + 1) _ (by omega)).mono ?_
          rintro e w5 ⟨rfl, b5⟩
          exact ⟨_, rfl, rfl, bl_then hj' b5⟩
        · have v5 : a'.eval (.tmp 25) = .string (markT (k + 2 * j + 1)) := hd ⟨4, .data⟩ (by simp) rfl; have u5 := ev_get v5
          have v6 : a'.eval (.tmp 27) = .string (markT (k + 2 * j + 1)) := hd ⟨6, .data⟩ (by simp) rfl; have u6 := ev_get v6
          exact iv_val (v := .bool false) (by simp [execOp, u5, u6, go_sem]) ⟨rfl, hj'⟩
      intro tm w4 hb4 hF
      have q := hF 7 _ rfl
      clear hF
      simp only [refillL, List.setIfInBounds_toArray, List.set_cons_succ, List.set_cons_zero]
      rw [show tm.getD 28 undef = .bool false from q]
      go_wp2
      go_roundw
      case rel => exact ⟨j + 1, by omega, by go_num, by go_num, hb4⟩
      case measure => simp [intOf]; omega
    · obtain rfl : j = n := by omega
      go_wp2
      go_ret
      exact ⟨rfl, hb⟩

end Go.Proofs.YtkfkcbceoekgjaaDoor
