/- Walks: the exact laws' helpers at rows of versions. -/
import Derived.Test.YtnedkfmbeeodfaaExV
import Derived.Test.YtnedkfmbeeodfaaExI
namespace Go.Proofs.Ytnedkfmbeeodfaa
open Go.RowKit

def szVers (xs : List Ver) : Nat := (xs.map fun x => x.note.size).sum
theorem szVers_succ {xs : List Ver} {k : Nat} {x : Ver} (h : xs[k]? = some x) : szVers (xs.take (k + 1)) = szVers (xs.take k) + x.note.size := by
  unfold szVers; rw [take_snoc' h]; simp
theorem szVers_take (xs : List Ver) (k : Nat) : szVers (xs.take k) ≤ szVers xs := by
  have : szVers xs = szVers (xs.take k) + szVers (xs.drop k) := by
    unfold szVers; rw [← List.sum_append, ← List.map_append, List.take_append_drop]
  omega
theorem szVers_mem {xs : List Ver} {x : Ver} (h : x ∈ xs) : x.note.size ≤ szVers xs := by
  obtain ⟨k, hk, rfl⟩ := List.getElem_of_mem h
  have h1 := szVers_succ (List.getElem?_eq_getElem hk)
  have h2 := szVers_take xs (k + 1)
  omega

/-- What is left of the measure: all fits, or not. -/
def szLeft (left : Int) (xs : List Ver) : Int := if left < xs.length + szVers xs then -1 else left - xs.length - szVers xs

set_option maxHeartbeats 2000000 in
theorem laws_szVersionS_c (v : Value) (xs : List Ver) (left : Int) (w : World) (h : Vers w w.heap.size v xs) (hx : ∀ x ∈ xs, x.note.size ≤ 9223372036854775807) (h0 : 0 ≤ left) (h1 : left ≤ 1048576) :
    Calls Try.prog 43 #[v, .int .i64 left] w fun e w' => e = .returned (.int .i64 (szLeft left xs)) ∧ Below w.heap.size w w' := by
  obtain ⟨n, hn⟩ : ∃ n, xs.length = n := ⟨_, rfl⟩
  obtain ⟨a, c, rfl, c1, c2, h3⟩ := h.vers hn
  have HN := hid hn
  have HX := hid hx
  clear hn h hx
  by_cases hl : left < n
  · have HO := hid (show szLeft left xs = -1 by unfold szLeft; rw [if_pos]; rw [HN.out]; omega)
    have hl' : left - n < 0 := by omega
    clear h3
    go_enter Try.func43, Try.ntmps43
    go_wp2
    go_ret
    exact ⟨ret_i HO.out.symm, Below.refl _ _⟩
  · have hl' : 0 ≤ left - n := by omega
    have hw1 : IntKind.i64.wrap (left - n) = left - n := IntWalk.i64_in _ (by omega)
    go_enter Try.func43, Try.ntmps43
    go_wp2
    go_loopw [1, 5] (fun lf i wr => ∃ (k : Nat) (x : Int), k ≤ n ∧ i = .int .i64 k ∧ lf = .int .i64 x ∧ 0 ≤ x ∧ x ≤ 1048576 ∧ Hid (x = left - n - szVers (xs.take k)) ∧ Below w.heap.size w wr) (fun _ i _ => n - (intOf i).toNat)
    case atStart => exact ⟨0, _, Nat.zero_le _, rfl, rfl, hl', by omega, by simp [Hid, szVers], Below.refl _ _⟩
    case round =>
      obtain ⟨k, x, hk, rfl, rfl, x0, x1, hxe, hb⟩ := hrel
      clear hw1 hl' hl
      by_cases hlt : k < n
      · obtain ⟨b, o, r, e, t, rfl, hbl, hx, k0, k1, k2⟩ := h3 k hlt
        have j0 := (hb.cell (p := ⟨b, o + k * 3, none⟩) hbl).trans k0
        have j1 := (hb.cell (p := ⟨b, o + k * 3 + 1, none⟩) hbl).trans k1
        have j2 := (hb.cell (p := ⟨b, o + k * 3 + 2, none⟩) hbl).trans k2
        have hs := hid (szVers_succ hx.out)
        have hst := hid (szVers_take xs (k + 1))
        have HT := hid (HX.out _ (List.mem_of_getElem? hx.out))
        clear k0 k1 k2 h3
        by_cases hq : x < t.size
        · have HI := hid (show (if x < (t.size : Int) then -1 else x - (t.size : Int)) = -1 by rw [if_pos hq])
          have HO := hid (show szLeft left xs = -1 by unfold szLeft; rw [if_pos]; have h1 : szVers (xs.take (k + 1)) = szVers (xs.take k) + t.size := hs.out; have h2 := hst.out; have h3 := hxe.out; have h4 := HN.out; omega)
          go_wp2_with fail
          refine (laws_szVersion_c ⟨r, e, t⟩ x _ HT.out x0 x1).mono ?_
          rw [HI.out]
          rintro q w4 ⟨rfl, b4⟩
          go_wp2
          go_ret
          exact ⟨ret_i HO.out.symm, bl_then hb b4⟩
        · have HI := hid (show (if x < (t.size : Int) then -1 else x - (t.size : Int)) = x - t.size by rw [if_neg hq])
          have hq0 : 0 ≤ x - (t.size : Int) := by omega
          go_wp2_with fail
          refine (laws_szVersion_c ⟨r, e, t⟩ x _ HT.out x0 x1).mono ?_
          rw [HI.out]
          rintro q w4 ⟨rfl, b4⟩
          go_wp2
          go_roundw
          case rel => exact ⟨k + 1, _, by omega, by go_num, rfl, hq0, by omega, by have h1 : szVers (xs.take (k + 1)) = szVers (xs.take k) + t.size := hs.out; have h2 := hxe.out; unfold Hid; omega, bl_then hb b4⟩
          case measure => simp [intOf]; omega
      · have hxe' := hxe.out
        rw [take_all HN.out (show n ≤ k by omega)] at hxe'
        have HO := hid (show szLeft left xs = x by unfold szLeft; rw [if_neg (by rw [HN.out]; omega), HN.out, hxe'])
        clear hxe' h3
        go_wp2
        go_ret
        exact ⟨ret_i HO.out.symm, hb⟩

set_option maxHeartbeats 2000000 in
theorem laws_eqVersionS_c (v u : Value) (xs : List Ver) (w : World) (h : Vers w w.heap.size v xs) (h' : Vers w w.heap.size u xs) :
    Calls Try.prog 47 #[v, u] w fun e w' => e = .returned (.bool true) ∧ Below w.heap.size w w' := by
  obtain ⟨n, hn⟩ : ∃ n, xs.length = n := ⟨_, rfl⟩
  obtain ⟨a, c, rfl, c1, c2, h3⟩ := h.vers hn
  obtain ⟨a', c', rfl, c1', c2', h3'⟩ := h'.vers hn
  clear hn h h'
  go_enter Try.func47, Try.ntmps47
  go_wp2
  go_loopw [5] (fun i wr => ∃ (k : Nat), k ≤ n ∧ i = .int .i64 k ∧ Below w.heap.size w wr) (fun i _ => n - (intOf i).toNat)
  case atStart => exact ⟨0, Nat.zero_le _, rfl, Below.refl _ _⟩
  case round =>
    obtain ⟨k, hk, rfl, hb⟩ := hrel
    by_cases hlt : k < n
    · obtain ⟨b, o, r, e, t, rfl, hbl, hx, k0, k1, k2⟩ := h3 k hlt
      obtain ⟨b', o', r', e', t', rfl, hbl', hx', k0', k1', k2'⟩ := h3' k hlt
      obtain ⟨rfl, rfl, rfl⟩ : r = r' ∧ e = e' ∧ t = t' := by have := hx.out.symm.trans hx'.out; simpa using this
      have j0 := (hb.cell (p := ⟨b, o + k * 3, none⟩) hbl).trans k0
      have j1 := (hb.cell (p := ⟨b, o + k * 3 + 1, none⟩) hbl).trans k1
      have j2 := (hb.cell (p := ⟨b, o + k * 3 + 2, none⟩) hbl).trans k2
      have i0 := (hb.cell (p := ⟨b', o' + k * 3, none⟩) hbl').trans k0'
      have i1 := (hb.cell (p := ⟨b', o' + k * 3 + 1, none⟩) hbl').trans k1'
      have i2 := (hb.cell (p := ⟨b', o' + k * 3 + 2, none⟩) hbl').trans k2'
      have hs := hb.size
      clear k0 k1 k2 k0' k1' k2' h3 h3' hx hx'
      go_wp2_with fail
      refine wp_region_early (n := 8) _ rfl rfl (by kernel_rfl) (by kernel_rfl) (fun _ _ _ _ h => h) ?_
      simp only [List.take_succ_cons, List.take_zero, List.drop_succ_cons, List.drop_zero, Act.put, Act.eval, List.setIfInBounds_toArray, List.set_cons_succ, List.set_cons_zero]
      repeat (go_big_quiet_step (fail))
      refine wpQuiet_nil ?_
      intro q1
      go_wp2_with fail
      refine (laws_eqVersion_c ⟨r, e, t⟩ _).mono ?_
      rintro q w4 ⟨rfl, b4⟩
      have hb4 := bl_then (bl_drewN hb q1) b4
      clear b4
      go_wp2
      go_roundw
      case rel => exact ⟨k + 1, by omega, by go_num, hb4⟩
      case measure => simp [intOf]; omega
    · go_wp2
      go_ret
      exact ⟨rfl, hb⟩

theorem info_ver : (Try.prog.info? 52).map (fun i => (i.zero, i.size, i.bytes)) = some (some (.agg #[.int .i64 0, .int .i64 0, .string ByteArray.empty]), 3, 32) := by kernel_rfl

theorem row_on {w w' : World} {base e k n : Nat} {v : Value} {cs : List Value} (h : w.ownsRow base e k v n cs) (hb : Below w.heap.size w w') : w'.ownsRow base e k v n cs := by
  refine ⟨h.1, ?_⟩
  rcases h.2 with h2 | ⟨g, cap, cur, hv, hg, hh, r⟩
  · exact .inl h2
  · exact .inr ⟨g, cap, cur, hv, hg, (hb.block g (Array.getElem?_eq_some_iff.1 hh).1).trans hh, r⟩
theorem flatV_get {xs : List Ver} {k : Nat} {x : Ver} (h : xs[k]? = some x) : (xs.flatMap encV)[k * 3]? = some (.int .i64 x.root) ∧ (xs.flatMap encV)[k * 3 + 1]? = some (.int .i64 x.before) ∧ (xs.flatMap encV)[k * 3 + 2]? = some (.string x.note) :=
  ⟨by simpa using flatMap_get (enc := encV) (fun _ => rfl) xs k 0 x _ h rfl, flatMap_get (enc := encV) (fun _ => rfl) xs k 1 x _ h rfl, flatMap_get (enc := encV) (fun _ => rfl) xs k 2 x _ h rfl⟩
theorem flatV_len (xs : List Ver) : (xs.flatMap encV).length = xs.length * 3 := by
  induction xs with
  | nil => rfl
  | cons x r ih => rw [List.flatMap_cons, List.length_append, ih]; simp; omega

/-- Three cells of a row of the call's own are written. -/
theorem row_set3 {w : World} {base g n c k : Nat} {cs : List Value} {x y z : Value} (h : w.ownsRow base 52 3 (.slice (some ⟨g, 0, none⟩) n c) n cs) :
    (((w.setCell ⟨g, k * 3, none⟩ x).setCell ⟨g, k * 3 + 1, none⟩ y).setCell ⟨g, k * 3 + 2, none⟩ z).ownsRow base 52 3 (.slice (some ⟨g, 0, none⟩) n c) n (((cs.set (k * 3) x).set (k * 3 + 1) y).set (k * 3 + 2) z) ∧
    w.grownBy (((w.setCell ⟨g, k * 3, none⟩ x).setCell ⟨g, k * 3 + 1, none⟩ y).setCell ⟨g, k * 3 + 2, none⟩ z) (some g) := by
  have h1 := h.stored (k * 3) x
  have h2 := h1.1.stored (k * 3 + 1) y
  have h3 := h2.1.stored (k * 3 + 2) z
  exact ⟨h3.1, (h1.2.trans h2.2).trans h3.2⟩

set_option maxHeartbeats 2000000 in
theorem laws_toVersionS_c (v : Value) (xs : List Ver) (w : World) (h : Vers w w.heap.size v xs) (hn0 : xs.length ≤ 1048576) :
    Calls Try.prog 45 #[v] w fun e w' => ∃ v', e = .returned v' ∧ Own encV 52 3 w' w.heap.size v' xs ∧ Below w.heap.size w w' := by
  obtain ⟨n, hn⟩ : ∃ n, xs.length = n := ⟨_, rfl⟩
  obtain ⟨a, c, rfl, h1, h2, h3⟩ := h.vers hn
  rw [hn] at hn0
  have HN := hid hn
  clear hn
  obtain ⟨i0, hi, hz0, hz1, hz2⟩ := info_parts info_ver
  go_enter Try.func45, Try.ntmps45
  go_wp2_with (at_make; refine wpList_make_full _ rfl _ _ 57 rfl w.heap.size 52 i0 (.agg #[.int .i64 0, .int .i64 0, .string ByteArray.empty]) 3 Try.underlying57 hi hz0 hz1 _ _ _ _ n rfl rfl rfl rfl ?b2 ?b3 (Nat.le_refl _) ?_)
  case b2 => rw [hz2]; omega
  case b3 => unfold maxLen; omega
  intro w1 hown hg
  have hb1 : Below w.heap.size w w1 := (Below.refl _ _).grown hg (Nat.le_refl _) (by simp)
  go_wp2
  go_loopw [4] (fun i wr => ∃ (k : Nat) (cs : List Value), k ≤ n ∧ i = .int .i64 k ∧ wr.ownsRow w.heap.size 52 3 (.slice (some ⟨w.heap.size, 0, none⟩) n n) n cs ∧ Pre cs (xs.flatMap encV) (k * 3) ∧ Below w.heap.size w wr) (fun i _ => n - (intOf i).toNat)
  case atStart => exact ⟨0, _, Nat.zero_le _, rfl, hown, Pre.zero (by rw [hown.1, flatV_len, HN.out]), hb1⟩
  case round =>
    obtain ⟨k, cs, hk, rfl, hown', hpre, hb⟩ := hrel
    clear hown hg hb1
    by_cases hlt : k < n
    · obtain ⟨b, o, r, e, t, rfl, hbl, hx, k0, k1, k2⟩ := h3 k hlt
      have j0 := (hb.cell (p := ⟨b, o + k * 3, none⟩) hbl).trans k0
      have j1 := (hb.cell (p := ⟨b, o + k * 3 + 1, none⟩) hbl).trans k1
      have j2 := (hb.cell (p := ⟨b, o + k * 3 + 2, none⟩) hbl).trans k2
      have hlen := hid ((flatV_len xs).trans (by rw [HN.out]))
      clear k0 k1 k2 h3
      go_wp2_with fail
      refine (laws_toVersion_c ⟨r, e, t⟩ _).mono ?_
      rintro q w4 ⟨rfl, b4⟩
      have hown4 := row_on hown' b4
      have hb4 := bl_then hb b4
      obtain ⟨u0, hu0⟩ := hpre.get (j := k * 3) (by rw [hlen.out]; omega)
      obtain ⟨u1, hu1⟩ := hpre.get (j := k * 3 + 1) (by rw [hlen.out]; omega)
      obtain ⟨u2, hu2⟩ := hpre.get (j := k * 3 + 2) (by rw [hlen.out]; omega)
      have d0 : w4.cell? ⟨w.heap.size, k * 3, none⟩ = some u0 := (hown4.cellAt (k * 3) (by omega)).trans hu0
      have d1 : w4.cell? ⟨w.heap.size, k * 3 + 1, none⟩ = some u1 := (hown4.cellAt (k * 3 + 1) (by omega)).trans hu1
      have d2 : w4.cell? ⟨w.heap.size, k * 3 + 2, none⟩ = some u2 := (hown4.cellAt (k * 3 + 2) (by omega)).trans hu2
      have f0 : w4.frozen? ⟨w.heap.size, k * 3, none⟩ = false := hown4.frozenAt (k * 3)
      have f1 : w4.frozen? ⟨w.heap.size, k * 3 + 1, none⟩ = false := hown4.frozenAt (k * 3 + 1)
      have f2 : w4.frozen? ⟨w.heap.size, k * 3 + 2, none⟩ = false := hown4.frozenAt (k * 3 + 2)
      have hst := hid (row_set3 (k := k) (x := .int .i64 r) (y := .int .i64 e) (z := .string t) hown4)
      have hpr := hid hpre
      have HB := hid hb4
      clear hu0 hu1 hu2 hown' hown4 b4 hpre hb hb4
      go_wp2
      go_roundw
      case rel => exact ⟨k + 1, _, by omega, by go_num, hst.out.1, by obtain ⟨e0, e1, e2⟩ := flatV_get hx.out; rw [Nat.succ_mul]; exact ((hpr.out.step e0).step e1).step e2, HB.out.grown hst.out.2 HB.out.size (fun g hg => by simp at hg; omega)⟩
      case measure => simp [intOf]; omega
    · go_wp2
      go_ret
      refine ⟨_, rfl, ?_, hb⟩
      have e := hpre.all (by rw [flatV_len, HN.out]; omega)
      unfold Own
      rw [HN.out, ← e]
      exact hown'

end Go.Proofs.Ytnedkfmbeeodfaa
