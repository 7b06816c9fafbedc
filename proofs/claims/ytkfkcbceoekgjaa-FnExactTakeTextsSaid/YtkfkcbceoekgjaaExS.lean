/- Walks of the exact laws' own helpers at slices of texts: copies, comparisons, marks, measures. -/
import Derived.Test.YtkfkcbceoekgjaaExI
import Derived.Test.YtkfkcbceoekgjaaMark
import Derived.Test.YtkfkcbceoekgjaaInvV
namespace Go.Proofs.Ytkfkcbceoekgjaa
open Go.RowKit

theorem Rd.strs {w : World} {B n : Nat} {v : Value} {xs : List ByteArray} (h : Strs w B v xs) (hn : xs.length = n) :
    ∃ a c, v = .slice a n c ∧ n ≤ c ∧ c ≤ 9223372036854775807 ∧
      ∀ i, i < n → ∃ b o x, a = some ⟨b, o, none⟩ ∧ b < B ∧ Hid (xs[i]? = some x) ∧ w.cell? ⟨b, o + i, none⟩ = some (.string x) := by
  obtain ⟨a, c, hv, h1, h2, h3⟩ := Rd.openN h (fun _ => rfl) hn
  refine ⟨a, c, hv, h1, h2, fun i hi => ?_⟩
  obtain ⟨b, o, x, ha, hb, hx, hc⟩ := h3 i hi
  exact ⟨b, o, x, ha, hb, hx, by simpa using hc 0 _ rfl⟩

set_option maxHeartbeats 400000 in
theorem laws_toStringS_c (v : Value) (xs : List ByteArray) (w : World) (h : Strs w w.heap.size v xs) (hn0 : xs.length ≤ 1048576) :
    Calls Try.prog 23 #[v] w fun e w' => ∃ v', e = .returned v' ∧ OwnS w' w.heap.size v' xs ∧ Below w.heap.size w w' := by
  obtain ⟨n, hn⟩ : ∃ n, xs.length = n := ⟨_, rfl⟩
  obtain ⟨a, c, rfl, h1, h2, h3⟩ := h.strs hn
  rw [hn] at hn0
  have HN := hid hn
  clear hn
  obtain ⟨i0, hi, hz0, hz1, hz2⟩ := info_parts info_string
  go_enter Try.func23, Try.ntmps23
  go_wp2_with (at_make; refine wpList_make_full _ rfl _ _ 34 rfl w.heap.size 9 i0 (.string ByteArray.empty) 1 Try.underlying34 hi hz0 hz1 _ _ _ _ n rfl rfl rfl rfl ?b2 ?b3 (Nat.le_refl _) ?_)
  case b2 => rw [hz2]; omega
  case b3 => unfold maxLen; omega
  intro w1 hown hg
  have hb1 : Below w.heap.size w w1 := (Below.refl _ _).grown hg (Nat.le_refl _) (by simp)
  go_wp2
  go_loopw [4] (fun i wr => ∃ (k : Nat) (cs : List Value), k ≤ n ∧ i = .int .i64 k ∧ wr.ownsRow w.heap.size 9 1 (.slice (some ⟨w.heap.size, 0, none⟩) n n) n cs ∧ Pre cs (xs.flatMap encS) k ∧ Below w.heap.size w wr) (fun i _ => n - (intOf i).toNat)
  case atStart => exact ⟨0, _, Nat.zero_le _, rfl, hown, Pre.zero (by rw [hown.1, ← List.map_eq_flatMap, List.length_map, HN.out]; omega), hb1⟩
  case round =>
    obtain ⟨k, cs, hk, rfl, hown', hpre, hb⟩ := hrel
    clear hown hg hb1
    by_cases hlt : k < n
    · obtain ⟨b, o, x, rfl, hbl, hx, hc⟩ := h3 k hlt
      have hc' : wr.cell? ⟨b, o + k, none⟩ = some (.string x) := (hb.cell (p := ⟨b, o + k, none⟩) hbl).trans hc
      obtain ⟨u, hu⟩ := hpre.get (j := k) (by rw [← List.map_eq_flatMap, List.length_map, HN.out]; exact hlt)
      have hd : wr.cell? ⟨w.heap.size, k, none⟩ = some u := (hown'.cellAt k (by omega)).trans hu
      have hf : wr.frozen? ⟨w.heap.size, k, none⟩ = false := hown'.frozenAt k
      have hst := hid (hown'.stored k (.string x)).1
      clear hu h3 hc
      go_wp2
      go_roundw
      case rel => exact ⟨k + 1, _, by omega, by go_num, hst.out, hpre.step (by have := flatMap_get (enc := encS) (fun _ => rfl) xs k 0 x _ hx.out rfl; simpa using this), hb.setCell (Nat.le_refl _) _⟩
      case measure => simp [intOf]; omega
    · go_wp2
      go_ret
      refine ⟨_, rfl, ?_, hb⟩
      have e := hpre.all (by rw [← List.map_eq_flatMap, List.length_map, HN.out]; omega)
      unfold OwnS Own
      rw [HN.out, ← e]
      exact hown'

/-- The texts of the marks k, k + 1, .. -/
def marksS (k : Int) (n : Nat) : List ByteArray := (List.range n).map fun (j : Nat) => markT (k + j)
theorem marksS_len (k : Int) (n : Nat) : (marksS k n).length = n := by simp [marksS]
theorem marksS_get (k : Int) (n j : Nat) (h : j < n) : (marksS k n)[j]? = some (markT (k + j)) := by simp [marksS, h]
theorem marksS_cell (k : Int) (n j : Nat) (h : j < n) : ((marksS k n).flatMap encS)[j]? = some (.string (markT (k + j))) := by
  have := flatMap_get (enc := encS) (fun _ => rfl) (marksS k n) j 0 _ _ (marksS_get k n j h) rfl
  simpa using this
theorem row_onS {w w' : World} {base e k n : Nat} {v : Value} {cs : List Value} (h : w.ownsRow base e k v n cs) (hb : Below w.heap.size w w') : w'.ownsRow base e k v n cs := by
  refine ⟨h.1, ?_⟩
  rcases h.2 with h2 | ⟨g, cap, cur, hv, hg, hh, r⟩
  · exact .inl h2
  · exact .inr ⟨g, cap, cur, hv, hg, (hb.block g (Array.getElem?_eq_some_iff.1 hh).1).trans hh, r⟩

set_option maxHeartbeats 2000000 in
theorem laws_markStringS_c (v : Value) (base n : Nat) (xs : List ByteArray) (k : Int) (w : World) (h : OwnS w base v xs) (hxn : xs.length = n) (hn : n ≤ 1048576) (k0 : 0 ≤ k) (k1 : k ≤ 1000000000000) :
    Calls Try.prog 19 #[v, .int .i64 k] w fun e w' => e = .returned (.int .i64 (k + n)) ∧ OwnS w' base v (marksS k n) ∧ w.grownBy w' v.ownBlock := by
  subst hxn
  obtain ⟨n, hxn⟩ : ∃ n, xs.length = n := ⟨_, rfl⟩
  have h : w.ownsRow base 9 1 v n (xs.flatMap encS) := by have := h; unfold OwnS Own at this; rwa [hxn] at this
  rw [hxn] at hn ⊢
  unfold OwnS Own
  rw [marksS_len]
  rcases h.2 with ⟨rfl, rfl⟩ | ⟨g, cap, cur, rfl, hbg, _, hnc, hcm, _⟩
  · have HX := hid hxn
    clear hxn
    go_enter Try.func19, Try.ntmps19
    go_wp2
    refine wp_loop_rounds 1 ?_
    rw [rounds_succ]
    go_wp2
    go_ret
    exact ⟨ret_i (by simp), World.ownsRow_nil _ _ _ _, World.grownBy.refl _ _⟩
  · have HX := hid hxn
    clear hxn hcm
    go_enter Try.func19, Try.ntmps19
    go_wp2
    go_loopw [1, 5] (fun kk i wr => ∃ (j : Nat) (cs' : List Value), j ≤ n ∧ i = .int .i64 j ∧ kk = .int .i64 (k + j) ∧ wr.ownsRow base 9 1 (.slice (some ⟨g, 0, none⟩) n cap) n cs' ∧ Hid (Pre cs' ((marksS k n).flatMap encS) j) ∧ w.grownBy wr (some g)) (fun _ i _ => n - (intOf i).toNat)
    case atStart => exact ⟨0, _, Nat.zero_le _, rfl, by simp, h, Pre.zero (by rw [flat_len1, flat_len1, marksS_len, HX.out]), World.grownBy.refl _ _⟩
    case round =>
      obtain ⟨j, cs', hj, rfl, rfl, hown, hpre, hg⟩ := hrel
      clear h
      by_cases hlt : j < n
      · obtain ⟨u, hu⟩ := hpre.out.get (j := j) (by rw [flat_len1, marksS_len]; exact hlt)
        have HG := hid hg
        have HU := hid hu
        clear hu hg
        go_wp2_with fail
        refine (laws_markText_c (k + j) _ (by omega)).mono ?_
        rintro q w4 ⟨rfl, b4⟩
        have A4 := row_onS hown b4
        have G4 := hid (HG.out.trans (gb_of_below b4 (some g)))
        have hd : w4.cell? ⟨g, j, none⟩ = some u := (A4.cellAt j (by omega)).trans HU.out
        have hf : w4.frozen? ⟨g, j, none⟩ = false := A4.frozenAt j
        have hst := hid (A4.stored j (.string (markT (k + j))))
        clear A4 b4 hown
        go_wp2
        go_roundw
        case rel => exact ⟨j + 1, _, by omega, by go_num, by go_num, hst.out.1, hpre.out.step (marksS_cell k n j hlt), G4.out.trans hst.out.2⟩
        case measure => simp [intOf]; omega
      · obtain rfl : j = n := by omega
        go_wp2
        go_ret
        exact ⟨rfl, by rw [← hpre.out.all (by rw [flat_len1, marksS_len]; exact Nat.le_refl _)]; exact hown, hg⟩

set_option maxHeartbeats 2000000 in
theorem laws_heldStringS_c (v : Value) (base n : Nat) (k : Int) (w : World) (h : OwnS w base v (marksS k n)) (hn : n ≤ 1048576) (k0 : 0 ≤ k) (k1 : k ≤ 1000000000000) :
    Calls Try.prog 20 #[v, .int .i64 k] w fun e w' => e = .returned (.int .i64 (k + n)) ∧ Below w.heap.size w w' := by
  obtain ⟨a, c, rfl, h1, h2, h3⟩ := (Rd.of_own h).strs (marksS_len k n)
  clear h
  go_enter Try.func20, Try.ntmps20
  go_wp2
  go_loopw [1, 5] (fun kk i wr => ∃ (j : Nat), j ≤ n ∧ i = .int .i64 j ∧ kk = .int .i64 (k + j) ∧ Below w.heap.size w wr) (fun _ i _ => n - (intOf i).toNat)
  case atStart => exact ⟨0, Nat.zero_le _, rfl, by simp, Below.refl _ _⟩
  case round =>
    obtain ⟨j, hj, rfl, rfl, hb⟩ := hrel
    by_cases hlt : j < n
    · obtain ⟨b, o, x, rfl, hbl, hx, hc⟩ := h3 j hlt
      have hx' := hx.out
      rw [marksS_get k n j hlt] at hx'
      obtain rfl := Option.some.inj hx'
      have hc0 := hc
      clear h3 hx' hx hc
      go_wp2
      refine wp_region_vals rfl (by kernel_rfl) (by kernel_rfl) (by kernel_rfl) (by simp) (by kernel_rfl) (fun w' => Below w.heap.size w w') [.slice (some ⟨b, o, none⟩) n c, .int .i64 j, .pointer (some ⟨b, o + j, none⟩), .string (markT (k + j)), .int .i64 (k + j), .string (markT (k + j)), .bool false] hb.drew ?_ ?_
      · intro i oo hi a' w4 hj' hb' hd
        obtain ⟨hlt1, rfl⟩ := Array.getElem?_eq_some_iff.1 hi
        have hlt' : i < 7 := hlt1
        clear hi
        obtain rfl | rfl | rfl | rfl | rfl | rfl | rfl : i = 0 ∨ i = 1 ∨ i = 2 ∨ i = 3 ∨ i = 4 ∨ i = 5 ∨ i = 6 := by omega
        · have b1 : a'.eval (.tmp 0) = .slice (some ⟨b, o, none⟩) n c := hb' 0 (by rfl)
          exact iv_val (by simp [execOp, b1]) ⟨rfl, hj'⟩
        · have b1 : a'.eval (.tmp 5) = .int .i64 j := hb' 5 (by rfl)
          exact iv_val (by simp [execOp, b1]) ⟨rfl, hj'⟩
        · have v1 : a'.eval (.tmp 12) = .slice (some ⟨b, o, none⟩) n c := hd ⟨0, .data⟩ (by simp) rfl; have u1 := ev_get v1
          have v2 : a'.eval (.tmp 13) = .int .i64 j := hd ⟨1, .data⟩ (by simp) rfl; have u2 := ev_get v2
          have hkn : (j : Int) < n := by omega
          exact iv_val (v := .pointer (some ⟨b, o + j, none⟩)) (by simp [execOp, u1, u2, hkn, go_sem, Result.andThen]) ⟨rfl, hj'⟩
        · have v3 : a'.eval (.tmp 14) = .pointer (some ⟨b, o + j, none⟩) := hd ⟨2, .data⟩ (by simp) rfl; have u3 := ev_get v3
          have hcx' := (hj'.cell (p := ⟨b, o + j, none⟩) hbl).trans hc0
          exact iv_val (v := .string (markT (k + j))) (by simp [execOp, u3, hcx', go_sem, Result.andThen]) ⟨rfl, hj'⟩
        · have b1 : a'.eval (.tmp 1) = .int .i64 (k + j) := hb' 1 (by rfl)
          exact iv_val (by simp [execOp, b1]) ⟨rfl, hj'⟩
        · have v4 : a'.eval (.tmp 16) = .int .i64 (k + j) := hd ⟨4, .data⟩ (by simp) rfl; have u4 := ev_get v4
          refine iv_enter (f := 35) (args := #[.int .i64 (k + j)]) (by simp [execOp, u4, go_sem]) ?_
          refine (laws_markText_c (k + j) _ (by omega)).mono ?_
          rintro e w5 ⟨rfl, b5⟩
          exact ⟨_, rfl, rfl, bl_then hj' b5⟩
        · have v5 : a'.eval (.tmp 15) = .string (markT (k + j)) := hd ⟨3, .data⟩ (by simp) rfl; have u5 := ev_get v5
          have v6 : a'.eval (.tmp 17) = .string (markT (k + j)) := hd ⟨5, .data⟩ (by simp) rfl; have u6 := ev_get v6
          exact iv_val (v := .bool false) (by simp [execOp, u5, u6, go_sem]) ⟨rfl, hj'⟩
      intro tm w4 hb4 hF
      have q := hF 6 _ rfl
      clear hF
      simp only [refillL, List.setIfInBounds_toArray, List.set_cons_succ, List.set_cons_zero]
      rw [show tm.getD 18 undef = .bool false from q]
      go_wp2
      go_roundw
      case rel => exact ⟨j + 1, by omega, by go_num, by go_num, hb4⟩
      case measure => simp [intOf]; omega
    · obtain rfl : j = n := by omega
      go_wp2
      go_ret
      exact ⟨rfl, hb⟩

set_option maxHeartbeats 400000 in
theorem laws_eqStringS_c (v u : Value) (xs : List ByteArray) (B B' : Nat) (w : World) (h : Strs w B v xs) (h' : Strs w B' u xs) :
    Calls Try.prog 18 #[v, u] w fun e w' => e = .returned (.bool true) ∧ Below w.heap.size w w' := by
  obtain ⟨n, hn⟩ : ∃ n, xs.length = n := ⟨_, rfl⟩
  obtain ⟨a, c, rfl, c1, c2, h3⟩ := h.strs hn
  obtain ⟨a', c', rfl, c1', c2', h3'⟩ := h'.strs hn
  clear hn h h'
  go_enter Try.func18, Try.ntmps18
  go_wp2
  go_loopw [5] (fun i wr => ∃ (k : Nat), k ≤ n ∧ i = .int .i64 k ∧ ∃ q, wr = w.drewN q) (fun i _ => n - (intOf i).toNat)
  case atStart => exact ⟨0, Nat.zero_le _, rfl, 0, rfl⟩
  case round =>
    obtain ⟨k, hk, rfl, q, rfl⟩ := hrel
    by_cases hlt : k < n
    · obtain ⟨b, o, x, rfl, hbl, hx, hc⟩ := h3 k hlt
      obtain ⟨b', o', x', rfl, hbl', hx', hc'⟩ := h3' k hlt
      obtain rfl : x = x' := by have := hx.out.symm.trans hx'.out; simpa using this
      clear h3 h3' hx hx'
      go_wp2
      go_quiet (fail)
      go_wp2
      go_roundw
      case rel => exact ⟨k + 1, by omega, by go_num, _, rfl⟩
      case measure => simp [intOf]; omega
    · go_wp2
      go_ret
      exact ⟨rfl, bl_drewN (Below.refl _ _) _⟩

def szStrs (xs : List ByteArray) : Nat := (xs.map fun x => x.size).sum
theorem szStrs_succ {xs : List ByteArray} {k : Nat} {x : ByteArray} (h : xs[k]? = some x) : szStrs (xs.take (k + 1)) = szStrs (xs.take k) + x.size := by
  unfold szStrs; rw [take_snoc' h]; simp
theorem szStrs_take (xs : List ByteArray) (k : Nat) : szStrs (xs.take k) ≤ szStrs xs := by
  have : szStrs xs = szStrs (xs.take k) + szStrs (xs.drop k) := by
    unfold szStrs; rw [← List.sum_append, ← List.map_append, List.take_append_drop]
  omega
theorem szStrs_mem {xs : List ByteArray} {x : ByteArray} (h : x ∈ xs) : x.size ≤ szStrs xs := by
  obtain ⟨k, hk, rfl⟩ := List.getElem_of_mem h
  have h1 := szStrs_succ (List.getElem?_eq_getElem hk)
  have h2 := szStrs_take xs (k + 1)
  omega
def szLeftS (left : Int) (xs : List ByteArray) : Int := if left < xs.length + szStrs xs then -1 else left - xs.length - szStrs xs

set_option maxHeartbeats 2000000 in
theorem laws_szStringS_c (v : Value) (xs : List ByteArray) (left : Int) (w : World) (h : Strs w w.heap.size v xs) (hx : ∀ x ∈ xs, x.size ≤ 9223372036854775807) (h0 : 0 ≤ left) (h1 : left ≤ 1048576) :
    Calls Try.prog 21 #[v, .int .i64 left] w fun e w' => e = .returned (.int .i64 (szLeftS left xs)) ∧ w = w' := by
  obtain ⟨n, hn⟩ : ∃ n, xs.length = n := ⟨_, rfl⟩
  obtain ⟨a, c, rfl, c1, c2, h3⟩ := h.strs hn
  have HN := hid hn
  have HX := hid hx
  clear hn h hx
  by_cases hl : left < n
  · have HO := hid (show szLeftS left xs = -1 by unfold szLeftS; rw [if_pos]; rw [HN.out]; omega)
    have hl' : left - n < 0 := by omega
    clear h3
    go_enter Try.func21, Try.ntmps21
    go_wp2
    go_ret
    exact ⟨ret_i HO.out.symm, rfl⟩
  · have hl' : 0 ≤ left - n := by omega
    have hw1 : IntKind.i64.wrap (left - n) = left - n := IntWalk.i64_in _ (by omega)
    go_enter Try.func21, Try.ntmps21
    go_wp2
    go_loop [1, 5] (fun lf i => ∃ (k : Nat) (x : Int), k ≤ n ∧ i = .int .i64 k ∧ lf = .int .i64 x ∧ 0 ≤ x ∧ x ≤ 1048576 ∧ Hid (x = left - n - szStrs (xs.take k))) (fun _ i => n - (intOf i).toNat)
    case atStart => exact ⟨0, _, Nat.zero_le _, rfl, rfl, hl', by omega, by simp [Hid, szStrs]⟩
    case round =>
      obtain ⟨k, x, hk, rfl, rfl, x0, x1, hxe⟩ := hrel
      clear hw1 hl' hl
      by_cases hlt : k < n
      · obtain ⟨b, o, t, rfl, hbl, hx, hc⟩ := h3 k hlt
        have hs := hid (szStrs_succ hx.out)
        have hst := hid (szStrs_take xs (k + 1))
        have HT := HX.out _ (List.mem_of_getElem? hx.out)
        have hw2 : IntKind.i64.wrap (x - (t.size : Int)) = x - t.size := IntWalk.i64_in _ (by omega)
        clear h3
        by_cases hq : x < t.size
        · have HO := hid (show szLeftS left xs = -1 by unfold szLeftS; rw [if_pos]; have h1 : szStrs (xs.take (k + 1)) = szStrs (xs.take k) + t.size := hs.out; have h2 := hst.out; have h3 := hxe.out; have h4 := HN.out; omega)
          have hq0 : x - (t.size : Int) < 0 := by omega
          go_wp2
          go_ret
          exact ⟨ret_i HO.out.symm, rfl⟩
        · have hq0 : 0 ≤ x - (t.size : Int) := by omega
          go_wp2
          go_round
          case rel => exact ⟨k + 1, _, by omega, by go_num, rfl, hq0, by omega, by have h1 : szStrs (xs.take (k + 1)) = szStrs (xs.take k) + t.size := hs.out; have h2 := hxe.out; unfold Hid; omega⟩
          case measure => simp [intOf]; omega
      · have hxe' := hxe.out
        rw [take_all HN.out (show n ≤ k by omega)] at hxe'
        have HO := hid (show szLeftS left xs = x by unfold szLeftS; rw [if_neg (by rw [HN.out]; omega), HN.out, hxe'])
        clear hxe' h3
        go_wp2
        go_ret
        exact ⟨ret_i HO.out.symm, rfl⟩

theorem push_str {ops : Array Oper} {rest : List Oper} {o : Oper} {a : Act} {Q : Exit → Act → World → Prop} {w0 wr : World} (hgd : o.guard = none) (s x : Operand) (ho : o.op = .call { callee := .builtin .append, args := #[s, x], argTypes := #[34, 34] }) (B B0 : Nat) (v : Value) (acc : List ByteArray) (y : ByteArray)
    (hown : OwnS wr B v acc) (hb : Below B0 w0 wr) (hB : B ≤ wr.heap.size) (hB0 : B0 ≤ B) (hs : a.eval s = v) (hx : a.eval x = .slice (some ⟨wr.heap.size, 0, none⟩) 1 1) (hn : acc.length < 1099511627775)
    (h : ∀ v' w', OwnS w' B v' (acc ++ [y]) → Below B0 w0 w' → B ≤ w'.heap.size → wr.grownBy w' v.ownBlock ∧ (∀ g, v'.ownBlock = some g → v.ownBlock = some g ∨ wr.heap.size ≤ g) → wpList Try.prog ops Q rest (a.put o.dst v') w') :
    wpList Try.prog ops Q (o :: rest) a (wr.alloc (.cells #[.string y] 9)) := by
  obtain ⟨i0, hi, hz0, hz1, hz2⟩ := info_parts info_string
  exact wpList_push (enc := encS) hgd s x 34 ho B B0 9 i0 _ 1 16 Try.underlying34 hi hz0 hz1 hz2 rfl (by decide) v acc y hown hb hB hB0 hs hx rfl (by simp [Value.oneCell']) hn (by decide) h

end Go.Proofs.Ytkfkcbceoekgjaa
