/- Walks: copies, comparisons, marks of slices of numbers. -/
import Derived.Test.YtlkcbfolpfckgaaW2
namespace Go.Proofs.Ytlkcbfolpfckgaa
open Go.RowKit

theorem info_int : (Try.prog.info? 3).map (fun i => (i.zero, i.size, i.bytes)) = some (some (.int .i64 0), 1, 8) := by kernel_rfl

/-- The first k cells are those of ys. -/
def Pre (cs ys : List Value) (k : Nat) : Prop := cs.length = ys.length ∧ cs.take k = ys.take k
theorem Pre.zero {cs ys : List Value} (h : cs.length = ys.length) : Pre cs ys 0 := ⟨h, by simp⟩
theorem Pre.step {cs ys : List Value} {k : Nat} {u : Value} (h : Pre cs ys k) (hu : ys[k]? = some u) : Pre (cs.set k u) ys (k + 1) := by
  obtain ⟨hk, rfl⟩ := List.getElem?_eq_some_iff.1 hu
  refine ⟨by simp [h.1], ?_⟩
  have hk' : k < cs.length := by rw [h.1]; exact hk
  rw [List.take_succ_eq_append_getElem (by simpa using hk'), List.take_succ_eq_append_getElem hk, List.take_set_of_le (Nat.le_refl k), h.2]
  simp
theorem Pre.all {cs ys : List Value} {k : Nat} (h : Pre cs ys k) (hk : ys.length ≤ k) : cs = ys := by
  have := h.2
  rwa [List.take_of_length_le (by rw [h.1]; exact hk), List.take_of_length_le hk] at this
theorem Pre.get {cs ys : List Value} {k : Nat} (h : Pre cs ys k) {j : Nat} (hj : j < ys.length) : ∃ u, cs[j]? = some u := ⟨cs[j]'(by rw [h.1]; exact hj), List.getElem?_eq_getElem _⟩

set_option maxHeartbeats 400000 in
theorem laws_toIntS_c (v : Value) (xs : List Int) (w : World) (h : Ints w w.heap.size v xs) (hn : xs.length ≤ 1048576) :
    Calls Try.prog 20 #[v] w fun e w' => ∃ v', e = .returned v' ∧ w'.ownsRow w.heap.size 3 1 v' xs.length (xs.map (Value.int .i64)) ∧ Below w.heap.size w w' := by
  obtain ⟨a, c, rfl, h1, h2, h3⟩ := h.open_
  obtain ⟨i0, hi, hz0, hz1, hz2⟩ := info_parts info_int
  go_enter Try.func20, Try.ntmps20
  go_wp2_with (at_make; refine wpList_make_full _ rfl _ _ 26 rfl w.heap.size 3 i0 (.int .i64 0) 1 Try.underlying26 hi hz0 hz1 _ _ _ _ xs.length rfl rfl rfl rfl ?b2 ?b3 (Nat.le_refl _) ?_)
  case b2 => rw [hz2]; omega
  case b3 => unfold maxLen; omega
  intro w1 hown hg
  have hb1 : Below w.heap.size w w1 := (Below.refl _ _).grown hg (Nat.le_refl _) (by simp)
  go_wp2
  go_loopw [4] (fun i wr => ∃ (k : Nat) (cs : List Value), k ≤ xs.length ∧ i = .int .i64 k ∧ wr.ownsRow w.heap.size 3 1 (.slice (some ⟨w.heap.size, 0, none⟩) xs.length xs.length) xs.length cs ∧ Pre cs (xs.map (Value.int .i64)) k ∧ Below w.heap.size w wr) (fun i _ => xs.length - (intOf i).toNat)
  case atStart => exact ⟨0, _, Nat.zero_le _, rfl, hown, Pre.zero (by simpa using hown.1), hb1⟩
  case round =>
    obtain ⟨k, cs, hk, rfl, hown', hpre, hb⟩ := hrel
    clear hown hg hb1
    by_cases hlt : k < xs.length
    · obtain ⟨b, o, rfl, hbl, hc⟩ := h3 k hlt
      have hc' : wr.cell? ⟨b, o + k, none⟩ = some (.int .i64 xs[k]) := (hb.cell (p := ⟨b, o + k, none⟩) hbl).trans hc
      obtain ⟨u, hu⟩ := hpre.get (j := k) (by simpa using hlt)
      have hd : wr.cell? ⟨w.heap.size, k, none⟩ = some u := (hown'.cellAt k (by omega)).trans hu
      have hf : wr.frozen? ⟨w.heap.size, k, none⟩ = false := hown'.frozenAt k
      have hst := hid (hown'.stored k (.int .i64 xs[k])).1
      clear hu h3 hc
      go_wp2
      go_roundw
      case rel => exact ⟨k + 1, _, by omega, by go_num, hst.out, hpre.step (by simp [hlt]), hb.setCell (Nat.le_refl _) _⟩
      case measure => simp [intOf]; omega
    · go_wp2
      go_ret
      exact ⟨_, rfl, by rw [← hpre.all (by simp; omega)]; exact hown', hb⟩

/-- The marks k, k + 1, .. -/
def marks (k : Int) (n : Nat) : List Value := (List.range n).map fun (j : Nat) => Value.int .i64 (k + j)
theorem marks_get (k : Int) (n j : Nat) (h : j < n) : (marks k n)[j]? = some (.int .i64 (k + j)) := by simp [marks, h]

set_option maxHeartbeats 400000 in
theorem laws_markIntS_c (v : Value) (base n : Nat) (cs : List Value) (k : Int) (w : World) (h : w.ownsRow base 3 1 v n cs) (hn : n ≤ 1048576) (k0 : 0 ≤ k) (k1 : k ≤ 1000000000000) :
    Calls Try.prog 27 #[v, .int .i64 k] w fun e w' => e = .returned (.int .i64 (k + n)) ∧ w'.ownsRow base 3 1 v n (marks k n) ∧ w.grownBy w' v.ownBlock := by
  rcases h.2 with ⟨rfl, rfl⟩ | ⟨g, cap, cur, rfl, hbg, _, hnc, hcm, _⟩
  · go_enter Try.func27, Try.ntmps27
    go_wp2
    refine wp_loop_rounds 1 ?_
    rw [rounds_succ]
    go_wp2
    go_ret
    exact ⟨ret_i (by simp), World.ownsRow_nil _ _ _ _, World.grownBy.refl _ _⟩
  · clear hcm
    go_enter Try.func27, Try.ntmps27
    go_wp2
    go_loopw [1, 5] (fun kk i wr => ∃ (j : Nat) (cs' : List Value), j ≤ n ∧ i = .int .i64 j ∧ kk = .int .i64 (k + j) ∧ wr.ownsRow base 3 1 (.slice (some ⟨g, 0, none⟩) n cap) n cs' ∧ Pre cs' (marks k n) j ∧ w.grownBy wr (some g)) (fun _ i _ => n - (intOf i).toNat)
    case atStart => exact ⟨0, _, Nat.zero_le _, rfl, by simp, h, Pre.zero (by simpa [marks] using h.1), World.grownBy.refl _ _⟩
    case round =>
      obtain ⟨j, cs', hj, rfl, rfl, hown, hpre, hg⟩ := hrel
      clear h
      by_cases hlt : j < n
      · obtain ⟨u, hu⟩ := hpre.get (j := j) (by simpa [marks] using hlt)
        have hd : wr.cell? ⟨g, j, none⟩ = some u := (hown.cellAt j (by omega)).trans hu
        have hf : wr.frozen? ⟨g, j, none⟩ = false := hown.frozenAt j
        have hst := hid (hown.stored j (.int .i64 (k + j)))
        clear hu
        go_wp2
        go_roundw
        case rel => exact ⟨j + 1, _, by omega, by go_num, by go_num, hst.out.1, hpre.step (marks_get k n j hlt), hg.trans hst.out.2⟩
        case measure => simp [intOf]; omega
      · obtain rfl : j = n := by omega
        go_wp2
        go_ret
        exact ⟨rfl, by rw [← hpre.all (by simp [marks])]; exact hown, hg⟩

set_option maxHeartbeats 400000 in
theorem laws_heldIntS_c (v : Value) (base n : Nat) (k : Int) (w : World) (h : w.ownsRow base 3 1 v n (marks k n)) (hn : n ≤ 1048576) (k0 : 0 ≤ k) (k1 : k ≤ 1000000000000) :
    Calls Try.prog 28 #[v, .int .i64 k] w fun e w' => e = .returned (.int .i64 (k + n)) ∧ w = w' := by
  rcases h.2 with ⟨rfl, rfl⟩ | ⟨g, cap, cur, rfl, hbg, _, hnc, hcm, _⟩
  · go_enter Try.func28, Try.ntmps28
    go_wp2
    refine wp_loop_rounds 1 ?_
    rw [rounds_succ]
    go_wp2
    go_ret
    exact ⟨ret_i (by simp), rfl⟩
  · clear hcm
    go_enter Try.func28, Try.ntmps28
    go_wp2
    go_loop [1, 5] (fun kk i => ∃ (j : Nat), j ≤ n ∧ i = .int .i64 j ∧ kk = .int .i64 (k + j)) (fun _ i => n - (intOf i).toNat)
    case atStart => exact ⟨0, Nat.zero_le _, rfl, by simp⟩
    case round =>
      obtain ⟨j, hj, rfl, rfl⟩ := hrel
      by_cases hlt : j < n
      · have hd : w.cell? ⟨g, j, none⟩ = some (.int .i64 (k + j)) := (h.cellAt j (by omega)).trans (marks_get k n j hlt)
        clear h
        go_wp2
        go_round
        case rel => exact ⟨j + 1, by omega, by go_num, by go_num⟩
        case measure => simp [intOf]; omega
      · obtain rfl : j = n := by omega
        go_wp2
        go_ret
        exact ⟨rfl, rfl⟩

def EqPost (r : Bool) (w : World) (e : Ending) (w' : World) : Prop := e = .returned (.bool r) ∧ ∃ n, w' = w.drewN n

set_option maxHeartbeats 400000 in
theorem laws_eqIntS_c (v u : Value) (xs ys : List Int) (B B' : Nat) (w : World) (h : Ints w B v xs) (h' : Ints w B' u ys) :
    Calls Try.prog 22 #[v, u] w (EqPost (decide (xs = ys)) w) := by
  by_cases hl : xs.length = ys.length
  · obtain ⟨n, hn⟩ : ∃ n, xs.length = n := ⟨_, rfl⟩
    obtain ⟨a, c, rfl, h1, h2, h3⟩ := h.openN hn
    obtain ⟨a', c', rfl, h1', h2', h3'⟩ := h'.openN (hl.symm.trans hn)
    have HN := hid hn
    have HL := hid hl
    clear hn hl h h'
    go_enter Try.func22, Try.ntmps22
    go_wp2
    go_loopw [5] (fun i wr => ∃ (k m : Nat), k ≤ n ∧ i = .int .i64 k ∧ Hid (xs.take k = ys.take k) ∧ wr = w.drewN m) (fun i _ => n - (intOf i).toNat)
    case atStart => exact ⟨0, 0, Nat.zero_le _, rfl, by simp [Hid], rfl⟩
    case round =>
      obtain ⟨k, m, hk, rfl, heq, rfl⟩ := hrel
      by_cases hlt : k < n
      · obtain ⟨b, o, x, rfl, hb, hx, hc⟩ := h3 k hlt
        obtain ⟨b', o', y, rfl, hb', hy, hc'⟩ := h3' k hlt
        clear h3 h3'
        by_cases hxy : x = y
        · subst hxy
          go_wp2
          go_quiet (fail)
          go_wp2
          go_roundw
          case rel => exact ⟨k + 1, _, by omega, by go_num, take_eq_succ heq.out hx.out hy.out, rfl⟩
          case measure => simp [intOf]; omega
        · have hb1 : (x != y) = true := by simp [hxy]
          go_wp2
          go_quiet (fail)
          go_wp2
          go_ret
          exact ⟨ret_b (by simpa using ne_of_get hx.out hy.out hxy), _, World.drewN_drewN _ _ _⟩
      · go_wp2
        go_ret
        exact ⟨ret_b (by symm; simpa using eq_of_take HN.out (HL.out.symm.trans HN.out) (by omega) heq.out), m, rfl⟩
  · obtain ⟨a, c, rfl, h1, h2, h3⟩ := h.open_
    obtain ⟨a', c', rfl, h1', h2', h3'⟩ := h'.open_
    have hl' : ((xs.length : Int) != (ys.length : Int)) = true := by simp; omega
    have HL := hid hl
    clear hl h3 h3'
    go_enter Try.func22, Try.ntmps22
    go_wp2
    go_ret
    exact ⟨ret_b (by symm; simp; intro he; exact HL.out (by rw [he])), 0, rfl⟩
end Go.Proofs.Ytlkcbfolpfckgaa
