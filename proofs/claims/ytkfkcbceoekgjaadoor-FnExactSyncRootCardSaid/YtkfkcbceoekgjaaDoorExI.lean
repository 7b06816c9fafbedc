/- Walks of the exact laws' own helpers at slices of numbers and bools: copies, comparisons, marks. -/
import Derived.Test.YtkfkcbceoekgjaaDoorA
namespace Go.Proofs.YtkfkcbceoekgjaaDoor
open Go.RowKit


/-- The marks k, k + 1, .. -/
def marks (k : Int) (n : Nat) : List Int := (List.range n).map fun (j : Nat) => k + j
theorem marks_len (k : Int) (n : Nat) : (marks k n).length = n := by simp [marks]
theorem marks_get (k : Int) (n j : Nat) (h : j < n) : (marks k n)[j]? = some (k + j) := by simp [marks, h]
theorem marks_cell (k : Int) (n j : Nat) (h : j < n) : ((marks k n).flatMap encI)[j]? = some (.int .i64 (k + j)) := by
  have := flatMap_get (enc := encI) (fun _ => rfl) (marks k n) j 0 _ _ (marks_get k n j h) rfl
  simpa using this
theorem flat_len1 {α : Type} (f : α → Value) (xs : List α) : (xs.flatMap fun x => [f x]).length = xs.length := by rw [← List.map_eq_flatMap, List.length_map]

set_option maxHeartbeats 400000 in
theorem laws_markIntS_c (v : Value) (base n : Nat) (xs : List Int) (k : Int) (w : World) (h : OwnI w base v xs) (hxn : xs.length = n) (hn : n ≤ 1048576) (k0 : 0 ≤ k) (k1 : k ≤ 1000000000000) :
    Calls Tryd.prog 14 #[v, .int .i64 k] w fun e w' => e = .returned (.int .i64 (k + n)) ∧ OwnI w' base v (marks k n) ∧ w.grownBy w' v.ownBlock := by
  subst hxn
  obtain ⟨n, hxn⟩ : ∃ n, xs.length = n := ⟨_, rfl⟩
  have h : w.ownsRow base 3 1 v n (xs.flatMap encI) := by have := h; unfold OwnI Own at this; rwa [hxn] at this
  rw [hxn] at hn ⊢
  unfold OwnI Own
  rw [marks_len]
  rcases h.2 with ⟨rfl, rfl⟩ | ⟨g, cap, cur, rfl, hbg, _, hnc, hcm, _⟩
  · have HX := hid hxn
    clear hxn
    go_enter Tryd.func14, Tryd.ntmps14
    go_wp2
    refine wp_loop_rounds 1 ?_
    rw [rounds_succ]
    go_wp2
    go_ret
    exact ⟨ret_i (by simp), World.ownsRow_nil _ _ _ _, World.grownBy.refl _ _⟩
  · have HX := hid hxn
    clear hxn hcm
    go_enter Tryd.func14, Tryd.ntmps14
    go_wp2
    go_loopw [1, 5] (fun kk i wr => ∃ (j : Nat) (cs' : List Value), j ≤ n ∧ i = .int .i64 j ∧ kk = .int .i64 (k + j) ∧ wr.ownsRow base 3 1 (.slice (some ⟨g, 0, none⟩) n cap) n cs' ∧ Pre cs' ((marks k n).flatMap encI) j ∧ w.grownBy wr (some g)) (fun _ i _ => n - (intOf i).toNat)
    case atStart => exact ⟨0, _, Nat.zero_le _, rfl, by simp, h, Pre.zero (by rw [flat_len1, flat_len1, marks_len, HX.out]), World.grownBy.refl _ _⟩
    case round =>
      obtain ⟨j, cs', hj, rfl, rfl, hown, hpre, hg⟩ := hrel
      clear h
      by_cases hlt : j < n
      · obtain ⟨u, hu⟩ := hpre.get (j := j) (by rw [flat_len1, marks_len]; exact hlt)
        have hd : wr.cell? ⟨g, j, none⟩ = some u := (hown.cellAt j (by omega)).trans hu
        have hf : wr.frozen? ⟨g, j, none⟩ = false := hown.frozenAt j
        have hst := hid (hown.stored j (.int .i64 (k + j)))
        clear hu
        go_wp2
        go_roundw
        case rel => exact ⟨j + 1, _, by omega, by go_num, by go_num, hst.out.1, hpre.step (marks_cell k n j hlt), hg.trans hst.out.2⟩
        case measure => simp [intOf]; omega
      · obtain rfl : j = n := by omega
        go_wp2
        go_ret
        exact ⟨rfl, by rw [← hpre.all (by rw [flat_len1, marks_len]; exact Nat.le_refl _)]; exact hown, hg⟩

set_option maxHeartbeats 400000 in
theorem laws_heldIntS_c (v : Value) (base n : Nat) (k : Int) (w : World) (h : OwnI w base v (marks k n)) (hn : n ≤ 1048576) (k0 : 0 ≤ k) (k1 : k ≤ 1000000000000) :
    Calls Tryd.prog 15 #[v, .int .i64 k] w fun e w' => e = .returned (.int .i64 (k + n)) ∧ w = w' := by
  obtain ⟨a, c, rfl, h1, h2, h3⟩ := (Rd.of_own h).ints (marks_len k n)
  clear h
  go_enter Tryd.func15, Tryd.ntmps15
  go_wp2
  go_loop [1, 5] (fun kk i => ∃ (j : Nat), j ≤ n ∧ i = .int .i64 j ∧ kk = .int .i64 (k + j)) (fun _ i => n - (intOf i).toNat)
  case atStart => exact ⟨0, Nat.zero_le _, rfl, by simp⟩
  case round =>
    obtain ⟨j, hj, rfl, rfl⟩ := hrel
    by_cases hlt : j < n
    · obtain ⟨b, o, x, rfl, hb, hx, hc⟩ := h3 j hlt
      have hx' := hx.out
      rw [marks_get k n j hlt] at hx'
      obtain rfl := Option.some.inj hx'
      clear h3 hx' hx
      go_wp2
      go_round
      case rel => exact ⟨j + 1, by omega, by go_num, by go_num⟩
      case measure => simp [intOf]; omega
    · obtain rfl : j = n := by omega
      go_wp2
      go_ret
      exact ⟨rfl, rfl⟩

def EqPost (r : Bool) (w : World) (e : Ending) (w' : World) : Prop := e = .returned (.bool r) ∧ ∃ n, w' = w.drewN n

set_option maxHeartbeats 400000 in
theorem laws_eqIntS_c (v u : Value) (xs ys : List Int) (B B' : Nat) (w : World) (h : Ints w B v xs) (h' : Ints w B' u ys) :
    Calls Tryd.prog 11 #[v, u] w (EqPost (decide (xs = ys)) w) := by
  by_cases hl : xs.length = ys.length
  · obtain ⟨n, hn⟩ : ∃ n, xs.length = n := ⟨_, rfl⟩
    obtain ⟨a, c, rfl, h1, h2, h3⟩ := h.ints hn
    obtain ⟨a', c', rfl, h1', h2', h3'⟩ := h'.ints (hl.symm.trans hn)
    have HN := hid hn
    have HL := hid hl
    clear hn hl h h'
    go_enter Tryd.func11, Tryd.ntmps11
    go_wp2
    go_loopw [5] (fun i wr => ∃ (k m : Nat), k ≤ n ∧ i = .int .i64 k ∧ Hid (xs.take k = ys.take k) ∧ wr = w.drewN m) (fun i _ => n - (intOf i).toNat)
    case atStart => exact ⟨0, 0, Nat.zero_le _, rfl, by simp [Hid], rfl⟩
    case round =>
      obtain ⟨k, m, hk, rfl, heq, rfl⟩ := hrel
      by_cases hlt : k < n
      · obtain ⟨b, o, x, rfl, hb, hx, hc⟩ := h3 k hlt
        obtain ⟨b', o', y, rfl, hb', hy, hc'⟩ := h3' k hlt
        clear h3 h3'
        by_cases hxy : x = y
        · subst hxy
          go_wp2
          go_quiet (fail)
          go_wp2
          go_roundw
          case rel => exact ⟨k + 1, _, by omega, by go_num, take_eq_succ heq.out hx.out hy.out, rfl⟩
          case measure => simp [intOf]; omega
        · have hb1 : (x != y) = true := by simp [hxy]
          go_wp2
          go_quiet (fail)
          go_wp2
          go_ret
          exact ⟨ret_b (by simpa using ne_of_get hx.out hy.out hxy), _, World.drewN_drewN _ _ _⟩
      · go_wp2
        go_ret
        exact ⟨ret_b (by symm; simpa using eq_of_take HN.out (HL.out.symm.trans HN.out) (by omega) heq.out), m, rfl⟩
  · obtain ⟨a, c, rfl, h1, h2, h3⟩ := h.ints rfl
    obtain ⟨a', c', rfl, h1', h2', h3'⟩ := h'.ints rfl
    have hl' : ((xs.length : Int) != (ys.length : Int)) = true := by simp; omega
    have HL := hid hl
    clear hl h3 h3'
    go_enter Tryd.func11, Tryd.ntmps11
    go_wp2
    go_ret
    exact ⟨ret_b (by symm; simp; intro he; exact HL.out (by rw [he])), 0, rfl⟩

theorem laws_eqIntS_b (v u : Value) (xs ys : List Int) (B B' : Nat) (w : World) (h : Ints w B v xs) (h' : Ints w B' u ys) :
    Calls Tryd.prog 11 #[v, u] w fun e w' => e = .returned (.bool (decide (xs = ys))) ∧ Below w.heap.size w w' :=
  (laws_eqIntS_c v u xs ys B B' w h h').mono fun _ _ ⟨he, n, hw⟩ => ⟨he, hw ▸ bl_drewN (Below.refl _ _) n⟩

theorem laws_heldIntS_b (v : Value) (base n : Nat) (k : Int) (w : World) (h : OwnI w base v (marks k n)) (hn : n ≤ 1048576) (k0 : 0 ≤ k) (k1 : k ≤ 1000000000000) :
    Calls Tryd.prog 15 #[v, .int .i64 k] w fun e w' => e = .returned (.int .i64 (k + n)) ∧ Below w.heap.size w w' :=
  (laws_heldIntS_c v base n k w h hn k0 k1).mono fun _ _ ⟨he, hw⟩ => ⟨he, hw ▸ Below.refl _ _⟩

end Go.Proofs.YtkfkcbceoekgjaaDoor
