/- Walks: the exact laws' helpers at caches. -/
import Derived.Test.YtnedkfmbeeodfaaRun2
import Derived.Test.YtnedkfmbeeodfaaExI
namespace Go.Proofs.Ytnedkfmbeeodfaa
open Go.RowKit

set_option maxHeartbeats 400000 in
theorem laws_szIntS_c (v : Value) (xs : List Int) (left : Int) (B : Nat) (w : World) (h : Ints w B v xs) (h0 : 0 ≤ left) (h1 : left ≤ 1048576) :
    Calls Try.prog 53 #[v, .int .i64 left] w fun e w' => e = .returned (.int .i64 (if left < xs.length then -1 else left - xs.length)) ∧ w = w' := by
  obtain ⟨n, hn⟩ : ∃ n, xs.length = n := ⟨_, rfl⟩
  obtain ⟨a, c, rfl, _, _, _⟩ := h.ints hn
  rw [hn]
  clear hn
  by_cases hl : left < n
  · rw [if_pos hl]
    have hl' : left - n < 0 := by omega
    go_enter Try.func53, Try.ntmps53
    go_wp2
    go_ret
    exact ⟨rfl, rfl⟩
  · rw [if_neg hl]
    have hl' : 0 ≤ left - n := by omega
    go_enter Try.func53, Try.ntmps53
    go_wp2
    go_ret
    exact ⟨rfl, rfl⟩

set_option maxHeartbeats 400000 in
theorem laws_szCache_c (m : Int) (v : Value) (xs : List Int) (left : Int) (w : World) (h : Ints w w.heap.size v xs) (h0 : 0 ≤ left) (h1 : left ≤ 1048576) :
    Calls Try.prog 15 #[cv m v, .int .i64 left] w fun e w' => e = .returned (.int .i64 (if left < xs.length then -1 else left - xs.length)) ∧ Below w.heap.size w w' := by
  obtain ⟨n, hn⟩ : ∃ n, xs.length = n := ⟨_, rfl⟩
  obtain ⟨a, c, rfl, _, _, _⟩ := h.ints hn
  have hal : ∀ t, Below w.heap.size w (w.alloc (.cells #[.int .i64 m, .slice a n c] t)) := fun t => (Below.refl _ _).alloc (Nat.le_refl _) _
  by_cases hl : left < n
  · rw [if_pos (by rw [hn]; exact hl)]
    have HI := hid (show (if left < xs.length then -1 else left - xs.length) = -1 by rw [hn, if_pos hl])
    clear hn
    go_enter Try.func15, Try.ntmps15
    go_wp2_with (go_at_call 53; refine (laws_szIntS_c _ xs left _ _ (h.on (hal _)) h0 h1).mono ?_; rw [HI.out]; rintro e w' ⟨rfl, rfl⟩)
    go_ret
    exact ⟨rfl, hal _⟩
  · rw [if_neg (by rw [hn]; exact hl)]
    have HI := hid (show (if left < xs.length then -1 else left - xs.length) = left - n by rw [hn, if_neg hl])
    have hl' : 0 ≤ left - n := by omega
    rw [hn]
    clear hn
    go_enter Try.func15, Try.ntmps15
    go_wp2_with (go_at_call 53; refine (laws_szIntS_c _ xs left _ _ (h.on (hal _)) h0 h1).mono ?_; rw [HI.out]; rintro e w' ⟨rfl, rfl⟩)
    go_ret
    exact ⟨rfl, hal _⟩

set_option maxHeartbeats 400000 in
theorem laws_eqCache_c (m : Int) (v u : Value) (xs : List Int) (w : World) (h : Ints w w.heap.size v xs) (h' : Ints w w.heap.size u xs) :
    Calls Try.prog 19 #[cv m v, cv m u] w fun e w' => e = .returned (.bool true) ∧ Below w.heap.size w w' := by
  obtain ⟨n, hn⟩ : ∃ n, xs.length = n := ⟨_, rfl⟩
  obtain ⟨a, c, rfl, _, _, _⟩ := h.ints hn
  obtain ⟨a', c', rfl, _, _, _⟩ := h'.ints hn
  have hal : Below w.heap.size w ((w.alloc (.cells #[.int .i64 m, .slice a n c] 27)).alloc (.cells #[.int .i64 m, .slice a' n c'] 27)) := ((Below.refl _ _).alloc (Nat.le_refl _) _).alloc (by simp) _
  clear hn
  go_enter Try.func19, Try.ntmps19
  go_wp2_with (go_at_call 25; refine (laws_eqIntS_c _ _ xs xs _ _ _ (h.on hal) (h'.on hal)).mono ?_; rintro e w' ⟨rfl, q, rfl⟩)
  go_ret
  exact ⟨by simp, bl_drewN hal _⟩

set_option maxHeartbeats 400000 in
theorem laws_markCache_c (m : Int) (v : Value) (base n : Nat) (xs : List Int) (k : Int) (w : World) (h : OwnI w base v xs) (hxn : xs.length = n) (hn : n ≤ 1048576) (k0 : 0 ≤ k) (k1 : k ≤ 1000000000000) :
    Calls Try.prog 28 #[cv m v, .int .i64 k] w fun e w' => e = .returned (.int .i64 (k + n)) ∧ OwnI w' base v (marks k n) ∧ w.grownBy w' v.ownBlock := by
  obtain ⟨a, c, rfl, _, _, _⟩ := (Rd.of_own h).ints hxn
  go_enter Try.func28, Try.ntmps28
  go_wp2_with fail
  refine (laws_markIntS_c _ base n xs k _ (h.alloc _) hxn hn k0 k1).mono ?_
  rintro e w2 ⟨rfl, o2, g2⟩
  have g3 := gb_unalloc g2
  clear h hxn g2
  go_wp2
  go_ret
  exact ⟨rfl, o2, g3⟩

set_option maxHeartbeats 400000 in
theorem laws_heldCache_c (m : Int) (v : Value) (base n : Nat) (k : Int) (w : World) (h : OwnI w base v (marks k n)) (hn : n ≤ 1048576) (k0 : 0 ≤ k) (k1 : k ≤ 1000000000000) :
    Calls Try.prog 29 #[cv m v, .int .i64 k] w fun e w' => e = .returned (.int .i64 (k + n)) ∧ Below w.heap.size w w' := by
  obtain ⟨a, c, rfl, _, _, _⟩ := (Rd.of_own h).ints (marks_len k n)
  have hkn : 0 ≤ k + (n : Int) := by omega
  go_enter Try.func29, Try.ntmps29
  go_wp2_with fail
  refine (laws_heldIntS_c _ base n k _ (h.alloc _) hn k0 k1).mono ?_
  rintro e w2 ⟨rfl, rfl⟩
  clear h
  go_wp2
  go_ret
  exact ⟨rfl, (Below.refl _ _).alloc (Nat.le_refl _) _⟩

set_option maxHeartbeats 2000000 in
theorem laws_toCache_c (m : Int) (v : Value) (xs : List Int) (w : World) (h : Ints w w.heap.size v xs) (hn0 : xs.length ≤ 1048576) :
    Calls Try.prog 17 #[cv m v] w fun e w' => ∃ v', e = .returned (cv m v') ∧ OwnI w' w.heap.size v' xs ∧ Below w.heap.size w w' := by
  obtain ⟨n, hn⟩ : ∃ n, xs.length = n := ⟨_, rfl⟩
  obtain ⟨a, c, rfl, _, _, _⟩ := h.ints hn
  obtain ⟨W3, hW3⟩ : ∃ W3, W3 = ((w.alloc (.cells #[.int .i64 m, .slice a n c] 24)).alloc (.cells #[.int .i64 0, .slice none 0 0] 27)).alloc (.cells #[.int .i64 m, .slice none 0 0] 27) := ⟨_, rfl⟩
  have hb0 : Below w.heap.size w W3 := by rw [hW3]; exact (((Below.refl _ _).alloc (Nat.le_refl _) _).alloc (by simp) _).alloc (by simp; omega) _
  have hs3 : W3.heap.size = w.heap.size + 1 + 1 + 1 := by rw [hW3]; simp
  have hh1 : W3.heap[w.heap.size + 1]? = some (.cells #[.int .i64 0, .slice none 0 0] 27 (0, 0)) := by rw [hW3]; exact (Below.heap_alloc _ _ _ (by simp)).trans (second_heap _ _ _)
  have hh2 : W3.heap[w.heap.size + 1 + 1]? = some (.cells #[.int .i64 m, .slice none 0 0] 27 (0, 0)) := by rw [hW3]; have := second_heap (w.alloc (.cells #[.int .i64 m, .slice a n c] 24)) (.cells #[.int .i64 0, .slice none 0 0] 27) (.cells #[.int .i64 m, .slice none 0 0] 27); simpa using this
  go_enter Try.func17, Try.ntmps17
  go_wp2_with fail
  rw [← hW3]
  refine (laws_toIntS_c _ xs W3 (h.on hb0) hn0).mono ?_
  rintro e w4 ⟨v', rfl, o4, b4⟩
  obtain ⟨ka, kc, rfl, _, _, _⟩ := (Rd.of_own o4).ints hn
  have hc1 := (b4.block (w.heap.size + 1) (by omega)).trans hh1
  have hc2 := (b4.block (w.heap.size + 1 + 1) (by omega)).trans hh2
  have c4 := bl_then hb0 (b4.mono (Nat.le_refl _))
  obtain ⟨x0, x1, f0, f1⟩ := two_cells hc1
  obtain ⟨y0, y1, g0, g1⟩ := two_cells hc2
  obtain ⟨W5, hW5⟩ : ∃ W5, W5 = w4.setCell ⟨w.heap.size + 1 + 1, 1, none⟩ (.slice ka n kc) := ⟨_, rfl⟩
  have g5 : w4.grownBy W5 (some (w.heap.size + 1 + 1)) := by rw [hW5]; exact ⟨rfl, rfl, rfl, by simp [World.setCell], fun k _ hne => Below.heap_setCell _ _ _ _ (fun e => hne (by rw [e]))⟩
  have o5 := o4.far g5 (fun g hg => by simp at hg; omega)
  have hc5 := (g5.block (w.heap.size + 1) (Array.getElem?_eq_some_iff.1 hc1).1 (some_ne (by omega))).trans hc1
  obtain ⟨z0, z1, _, _⟩ := two_cells hc5
  have c5 : Below w.heap.size w W5 := by rw [hW5]; exact c4.setCell (by simp; omega) _
  have g6 := gb_set2 W5 (w.heap.size + 1) (.int .i64 m) (.slice ka n kc)
  have o6 := (o5.far g6 (fun g hg => by simp at hg; omega)).less (show w.heap.size ≤ W3.heap.size by omega)
  have c6 : Below w.heap.size w _ := c5.grown g6 c5.size (fun g hg => by simp at hg; omega)
  obtain ⟨q0, q1⟩ := set2 (x' := .int .i64 m) (y' := .slice ka n kc) z0 z1
  rw [hW5] at q0 q1 o6 c6
  have O6 := hid o6
  have C6 := hid c6
  clear h o4 o5 o6 c6 c5 c4 g5 g6 hW5 b4 hh1 hh2 hc1 hc2 hc5
  go_wp2
  refine bodyPost_ret (v := cv m (.slice ka n kc)) (by simp [results, Try.results17, go_sem, q0, q1]; try rfl) rfl ?_
  exact ⟨_, rfl, O6.out, C6.out⟩

end Go.Proofs.Ytnedkfmbeeodfaa
