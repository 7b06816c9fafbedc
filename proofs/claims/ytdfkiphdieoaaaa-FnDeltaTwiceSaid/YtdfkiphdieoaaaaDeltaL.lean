/- Walks: the exact laws of deltas. -/
import Derived.Test.YtdfkiphdieoaaaaDelta5
namespace Go.Proofs.Ytdfkiphdieoaaaa
open Go.RowKit

theorem deltaOf_dv (a b : ByteArray) : ∃ (h t : Int) (p : ByteArray) (o : Bool), deltaOf a b = (dv h t p, o) := by
  unfold deltaOf
  split
  · exact ⟨_, _, _, _, rfl⟩
  · exact ⟨_, _, _, _, rfl⟩
theorem turnDelta_dv (a : ByteArray) (h t : Int) (p : ByteArray) : ∃ (h' t' : Int) (p' : ByteArray), turnDelta a h t p = dv h' t' p' := by
  unfold turnDelta
  split
  · exact ⟨_, _, _, rfl⟩
  · exact ⟨_, _, _, rfl⟩

set_option maxHeartbeats 2000000 in
theorem laws_eqDelta_c (h t : Int) (p : ByteArray) (w : World) :
    Calls Try.prog 18 #[dv h t p, dv h t p] w fun e w' => e = .returned (.bool true) ∧ Below w.heap.size w w' := by
  go_enter Try.func18, Try.ntmps18
  go_wp2
  go_ret
  exact ⟨rfl, ((Below.refl _ _).alloc (Nat.le_refl _) _).alloc (by simp) _⟩

set_option maxHeartbeats 2000000 in
theorem laws_toDelta_c (h t : Int) (p : ByteArray) (w : World) :
    Calls Try.prog 14 #[dv h t p] w fun e w' => e = .returned (dv h t p) ∧ Below w.heap.size w w' := by
  go_enter Try.func14, Try.ntmps14
  go_wp2
  go_returns
  refine ⟨rfl, ?_⟩
  go_grown

set_option maxHeartbeats 2000000 in
theorem laws_szDelta_c (h t : Int) (p : ByteArray) (n : Int) (w : World) (hp : p.size ≤ 9223372036854775807) (hn : 0 ≤ n ∧ n ≤ 1048576) :
    Calls Try.prog 12 #[dv h t p, .int .i64 n] w fun e w' => e = .returned (.int .i64 (if n < p.size then -1 else n - p.size)) ∧ Below w.heap.size w w' := by
  obtain ⟨n0, n1⟩ := hn
  by_cases hlt : n < p.size
  · go_enter Try.func12, Try.ntmps12
    go_wp2
    go_ret
    exact ⟨rfl, (Below.refl _ _).alloc (Nat.le_refl _) _⟩
  · go_enter Try.func12, Try.ntmps12
    go_wp2
    go_ret
    exact ⟨rfl, (Below.refl _ _).alloc (Nat.le_refl _) _⟩

set_option maxHeartbeats 2000000 in
theorem laws_FnExactDeltaCost_c (a b : ByteArray) (w : World) :
    Calls Try.prog 5 #[.string a, .string b] w fun e w' => e = .returned (.bool true) ∧ Below w.heap.size w w' := by
  by_cases ha : 1048576 < a.size
  · go_enter Try.func5, Try.ntmps5
    go_wp2
    go_ret
    exact ⟨rfl, Below.refl _ _⟩
  · by_cases hb : 1048576 < b.size
    · go_enter Try.func5, Try.ntmps5
      go_wp2
      go_ret
      exact ⟨rfl, Below.refl _ _⟩
    · go_enter Try.func5, Try.ntmps5
      go_wp2_with (first | (go_at_call 19; refine (spec_DeltaCost_c _ _ _ (by omega) (by omega)).mono ?_; rintro e w1 ⟨rfl, b1⟩) | (go_at_call 20; refine (impl_DeltaCost_c _ _ _).mono ?_; rintro e w2 ⟨rfl, b2⟩))
      go_ret
      exact ⟨rfl, bl_then b1 b2⟩

set_option maxHeartbeats 2000000 in
theorem laws_FnExactDeltaOf_c (a b : ByteArray) (w : World) :
    Calls Try.prog 4 #[.string a, .string b] w fun e w' => e = .returned (.bool true) ∧ Below w.heap.size w w' := by
  by_cases ha : 1048576 < a.size
  · go_enter Try.func4, Try.ntmps4
    go_wp2
    go_ret
    exact ⟨rfl, Below.refl _ _⟩
  · by_cases hb : 1048576 < b.size
    · go_enter Try.func4, Try.ntmps4
      go_wp2
      go_ret
      exact ⟨rfl, Below.refl _ _⟩
    · obtain ⟨h, t, p, o, hd⟩ := deltaOf_dv a b
      have HD := hid hd
      clear hd
      cases o
      all_goals
        go_enter Try.func4, Try.ntmps4
        go_wp2_with fail
        refine (spec_DeltaOf_c _ _ _ (by omega) (by omega)).mono ?_
        rw [HD.out]
        rintro e w1 ⟨rfl, b1⟩
        go_wp2_with fail
        refine (impl_DeltaOf_c _ _ _).mono ?_
        rw [HD.out]
        rintro e w2 ⟨rfl, b2⟩
        have hh : w2.heap[w1.heap.size]? = some (.cells #[.int .i64 h, .int .i64 t, .string p] 27 (0, 0)) := (b2.block _ (by simp)).trans (heap_alloc_new _ _)
        obtain ⟨k0, k1, k2, _, _, _⟩ := three_cells hh
        have c2 := bl_then (b1.alloc b1.size _) b2
        have y12 : w1.heap.size < w2.heap.size := (Array.getElem?_eq_some_iff.1 hh).1
        clear b1 b2 hh
        go_wp2_with (go_at_call 18; refine (laws_eqDelta_c _ _ _ _).mono ?_; rintro e w3 ⟨rfl, b3⟩)
        go_ret
        exact ⟨by first | rfl | simp, bl_then (c2.alloc c2.size _) b3⟩

set_option maxHeartbeats 2000000 in
theorem laws_FnExactApplyDelta_c (a : ByteArray) (h t : Int) (p : ByteArray) (w : World) (hp : p.size ≤ 9223372036854775807) :
    Calls Try.prog 3 #[.string a, dv h t p] w fun e w' => e = .returned (.bool true) ∧ Below w.heap.size w w' := by
  by_cases ha : 1048576 < a.size
  · go_enter Try.func3, Try.ntmps3
    go_wp2
    go_ret
    exact ⟨rfl, (Below.refl _ _).alloc (Nat.le_refl _) _⟩
  · by_cases hb : (1048576 : Int) < p.size
    · have HS := hid (show (if (1048576 : Int) < p.size then (-1 : Int) else 1048576 - p.size) = -1 from if_pos hb)
      go_enter Try.func3, Try.ntmps3
      go_wp2_with (go_at_call 12; refine (laws_szDelta_c _ _ _ _ _ (by omega) (by omega)).mono ?_; rw [HS.out]; rintro e w1 ⟨rfl, b1⟩)
      go_ret
      exact ⟨rfl, bl_then ((Below.refl _ _).alloc (Nat.le_refl _) _) b1⟩
    · have HS := hid (show (if (1048576 : Int) < p.size then (-1 : Int) else 1048576 - p.size) = 1048576 - p.size from if_neg hb)
      have c0 := (Below.refl w.heap.size w).alloc (Nat.le_refl _) (.cells #[.int .i64 h, .int .i64 t, .string p] 23)
      have hh0 := heap_alloc_new w (.cells #[.int .i64 h, .int .i64 t, .string p] 23)
      go_enter Try.func3, Try.ntmps3
      go_wp2_with fail
      refine (laws_szDelta_c _ _ _ _ _ (by omega) (by omega)).mono ?_
      rw [HS.out]
      rintro e w1 ⟨rfl, b1⟩
      have hh1 := (b1.block _ (by simp)).trans hh0
      have c1 := bl_then c0 b1
      have y1 : w.heap.size < w1.heap.size := (Array.getElem?_eq_some_iff.1 hh1).1
      obtain ⟨k0, k1, k2, _, _, _⟩ := three_cells hh1
      clear hh0 b1
      go_wp2_with fail
      refine (laws_toDelta_c _ _ _ _).mono ?_
      rintro e w2 ⟨rfl, b2⟩
      have hh2 := (b2.block _ y1).trans hh1
      have c2 := bl_then c1 b2
      have y2 : w.heap.size < w2.heap.size := (Array.getElem?_eq_some_iff.1 hh2).1
      clear hh1 b2 k0 k1 k2
      go_wp2_with fail
      refine (spec_ApplyDelta_c _ _ _ _ _ (by omega) (by omega)).mono ?_
      rintro e w3 ⟨rfl, b3⟩
      have hh3 := (b3.block _ y2).trans hh2
      have c3 := bl_then c2 b3
      have y3 : w.heap.size < w3.heap.size := (Array.getElem?_eq_some_iff.1 hh3).1
      obtain ⟨k0, k1, k2, _, _, _⟩ := three_cells hh3
      clear hh2 b3
      go_wp2_with fail
      refine (laws_toDelta_c _ _ _ _).mono ?_
      rintro e w4 ⟨rfl, b4⟩
      have c4 := bl_then c3 b4
      go_wp2_with fail
      refine (impl_ApplyDelta_c _ _ _ _ _ (by omega) (by omega)).mono ?_
      rintro e w5 ⟨rfl, b5⟩
      have c5 := bl_then c4 b5
      clear b4 b5 hh3
      go_wp2
      go_ret
      exact ⟨by first | rfl | simp, c5⟩

set_option maxHeartbeats 2000000 in
theorem laws_FnExactTurnDelta_c (a : ByteArray) (h t : Int) (p : ByteArray) (w : World) (hp : p.size ≤ 9223372036854775807) :
    Calls Try.prog 6 #[.string a, dv h t p] w fun e w' => e = .returned (.bool true) ∧ Below w.heap.size w w' := by
  by_cases ha : 1048576 < a.size
  · go_enter Try.func6, Try.ntmps6
    go_wp2
    go_ret
    exact ⟨rfl, (Below.refl _ _).alloc (Nat.le_refl _) _⟩
  · by_cases hb : (1048576 : Int) < p.size
    · have HS := hid (show (if (1048576 : Int) < p.size then (-1 : Int) else 1048576 - p.size) = -1 from if_pos hb)
      go_enter Try.func6, Try.ntmps6
      go_wp2_with (go_at_call 12; refine (laws_szDelta_c _ _ _ _ _ (by omega) (by omega)).mono ?_; rw [HS.out]; rintro e w1 ⟨rfl, b1⟩)
      go_ret
      exact ⟨rfl, bl_then ((Below.refl _ _).alloc (Nat.le_refl _) _) b1⟩
    · have HS := hid (show (if (1048576 : Int) < p.size then (-1 : Int) else 1048576 - p.size) = 1048576 - p.size from if_neg hb)
      obtain ⟨h', t', p', hd⟩ := turnDelta_dv a h t p
      have HD := hid hd
      clear hd
      have c0 := (Below.refl w.heap.size w).alloc (Nat.le_refl _) (.cells #[.int .i64 h, .int .i64 t, .string p] 23)
      have hh0 := heap_alloc_new w (.cells #[.int .i64 h, .int .i64 t, .string p] 23)
      go_enter Try.func6, Try.ntmps6
      go_wp2_with fail
      refine (laws_szDelta_c _ _ _ _ _ (by omega) (by omega)).mono ?_
      rw [HS.out]
      rintro e w1 ⟨rfl, b1⟩
      have hh1 := (b1.block _ (by simp)).trans hh0
      have c1 := bl_then c0 b1
      have y1 : w.heap.size < w1.heap.size := (Array.getElem?_eq_some_iff.1 hh1).1
      obtain ⟨k0, k1, k2, _, _, _⟩ := three_cells hh1
      clear hh0 b1
      go_wp2_with fail
      refine (laws_toDelta_c _ _ _ _).mono ?_
      rintro e w2 ⟨rfl, b2⟩
      have hh2 := (b2.block _ y1).trans hh1
      have c2 := bl_then c1 b2
      have y2 : w.heap.size < w2.heap.size := (Array.getElem?_eq_some_iff.1 hh2).1
      clear hh1 b2 k0 k1 k2
      go_wp2_with fail
      refine (spec_TurnDelta_c _ _ _ _ _ (by omega) (by omega)).mono ?_
      rw [HD.out]
      rintro e w3 ⟨rfl, b3⟩
      have hh3 := (b3.block _ y2).trans hh2
      have c3 := bl_then c2 b3
      have y3 : w.heap.size < w3.heap.size := (Array.getElem?_eq_some_iff.1 hh3).1
      obtain ⟨k0, k1, k2, _, _, _⟩ := three_cells hh3
      clear hh2 b3
      go_wp2_with fail
      refine (laws_toDelta_c _ _ _ _).mono ?_
      rintro e w4 ⟨rfl, b4⟩
      have hv4 : w4.heap[w3.heap.size]? = some (.cells #[.int .i64 h', .int .i64 t', .string p'] 27 (0, 0)) := (b4.block _ (by simp)).trans (heap_alloc_new _ _)
      have c4 := bl_then (c3.alloc c3.size _) b4
      have y4 : w3.heap.size < w4.heap.size := (Array.getElem?_eq_some_iff.1 hv4).1
      clear b4 hh3 k0 k1 k2
      go_wp2_with fail
      refine (impl_TurnDelta_c _ _ _ _ _ (by omega) (by omega)).mono ?_
      rw [HD.out]
      rintro e w5 ⟨rfl, b5⟩
      have hv5 := (b5.block _ y4).trans hv4
      obtain ⟨k0, k1, k2, _, _, _⟩ := three_cells hv5
      have c5 := bl_then c4 b5
      have y5 : w3.heap.size < w5.heap.size := (Array.getElem?_eq_some_iff.1 hv5).1
      clear b5 hv4 hv5
      go_wp2_with (go_at_call 18; refine (laws_eqDelta_c _ _ _ _).mono ?_; rintro e w6 ⟨rfl, b6⟩)
      go_ret
      exact ⟨by first | rfl | simp, bl_then (c5.alloc c5.size _) b6⟩

end Go.Proofs.Ytdfkiphdieoaaaa
