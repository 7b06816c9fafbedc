/- Walks: the laws of applied and turned deltas over drawn ones. -/
import Derived.Test.YtdfkiphdieoaaaaDrawD3
import Derived.Test.YtdfkiphdieoaaaaDeltaD
import Derived.Test.YtdfkiphdieoaaaaDeltaP
namespace Go.Proofs.Ytdfkiphdieoaaaa
open Go.RowKit

set_option maxHeartbeats 400000 in
theorem spec_DrawTurnDelta_c (v : Value) (l : List Int) (w : World) (h : Rd encU 1 w w.heap.size v l) (hl : ∀ x ∈ l, 0 ≤ x ∧ x ≤ 255) :
    Calls Try.prog 25 #[v] w (TextDelta w) := by
  go_enter Try.func25, Try.ntmps25
  go_wp2_with fail
  refine (spec_DrawApplyDelta_c v l _ ((h.below ((Below.refl w.heap.size w).alloc (Nat.le_refl _) _) (Nat.le_refl _)).more (by simp)) hl).mono ?_
  rintro e w1 ⟨A, s, x, y, rfl, hA, hs, b1⟩
  have hh := (b1.block w.heap.size (by simp)).trans (heap_alloc_new w _)
  have c1 := bl_then ((Below.refl w.heap.size w).alloc (Nat.le_refl _) (.cells #[.int .i64 0, .int .i64 0, .string ⟨#[]⟩] 27)) b1
  obtain ⟨k0, k1, k2, f0, f1, f2⟩ := three_cells hh
  clear hh b1 h hl
  go_wp2
  obtain ⟨e0, e1, e2⟩ := set3 (x' := .int .i64 x) (y' := .int .i64 y) (z' := .string s) k0 k1 k2
  refine bodyPost_ret (v := .tuple #[.string A, dv x y s]) (by simp [results, Try.results25, go_sem, e0, e1, e2]; try rfl) rfl ?_
  refine ⟨A, s, x, y, rfl, hA, hs, Below.setCell (Below.setCell (Below.setCell c1 ?_ _) ?_ _) ?_ _⟩ <;> exact Nat.le_refl _

set_option maxHeartbeats 2000000 in
theorem laws_FnTurnDelta_c (v : Value) (l : List Int) (w : World) (h : Rd encU 1 w w.heap.size v l) (hl : ∀ x ∈ l, 0 ≤ x ∧ x ≤ 255) :
    Calls Try.prog 11 #[v] w fun e w' => e = .returned (.bool true) ∧ Below w.heap.size w w' := by
  obtain ⟨n, hn⟩ : ∃ n, l.length = n := ⟨_, rfl⟩
  obtain ⟨a, c, rfl, _, _, _⟩ := Rd.openN h (fun _ => rfl) hn
  by_cases hbig : 1048576 < n
  · go_enter Try.func11, Try.ntmps11
    go_wp2
    go_ret
    exact ⟨rfl, Below.refl _ _⟩
  · go_enter Try.func11, Try.ntmps11
    go_wp2_with fail
    refine (spec_DrawTurnDelta_c _ l w h hl).mono ?_
    rintro e w1 ⟨A, s, x, y, rfl, hA, hs, b1⟩
    clear h hl
    cases hok : applyOk A x y s
    all_goals
      have HO := hid hok
      go_wp2_with fail
      refine (impl_TurnDelta_c A x y s _ (by omega) (by omega)).mono ?_
      first
      | (have hT := turn_off hok; rw [hT, hok]; have HT := hid hT; clear hT)
      | (have hT := turn_on hok; rw [hT, hok]; have HT := hid hT; clear hT)
      rintro e w2 ⟨rfl, b2⟩
      have hd2 := (b2.block w1.heap.size (by simp)).trans (heap_alloc_new w1 _)
      have c2 := bl_then (b1.alloc b1.size _) b2
      have y12 : w1.heap.size < w2.heap.size := (Array.getElem?_eq_some_iff.1 hd2).1
      obtain ⟨k0, k1, k2, _, _, _⟩ := three_cells hd2
      clear b2
      go_wp2_with fail
      refine (spec_TurnDelta_c A x y s _ (by omega) (by omega)).mono ?_
      rw [HT.out, HO.out]
      rintro e w3 ⟨rfl, b3⟩
      have hd3 := (b3.block w1.heap.size (by simp; omega)).trans ((Below.heap_alloc w2 _ _ y12).trans hd2)
      have hb3 := (b3.block w2.heap.size (by simp)).trans (heap_alloc_new w2 _)
      have c3 := bl_then (c2.alloc c2.size _) b3
      have y23 : w2.heap.size < w3.heap.size := (Array.getElem?_eq_some_iff.1 hb3).1
      have y13 : w1.heap.size < w3.heap.size := by omega
      obtain ⟨l0, l1, l2, _, _, _⟩ := three_cells hd3
      obtain ⟨m0, m1, m2, _, _, _⟩ := three_cells hb3
      clear b3 k0 k1 k2 hd2 c2
      go_wp2_with fail
      refine (impl_ApplyDelta_c A x y s _ (by omega) (by omega)).mono ?_
      rw [HO.out]
      rintro e w4 ⟨rfl, b4⟩
      have hb4 := (b4.block w2.heap.size (by simp; omega)).trans ((Below.heap_alloc w3 _ _ y23).trans hb3)
      have c4 := bl_then (c3.alloc c3.size _) b4
      obtain ⟨n0, n1, n2, _, _, _⟩ := three_cells hb4
      clear b4 l0 l1 l2 m0 m1 m2 hd3 hb3 c3
    · go_wp2_with (go_at_call 24; refine (laws_alive_c _).mono ?_; rintro e w' ⟨rfl, rfl⟩)
      go_ret
      exact ⟨by first | rfl | simp, c4⟩
    · obtain ⟨t1, t2, t3⟩ := turn_back hok
      have hon := apply_on hok
      rw [hon]
      have hsz : (dText A x y s).size ≤ 60 := by
        have := textOk_len (applyOk_in hok).2.2.2.2.2
        rw [bs_len] at this; exact this
      have hpz : (turnPut A x y).size ≤ 100 := by unfold turnPut; rw [ByteArray.size_extract]; omega
      have H1 := hid t1
      have H2 := hid (show applyDelta (dText A x y s) x y (turnPut A x y) = A by rw [apply_on t1, t2])
      clear t1 t2 t3 hon hok
      go_wp2_with fail
      refine (impl_ApplyDelta_c _ x y _ _ (by omega) (by omega)).mono ?_
      rw [H1.out, H2.out]
      rintro e w5 ⟨rfl, b5⟩
      have c5 := bl_then c4 b5
      clear b5 c4 n0 n1 n2
      go_wp2
      go_ret
      exact ⟨by first | rfl | simp, c5⟩

end Go.Proofs.Ytdfkiphdieoaaaa
