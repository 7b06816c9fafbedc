/- Walks: more laws of deltas. -/
import Derived.Test.YtdfkiphdieoaaaaDeltaF
namespace Go.Proofs.Ytdfkiphdieoaaaa
open Go.RowKit

set_option maxHeartbeats 2000000 in
theorem laws_FnDeltaTwice_c (v : Value) (l : List Int) (w : World) (h : Rd encU 1 w w.heap.size v l) (hl : ∀ x ∈ l, 0 ≤ x ∧ x ≤ 255) :
    Calls Try.prog 8 #[v] w fun e w' => e = .returned (.bool true) ∧ Below w.heap.size w w' := by
  obtain ⟨n, hn⟩ : ∃ n, l.length = n := ⟨_, rfl⟩
  obtain ⟨a, c, rfl, _, _, _⟩ := Rd.openN h (fun _ => rfl) hn
  by_cases hbig : 1048576 < n
  · go_enter Try.func8, Try.ntmps8
    go_wp2
    go_ret
    exact ⟨rfl, Below.refl _ _⟩
  · go_enter Try.func8, Try.ntmps8
    go_wp2_with fail
    refine (spec_DrawTurnDelta_c _ l w h hl).mono ?_
    rintro e w1 ⟨A, s, x, y, rfl, hA, hs, b1⟩
    clear h hl
    cases hok : applyOk A x y s
    all_goals
      have HO := hid hok
      go_wp2_with fail
      refine (impl_ApplyDelta_c A x y s _ (by omega) (by omega)).mono ?_
      rw [hok]
      rintro e w2 ⟨rfl, b2⟩
      have hd2 := (b2.block w1.heap.size (by simp)).trans (heap_alloc_new w1 _)
      have c2 := bl_then (b1.alloc b1.size _) b2
      have y12 : w1.heap.size < w2.heap.size := (Array.getElem?_eq_some_iff.1 hd2).1
      obtain ⟨k0, k1, k2, _, _, _⟩ := three_cells hd2
      clear b2 b1
      go_wp2_with fail
      refine (impl_TurnDelta_c A x y s _ (by omega) (by omega)).mono ?_
      first
      | (have hT := turn_off hok; rw [hT, hok]; have HT := hid hT; clear hT)
      | (have hT := turn_on hok; rw [hT, hok]; have HT := hid hT; clear hT)
      rintro e w3 ⟨rfl, b3⟩
      have hd3 := (b3.block w1.heap.size (by omega)).trans hd2
      have c3 := bl_then c2 b3
      have y13 : w1.heap.size < w3.heap.size := (Array.getElem?_eq_some_iff.1 hd3).1
      obtain ⟨l0, l1, l2, _, _, _⟩ := three_cells hd3
      clear b3 k0 k1 k2 hd2 c2
    · go_wp2_with (go_at_call 24; refine (laws_alive_c _).mono ?_; rintro e w' ⟨rfl, rfl⟩)
      go_ret
      exact ⟨by first | rfl | simp, c3.alloc c3.size _⟩
    · obtain ⟨t1, t2, t3⟩ := turn_back hok
      have hon := apply_on hok
      rw [hon]
      have hsz : (dText A x y s).size ≤ 60 := by
        have := textOk_len (applyOk_in hok).2.2.2.2.2
        rw [bs_len] at this; exact this
      have hpz : (turnPut A x y).size ≤ 100 := by unfold turnPut; rw [ByteArray.size_extract]; omega
      have H1 := hid t1
      have H2 := hid (show turnDelta (dText A x y s) x y (turnPut A x y) = dv x y s by rw [turn_on t1, t3])
      clear t1 t2 t3 hon hok
      go_wp2_with fail
      refine (impl_TurnDelta_c _ x y _ _ (by omega) (by omega)).mono ?_
      rw [H1.out, H2.out]
      rintro e w4 ⟨rfl, b4⟩
      have hd4 := (b4.block w1.heap.size (by simp; omega)).trans ((Below.heap_alloc w3 _ _ y13).trans hd3)
      have c4 := bl_then (c3.alloc c3.size _) b4
      have y14 : w1.heap.size < w4.heap.size := (Array.getElem?_eq_some_iff.1 hd4).1
      obtain ⟨n0, n1, n2, _, _, _⟩ := three_cells hd4
      clear b4 c3 l0 l1 l2 hd3
      go_wp2
      go_ret
      exact ⟨by first | rfl | simp, c4.alloc c4.size _⟩

set_option maxHeartbeats 2000000 in
theorem laws_FnApplyDelta_c (v : Value) (l : List Int) (w : World) (h : Rd encU 1 w w.heap.size v l) (hl : ∀ x ∈ l, 0 ≤ x ∧ x ≤ 255) :
    Calls Try.prog 10 #[v] w fun e w' => e = .returned (.bool true) ∧ Below w.heap.size w w' := by
  obtain ⟨n, hn⟩ : ∃ n, l.length = n := ⟨_, rfl⟩
  obtain ⟨a, c, rfl, _, _, _⟩ := Rd.openN h (fun _ => rfl) hn
  by_cases hbig : 1048576 < n
  · go_enter Try.func10, Try.ntmps10
    go_wp2
    go_ret
    exact ⟨rfl, Below.refl _ _⟩
  · go_enter Try.func10, Try.ntmps10
    go_wp2_with fail
    refine (spec_DrawApplyDelta_c _ l w h hl).mono ?_
    rintro e w1 ⟨A, s, x, y, rfl, hA, hs, b1⟩
    clear h hl
    cases hok : applyOk A x y s
    all_goals
      have HO := hid hok
      go_wp2_with fail
      refine (impl_ApplyDelta_c A x y s _ (by omega) (by omega)).mono ?_
      rw [hok]
      rintro e w2 ⟨rfl, b2⟩
      have hd2 := (b2.block w1.heap.size (by simp)).trans (heap_alloc_new w1 _)
      have c2 := bl_then (b1.alloc b1.size _) b2
      have y12 : w1.heap.size < w2.heap.size := (Array.getElem?_eq_some_iff.1 hd2).1
      obtain ⟨k0, k1, k2, _, _, _⟩ := three_cells hd2
      clear b2 b1
      go_wp2_with fail
      refine (spec_ApplyDelta_c A x y s _ (by omega) (by omega)).mono ?_
      rw [HO.out]
      rintro e w3 ⟨rfl, b3⟩
      have hd3 := (b3.block w1.heap.size (by omega)).trans hd2
      have c3 := bl_then c2 b3
      have y13 : w1.heap.size < w3.heap.size := (Array.getElem?_eq_some_iff.1 hd3).1
      obtain ⟨l0, l1, l2, _, _, _⟩ := three_cells hd3
      clear b3 k0 k1 k2 hd2 c2
    · have hoff := apply_off hok
      rw [hoff]
      clear hoff
      go_wp2_with (go_at_call 24; refine (laws_alive_c _).mono ?_; rintro e w' ⟨rfl, rfl⟩)
      go_ret
      exact ⟨by first | rfl | simp, c3⟩
    · have hon := apply_on hok
      rw [hon]
      obtain ⟨h60, h0, t0, hsum, hta, htd⟩ := applyOk_in hok
      obtain ⟨m, rfl⟩ : ∃ n : Nat, x = n := ⟨x.toNat, by omega⟩
      obtain ⟨k, rfl⟩ : ∃ n : Nat, y = n := ⟨y.toNat, by omega⟩
      have hsz := dText_size A s m k (by omega)
      have hl60 := textOk_len htd
      rw [bs_len] at hl60
      obtain ⟨p1, p2, p3⟩ := dText_parts A s m k (by omega)
      obtain ⟨D, hD⟩ : ∃ D, D = dText A m k s := ⟨_, rfl⟩
      rw [← hD] at hsz hl60 p1 p2 p3 ⊢
      obtain ⟨dk, hdk⟩ : ∃ dk : Nat, (D.size : Int) - k = dk := ⟨D.size - k, by omega⟩
      obtain ⟨ak, hak⟩ : ∃ ak : Nat, (A.size : Int) - k = ak := ⟨A.size - k, by omega⟩
      have e1 : D.size - k = dk := by omega
      have e2 : A.size - k = ak := by omega
      rw [e1, e2] at p2
      rw [e1] at p3
      have hmd : m ≤ dk := by omega
      have hdD : dk ≤ D.size := by omega
      have hmA : m ≤ A.size := by omega
      have hmD : m ≤ D.size := by omega
      have hkA : ak ≤ A.size := by omega
      have hsl := fun wx => run_slice_string (P := Try.prog) wx 9 D .i64 .i64 (m : Int) (dk : Int) Try.underlying9 (by omega) (by omega) (by omega)
      clear hD hon hok e1 e2 htd hta
      go_wp2
      clear hsz
      go_quiet (fail)
      go_wp2
      go_ret
      exact ⟨by first | rfl | simp, bl_drewN c3 _⟩

end Go.Proofs.Ytdfkiphdieoaaaa
