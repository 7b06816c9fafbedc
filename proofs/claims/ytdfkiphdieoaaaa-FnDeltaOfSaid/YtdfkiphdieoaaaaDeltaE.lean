/- Walks: the law of DeltaOf over drawn texts. -/
import Derived.Test.YtdfkiphdieoaaaaDeltaD
import Derived.Test.YtdfkiphdieoaaaaDeltaP
namespace Go.Proofs.Ytdfkiphdieoaaaa
open Go.RowKit

set_option maxHeartbeats 2000000 in
theorem laws_FnDeltaOf_c (v : Value) (l : List Int) (w : World) (h : Rd encU 1 w w.heap.size v l) (hl : ∀ x ∈ l, 0 ≤ x ∧ x ≤ 255) :
    Calls Try.prog 7 #[v] w fun e w' => e = .returned (.bool true) ∧ Below w.heap.size w w' := by
  obtain ⟨n, hn⟩ : ∃ n, l.length = n := ⟨_, rfl⟩
  obtain ⟨a, c, rfl, _, _, _⟩ := Rd.openN h (fun _ => rfl) hn
  by_cases hbig : 1048576 < n
  · go_enter Try.func7, Try.ntmps7
    go_wp2
    go_ret
    exact ⟨rfl, Below.refl _ _⟩
  · go_enter Try.func7, Try.ntmps7
    go_wp2_with fail
    refine (spec_DrawDeltaOf_c _ l w h hl).mono ?_
    rintro e w1 ⟨s, u, rfl, hs, hu, b1⟩
    clear h hl
    cases hok : (textOk (bs s) && textOk (bs u))
    · have HD := hid (deltaOf_off hok)
      clear hok
      go_wp2_with fail
      refine (impl_DeltaOf_c s u _).mono ?_
      rw [HD.out]
      rintro e w2 ⟨rfl, b2⟩
      have c2 := bl_then b1 b2
      clear b1 b2
      go_wp2_with fail
      refine (spec_DeltaOf_c s u _ (by omega) (by omega)).mono ?_
      rw [HD.out]
      rintro e w3 ⟨rfl, b3⟩
      have hh := (b3.block w2.heap.size (by simp)).trans (heap_alloc_new w2 _)
      have y23 : w2.heap.size < w3.heap.size := (Array.getElem?_eq_some_iff.1 hh).1
      obtain ⟨k0, k1, k2, _, _, _⟩ := three_cells hh
      have c3 := bl_then (c2.alloc c2.size _) b3
      clear c2 b3 hh
      go_wp2_with (go_at_call 24; refine (laws_alive_c _).mono ?_; rintro e w' ⟨rfl, rfl⟩)
      go_ret
      exact ⟨by first | rfl | simp, c3.alloc c3.size _⟩
    · have HD := hid (deltaOf_on hok)
      obtain ⟨hts, htu⟩ := Bool.and_eq_true_iff.1 hok
      have hls := textOk_len hts
      rw [bs_len] at hls
      have hlu := textOk_len htu
      rw [bs_len] at hlu
      have hpl : (dPut s u).size ≤ 60 := by unfold dPut; rw [ByteArray.size_extract]; omega
      have HA := hid (applyOk_delta hts htu)
      have HT := hid (show applyDelta s (dHead s u) (dTail s u) (dPut s u) = u by rw [apply_on HA.out, dText_delta])
      have HS := hid (show deltaOf s s = (dv s.size 0 (s.extract s.size s.size), true) by rw [deltaOf_on (by rw [hts]; rfl), dHead_self, dTail_self, dPut_self]; rfl)
      clear hok hts htu
      go_wp2_with fail
      refine (impl_DeltaOf_c s u _).mono ?_
      rw [HD.out]
      rintro e w2 ⟨rfl, b2⟩
      have c2 := bl_then b1 b2
      clear b1 b2
      go_wp2_with fail
      refine (spec_DeltaOf_c s u _ (by omega) (by omega)).mono ?_
      rw [HD.out]
      rintro e w3 ⟨rfl, b3⟩
      have hh := (b3.block w2.heap.size (by simp)).trans (heap_alloc_new w2 _)
      have y23 : w2.heap.size < w3.heap.size := (Array.getElem?_eq_some_iff.1 hh).1
      obtain ⟨k0, k1, k2, _, _, _⟩ := three_cells hh
      have c3 := bl_then (c2.alloc c2.size _) b3
      clear c2 b3 hh
      go_wp2_with fail
      refine (impl_ApplyDelta_c s _ _ _ _ (by omega) (by omega)).mono ?_
      rw [HT.out, HA.out]
      rintro e w4 ⟨rfl, b4⟩
      have c4 := bl_then (c3.alloc c3.size _) b4
      clear c3 b4 k0 k1 k2
      go_wp2_with fail
      refine (impl_DeltaOf_c s s _).mono ?_
      rw [HS.out]
      rintro e w5 ⟨rfl, b5⟩
      have c5 := bl_then c4 b5
      clear c4 b5
      go_wp2
      go_ret
      exact ⟨by first | rfl | simp, c5.alloc c5.size _⟩

end Go.Proofs.Ytdfkiphdieoaaaa
