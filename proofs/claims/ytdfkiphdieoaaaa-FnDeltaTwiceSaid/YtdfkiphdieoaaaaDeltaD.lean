/- Walks: the laws of deltas over drawn texts. -/
import Derived.Test.YtdfkiphdieoaaaaDrawT2
import Derived.Test.YtdfkiphdieoaaaaDeltaL
namespace Go.Proofs.Ytdfkiphdieoaaaa
open Go.RowKit

theorem lcp_self : ∀ l : List UInt8, lcp l l = l.length
  | [] => rfl
  | x :: xs => by simp [lcp, lcp_self xs]
theorem dHead_self (a : ByteArray) : dHead a a = a.size := by unfold dHead; rw [lcp_self, bs_len]
theorem dTail_self (a : ByteArray) : dTail a a = 0 := by
  have := (dTail_le a a).1
  rw [dHead_self] at this
  omega
theorem dPut_self (a : ByteArray) : dPut a a = a.extract a.size a.size := by unfold dPut; rw [dHead_self, dTail_self]; rfl
theorem deltaCost_self (a : ByteArray) (h : textOk (bs a) = true) : deltaCost a a = 2 := by
  unfold deltaCost
  rw [h, dPut_self, ByteArray.size_extract]
  simp

/-- Two drawn texts. -/
def TwoTexts (w : World) (e : Ending) (w' : World) : Prop := ∃ s u : ByteArray, e = .returned (.tuple #[.string s, .string u]) ∧ s.size ≤ 100 ∧ u.size ≤ 100 ∧ Below w.heap.size w w'

set_option maxHeartbeats 400000 in
theorem spec_DrawDeltaOf_c (v : Value) (l : List Int) (w : World) (h : Rd encU 1 w w.heap.size v l) (hl : ∀ x ∈ l, 0 ≤ x ∧ x ≤ 255) :
    Calls Try.prog 23 #[v] w (TwoTexts w) := by
  go_enter Try.func23, Try.ntmps23
  go_wp2_with fail
  refine (spec_l20Open_c v l w h hl).mono ?_
  rintro e w1 ⟨l', rfl, r1, b1⟩
  go_wp2_with fail
  refine (spec_l20Alike_c _ 0 l' 12 _ r1 (by omega) (by omega) (by omega)).mono ?_
  rintro e w2 ⟨s, u, p', rfl, hs, hu, _, r2, g2⟩
  have c2 : Below w.heap.size w w2 := b1.grown g2 b1.size (by simp)
  clear h hl r1 b1 r2 g2
  go_wp2
  go_ret2
  exact ⟨s, u, rfl, hs, hu, c2⟩

set_option maxHeartbeats 400000 in
theorem spec_DrawDeltaCost_c (v : Value) (l : List Int) (w : World) (h : Rd encU 1 w w.heap.size v l) (hl : ∀ x ∈ l, 0 ≤ x ∧ x ≤ 255) :
    Calls Try.prog 26 #[v] w (TwoTexts w) := by
  go_enter Try.func26, Try.ntmps26
  go_wp2_with fail
  refine (spec_l20Open_c v l w h hl).mono ?_
  rintro e w1 ⟨l', rfl, r1, b1⟩
  go_wp2_with fail
  refine (spec_l20Alike_c _ 0 l' 12 _ r1 (by omega) (by omega) (by omega)).mono ?_
  rintro e w2 ⟨s, u, p', rfl, hs, hu, _, r2, g2⟩
  have c2 : Below w.heap.size w w2 := b1.grown g2 b1.size (by simp)
  clear h hl r1 b1 r2 g2
  go_wp2
  go_ret2
  exact ⟨s, u, rfl, hs, hu, c2⟩

set_option maxHeartbeats 2000000 in
theorem laws_FnDeltaCost_c (v : Value) (l : List Int) (w : World) (h : Rd encU 1 w w.heap.size v l) (hl : ∀ x ∈ l, 0 ≤ x ∧ x ≤ 255) :
    Calls Try.prog 9 #[v] w fun e w' => e = .returned (.bool true) ∧ Below w.heap.size w w' := by
  obtain ⟨n, hn⟩ : ∃ n, l.length = n := ⟨_, rfl⟩
  obtain ⟨a, c, rfl, _, _, _⟩ := Rd.openN h (fun _ => rfl) hn
  by_cases hbig : 1048576 < n
  · go_enter Try.func9, Try.ntmps9
    go_wp2
    go_ret
    exact ⟨rfl, Below.refl _ _⟩
  · go_enter Try.func9, Try.ntmps9
    go_wp2_with fail
    refine (spec_DrawDeltaCost_c _ l w h hl).mono ?_
    rintro e w1 ⟨s, u, rfl, hs, hu, b1⟩
    clear h hl
    go_wp2_with fail
    refine (impl_DeltaCost_c s u _).mono ?_
    rintro e w2 ⟨rfl, b2⟩
    have c2 := bl_then b1 b2
    clear b1 b2
    go_wp2_with fail
    refine (spec_DeltaCost_c s u _ (by omega) (by omega)).mono ?_
    rintro e w3 ⟨rfl, b3⟩
    have c3 := bl_then c2 b3
    clear c2 b3
    cases hok : (textOk (bs s) && textOk (bs u))
    · have hm : deltaCost s u = -1 := by unfold deltaCost; rw [hok]; rfl
      have HM := hid hm
      rw [hm]
      clear hm
      go_wp2_with (go_at_call 24; refine (laws_alive_c _).mono ?_; rintro e w' ⟨rfl, rfl⟩)
      go_ret
      exact ⟨by first | rfl | simp, c3⟩
    · have hm : deltaCost s u = (dPut s u).size + 2 := by unfold deltaCost; rw [hok]; rfl
      have hle : (dPut s u).size ≤ u.size := by unfold dPut; rw [ByteArray.size_extract]; omega
      have hself := hid (deltaCost_self u (Bool.and_eq_true_iff.1 hok).2)
      rw [hm]
      clear hm
      obtain ⟨m, hm⟩ : ∃ m, (dPut s u).size = m := ⟨_, rfl⟩
      rw [hm] at hle ⊢
      clear hm hok
      go_wp2_with (go_at_call 20; refine (impl_DeltaCost_c u u _).mono ?_; rw [hself.out]; rintro e w4 ⟨rfl, b4⟩)
      go_ret
      exact ⟨by first | rfl | simp, bl_then c3 b4⟩

end Go.Proofs.Ytdfkiphdieoaaaa
