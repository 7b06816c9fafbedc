/- Walks: the law on uses of caches. -/
import Derived.Test.YtnedkfmbeeodfaaDrawR
namespace Go.Proofs.Ytnedkfmbeeodfaa
open Go.RowKit

set_option maxHeartbeats 2000000 in
theorem laws_FnRunCache_c (v : Value) (l : List Int) (w : World) (h : Rd encU 1 w w.heap.size v l) (hl : ∀ x ∈ l, 0 ≤ x ∧ x ≤ 255) :
    Calls Try.prog 8 #[v] w fun e w' => e = .returned (.bool true) ∧ Below w.heap.size w w' := by
  obtain ⟨n, hn⟩ : ∃ n, l.length = n := ⟨_, rfl⟩
  obtain ⟨a, c, rfl, _, _, _⟩ := Rd.openN h (fun _ => rfl) hn
  by_cases hbig : 1048576 < n
  · go_enter Try.func8, Try.ntmps8
    go_wp2
    go_ret
    exact ⟨rfl, Below.refl _ _⟩
  · go_enter Try.func8, Try.ntmps8
    go_wp2_with fail
    refine (spec_DrawRunCache_c _ l w h hl).mono ?_
    rintro e w1 ⟨m, x, ps, rfl, o1, hps, b1⟩
    clear h hl
    obtain ⟨pn, hpn⟩ : ∃ pn, ps.length = pn := ⟨_, rfl⟩
    obtain ⟨pa, pc, rfl, _, _, _⟩ := (Rd.of_own o1).ints hpn
    obtain ⟨z, hz⟩ : ∃ z, runCache m ps = z := ⟨_, rfl⟩
    have HZ := hid hz
    have hzl : z ≤ pn := by rw [← hz, ← hpn]; exact run_le
    go_wp2_with fail
    refine (impl_RunCache_c m _ ps _ (Rd.of_own o1)).mono ?_
    rw [HZ.out]
    rintro e w2 ⟨rfl, b2⟩
    have c2 := bl_then b1 b2
    go_wp2_with fail
    refine (spec_RunCache_c m _ ps _ ((Rd.of_own o1).on b2) (by omega)).mono ?_
    rw [HZ.out]
    rintro e w3 ⟨rfl, b3⟩
    have c3 := bl_then c2 b3
    by_cases hneg : z < 0
    · obtain rfl : z = -1 := by rw [← hz] at hneg ⊢; exact run_neg hneg
      go_wp2_with (go_at_call 21; refine (laws_alive_c _).mono ?_; rintro e w' ⟨rfl, rfl⟩)
      go_ret
      exact ⟨by first | rfl | simp, c3⟩
    · by_cases h8 : m = 8
      · have hb8 : (m == 8) = true := by simp [h8]
        subst h8
        go_wp2
        go_ret
        exact ⟨by first | rfl | simp, c3⟩
      · have hb8 : (m == 8) = false := by simp [h8]
        have hmore := run_more (ps := ps) (m := m) (by rw [hz]; exact hneg) h8
        have hm1 : 1 ≤ m ∧ m ≤ 8 := by
          cases hk : runOk m ps
          · rw [run_off hk] at hz; omega
          · simp only [runOk, Bool.and_eq_true] at hk
            exact inB_yes hk.1.1
        obtain ⟨m1, m8⟩ := hm1
        obtain ⟨y, hy⟩ : ∃ y, runCache (m + 1) ps = y := ⟨_, rfl⟩
        rw [hz, hy] at hmore
        have HY := hid hy
        clear hz h8 HZ hy
        go_wp2_with fail
        refine (impl_RunCache_c (m + 1) _ ps _ (((Rd.of_own o1).on b2).on b3)).mono ?_
        rw [HY.out]
        rintro e w4 ⟨rfl, b4⟩
        have c4 := bl_then c3 b4
        go_wp2
        go_ret
        exact ⟨by first | rfl | simp, c4⟩

end Go.Proofs.Ytnedkfmbeeodfaa
