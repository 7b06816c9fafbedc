/- Walks: a drawn cache. -/
import Derived.Test.YtnedkfmbeeodfaaDrawC
namespace Go.Proofs.Ytnedkfmbeeodfaa
open Go.RowKit

def CacheIn (w : World) (e : Ending) (w' : World) : Prop := ∃ (m : Int) (v : Value) (keep : List Int), e = .returned (cv m v) ∧ OwnCut w' w.heap.size v keep ∧ keep.length ≤ 8 ∧ Below w.heap.size w w'

set_option maxHeartbeats 2000000 in
theorem spec_DrawCacheValid_c (v : Value) (l : List Int) (w : World) (h : Rd encU 1 w w.heap.size v l) (hl : ∀ x ∈ l, 0 ≤ x ∧ x ≤ 255) :
    Calls Try.prog 20 #[v] w (CacheIn w) := by
  go_enter Try.func20, Try.ntmps20
  go_wp2_with fail
  refine (spec_l20Open_c v l _ ((h.below ((Below.refl w.heap.size w).alloc (Nat.le_refl _) _) (Nat.le_refl _)).more (by simp)) hl).mono ?_
  rintro e w1 ⟨l', rfl, r1, b1⟩
  have hh1 := (b1.block w.heap.size (by simp)).trans (heap_alloc_new w _)
  have c1 := bl_then ((Below.refl w.heap.size w).alloc (Nat.le_refl _) (.cells #[.int .i64 0, .slice none 0 0] 27)) b1
  obtain ⟨g, hgd⟩ : ∃ g, g = w.heap.size + 1 := ⟨_, rfl⟩
  rw [show (w.alloc (.cells #[.int .i64 0, .slice none 0 0] 27)).heap.size = g by rw [hgd]; simp] at r1 ⊢
  have hwg : w.heap.size < g := by omega
  have hg1 : g < w1.heap.size := r1.lt
  clear hgd b1 h hl
  go_wp2_with fail
  refine (spec_l20Cache_c g 0 l' 2 _ r1 (by omega) (by omega) (by omega)).mono ?_
  rintro e w2 ⟨m, kv, keep, p2, rfl, o2, hk, hp2, r2, g2⟩
  have hh2 := (g2.block w.heap.size (Array.getElem?_eq_some_iff.1 hh1).1 (some_ne (by omega))).trans hh1
  have c2 : Below w.heap.size w w2 := c1.grown g2 c1.size (by simp; omega)
  obtain ⟨e0, e1, f0, f1⟩ := two_cells hh2
  obtain ⟨va, vn, vk, vc, vf, ho1, ho2, rfl, ho4, ho5⟩ := o2
  have o2 : OwnCut w2 w1.heap.size (.slice va vk vc) keep := ⟨va, vn, vk, vc, vf, ho1, ho2, rfl, ho4, ho5⟩
  obtain ⟨q0, q1⟩ := set2 (x' := .int .i64 m) (y' := .slice va vk vc) e0 e1
  have Q1 := hid ((o2.set hh2 (.int .i64 m) (.slice va vk vc)).less (show w.heap.size ≤ w1.heap.size by omega))
  clear c1 g2 hh1 r1 r2 ho1 ho2 ho4 ho5 o2
  go_wp2
  refine bodyPost_ret (v := cv m (.slice va vk vc)) (by simp [results, Try.results20, go_sem, q0, q1]; try rfl) rfl ?_
  exact ⟨m, _, keep, rfl, Q1.out, hk, (c2.setCell (Nat.le_refl _) _).setCell (Nat.le_refl _) _⟩

end Go.Proofs.Ytnedkfmbeeodfaa
