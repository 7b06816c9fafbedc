/- Walks: the law on the next seal. -/
import Derived.Test.YtnedkfmbeeodfaaDrawS
import Derived.Laws.ResultCell
import Derived.Handy
namespace Go.Proofs.Ytnedkfmbeeodfaa
open Go.RowKit

theorem three_cells' {w : World} {g : Nat} {t : TypeId} {x y z : Value} (h : w.heap[g]? = some (.cells #[x, y, z] t (0, 0))) :
    w.cell? ⟨g, 0, none⟩ = some x ∧ w.cell? ⟨g, 1, none⟩ = some y ∧ w.cell? ⟨g, 2, none⟩ = some z ∧ w.frozen? ⟨g, 0, none⟩ = false ∧ w.frozen? ⟨g, 1, none⟩ = false ∧ w.frozen? ⟨g, 2, none⟩ = false := by
  refine ⟨?_, ?_, ?_, frozen_of_row _ _ _ _ _ h, frozen_of_row _ _ _ _ _ h, frozen_of_row _ _ _ _ _ h⟩ <;> simp [World.cell?, h]

theorem set3' {w : World} {g : Nat} {x y z x' y' z' : Value} (k0 : w.cell? ⟨g, 0, none⟩ = some x) (k1 : w.cell? ⟨g, 1, none⟩ = some y) (k2 : w.cell? ⟨g, 2, none⟩ = some z) :
    (((w.setCell ⟨g, 0, none⟩ x').setCell ⟨g, 1, none⟩ y').setCell ⟨g, 2, none⟩ z').cell? ⟨g, 0, none⟩ = some x' ∧
    (((w.setCell ⟨g, 0, none⟩ x').setCell ⟨g, 1, none⟩ y').setCell ⟨g, 2, none⟩ z').cell? ⟨g, 1, none⟩ = some y' ∧
    (((w.setCell ⟨g, 0, none⟩ x').setCell ⟨g, 1, none⟩ y').setCell ⟨g, 2, none⟩ z').cell? ⟨g, 2, none⟩ = some z' := by
  refine ⟨?_, ?_, ?_⟩
  · rw [World.cell?_setCell_other _ _ _ _ (by simp), World.cell?_setCell_other _ _ _ _ (by simp)]; exact World.cell?_setCell_same _ _ _ k0
  · rw [World.cell?_setCell_other _ _ _ _ (by simp)]; exact World.cell?_setCell_same _ _ _ (u := y) (by rw [World.cell?_setCell_other _ _ _ _ (by simp)]; exact k1)
  · exact World.cell?_setCell_same _ _ _ (u := z) (by rw [World.cell?_setCell_other _ _ _ _ (by simp), World.cell?_setCell_other _ _ _ _ (by simp)]; exact k2)

def SealIn (w : World) (e : Ending) (w' : World) : Prop := ∃ (s : Int) (v : Ver), e = .returned (.tuple #[.int .i64 s, vv v]) ∧ v.note.size ≤ 9 ∧ Below w.heap.size w w'

set_option maxHeartbeats 2000000 in
theorem spec_DrawSealNext_c (v : Value) (l : List Int) (w : World) (h : Rd encU 1 w w.heap.size v l) (hl : ∀ x ∈ l, 0 ≤ x ∧ x ≤ 255) :
    Calls Try.prog 39 #[v] w (SealIn w) := by
  go_enter Try.func39, Try.ntmps39
  go_wp2_with fail
  refine (spec_l20Open_c v l _ ((h.below ((Below.refl w.heap.size w).alloc (Nat.le_refl _) _) (Nat.le_refl _)).more (by simp)) hl).mono ?_
  rintro e w1 ⟨l', rfl, r1, b1⟩
  have hh1 := (b1.block w.heap.size (by simp)).trans (heap_alloc_new w _)
  have c1 := bl_then ((Below.refl w.heap.size w).alloc (Nat.le_refl _) (.cells #[.int .i64 0, .int .i64 0, .string ⟨#[]⟩] 52)) b1
  obtain ⟨g, hgd⟩ : ∃ g, g = w.heap.size + 1 := ⟨_, rfl⟩
  rw [show (w.alloc (.cells #[.int .i64 0, .int .i64 0, .string ⟨#[]⟩] 52)).heap.size = g by rw [hgd]; simp] at r1 ⊢
  have hwg : w.heap.size < g := by omega
  have hcg : w.heap.size ≤ g := by omega
  clear hgd b1 h hl
  go_wp2_with fail
  refine (spec_l20Print_c g 0 l' 9 _ r1 (by omega) (by omega) (by omega)).mono ?_
  rintro e w2 ⟨s, p2, rfl, hp2, r2, g2⟩
  have hh2 := (g2.block w.heap.size (Array.getElem?_eq_some_iff.1 hh1).1 (some_ne (by omega))).trans hh1
  have c2 : Below w.heap.size w w2 := c1.grown g2 c1.size (by simp; omega)
  clear c1 g2 hh1 r1
  go_wp2_with fail
  refine (spec_l20Print_c g p2 l' 9 _ r2 (by omega) (by omega) (by omega)).mono ?_
  rintro e w3 ⟨r, p3, rfl, hp3, r3, g3⟩
  have hh3 := (g3.block w.heap.size (Array.getElem?_eq_some_iff.1 hh2).1 (some_ne (by omega))).trans hh2
  have c3 : Below w.heap.size w w3 := c2.grown g3 c2.size (by simp; omega)
  clear c2 g3 hh2 r2
  go_wp2_with fail
  refine (spec_pick_c g p3 l' 16 _ r3 (by omega)).mono ?_
  rintro e w4 ⟨b, rfl, b0, b16, _, r4, g4⟩
  have b16' := b16 (by omega)
  have hh4 := (g4.block w.heap.size (Array.getElem?_eq_some_iff.1 hh3).1 (some_ne (by omega))).trans hh3
  have c4 : Below w.heap.size w w4 := c3.grown g4 c3.size (by simp; omega)
  clear c3 g4 hh3 r3 b16
  go_wp2_with fail
  refine (spec_l20Word_c g _ l' 9 _ r4 (by omega) (by omega) (by omega)).mono ?_
  rintro e w5 ⟨t, p5, rfl, ht, hp5, r5, g5⟩
  have hh5 := (g5.block w.heap.size (Array.getElem?_eq_some_iff.1 hh4).1 (some_ne (by omega))).trans hh4
  have c5 : Below w.heap.size w w5 := c4.grown g5 c4.size (by simp; omega)
  obtain ⟨k0, k1, k2, f0, f1, f2⟩ := three_cells' hh5
  obtain ⟨q0, q1, q2⟩ := set3' (x' := .int .i64 r) (y' := .int .i64 (b - 2)) (z' := .string t) k0 k1 k2
  clear c4 g5 hh4 r4 r5 hh5
  go_wp2
  refine bodyPost_ret (v := .tuple #[.int .i64 s, vv ⟨r, b - 2, t⟩]) (by simp [results, Try.results39, go_sem, q0, q1, q2]; try rfl) rfl ?_
  exact ⟨s, ⟨r, b - 2, t⟩, rfl, ht, ((c5.setCell (Nat.le_refl _) _).setCell (Nat.le_refl _) _).setCell (Nat.le_refl _) _⟩

theorem emod_succ {r : Int} (h : pv r = true) : pv ((r + 1) % 16777213) = true ∧ (r + 1) % 16777213 ≠ r := by
  have := pv_iff.1 h
  have h1 := Int.emod_nonneg (r + 1) (show (16777213 : Int) ≠ 0 by decide)
  have h2 := Int.emod_lt_of_pos (r + 1) (show (0 : Int) < 16777213 by decide)
  exact ⟨pv_iff.2 ⟨h1, by omega⟩, by omega⟩

set_option maxHeartbeats 2000000 in
theorem laws_FnSealNext_c (v : Value) (l : List Int) (w : World) (h : Rd encU 1 w w.heap.size v l) (hl : ∀ x ∈ l, 0 ≤ x ∧ x ≤ 255) :
    Calls Try.prog 10 #[v] w fun e w' => e = .returned (.bool true) ∧ Below w.heap.size w w' := by
  obtain ⟨n, hn⟩ : ∃ n, l.length = n := ⟨_, rfl⟩
  obtain ⟨a, c, rfl, _, _, _⟩ := Rd.openN h (fun _ => rfl) hn
  by_cases hbig : 1048576 < n
  · go_enter Try.func10, Try.ntmps10
    go_wp2
    go_ret
    exact ⟨rfl, Below.refl _ _⟩
  · go_enter Try.func10, Try.ntmps10
    go_wp2_with fail
    refine (spec_DrawSealNext_c _ l w h hl).mono ?_
    rintro e w1 ⟨s, ⟨r, b, t⟩, rfl, ht, b1⟩
    simp only at ht
    clear h hl
    obtain ⟨z, hz⟩ : ∃ z, sealNext s ⟨r, b, t⟩ = z := ⟨_, rfl⟩
    have HZ := hid hz
    go_wp2_with fail
    refine (impl_SealNext_c s ⟨r, b, t⟩ _).mono ?_
    rw [HZ.out]
    rintro e w2 ⟨rfl, b2⟩
    have hd2 := (b2.block w1.heap.size (by simp)).trans (heap_alloc_new w1 _)
    have c2 := bl_then (b1.alloc b1.size _) b2
    have y12 : w1.heap.size < w2.heap.size := (Array.getElem?_eq_some_iff.1 hd2).1
    obtain ⟨k0, k1, k2, _, _, _⟩ := three_cells' hd2
    clear b2 b1
    go_wp2_with fail
    refine (spec_SealNext_c s ⟨r, b, t⟩ _ (by simp only; omega)).mono ?_
    rw [HZ.out]
    rintro e w3 ⟨rfl, b3⟩
    have hd3 := (b3.block w1.heap.size (by omega)).trans hd2
    have c3 := bl_then c2 b3
    have y13 : w1.heap.size < w3.heap.size := (Array.getElem?_eq_some_iff.1 hd3).1
    obtain ⟨l0, l1, l2, _, _, _⟩ := three_cells' hd3
    clear b3 k0 k1 k2 hd2 c2
    cases hok : sealOk s ⟨r, b, t⟩
    · obtain rfl : z = -1 := by rw [← hz]; exact seal_off hok
      go_wp2_with (go_at_call 21; refine (laws_alive_c _).mono ?_; rintro e w' ⟨rfl, rfl⟩)
      go_ret
      exact ⟨by first | rfl | simp, c3⟩
    · have hzp := pv_iff.1 (hz ▸ seal_in hok)
      obtain ⟨z0, z1⟩ := hzp
      obtain ⟨_, hr, _, _⟩ := seal_parts hok
      simp only at hr
      obtain ⟨m1, m2⟩ := emod_succ hr
      obtain ⟨r0, r1⟩ := pv_iff.1 hr
      obtain ⟨q, hq⟩ : ∃ q, (r + 1) % 16777213 = q := ⟨_, rfl⟩
      rw [hq] at m1 m2
      have hne := seal_root (r := q) hok m1 m2
      rw [hz] at hne
      simp only at hne
      obtain ⟨y, hy⟩ : ∃ y, sealNext s ⟨q, b, t⟩ = y := ⟨_, rfl⟩
      rw [hy] at hne
      have hyz : (y != z) = true := by simp [hne]
      have HY := hid hy
      have hal := c3.alloc c3.size (.cells #[.int .i64 q, .int .i64 b, .string t] 52)
      have HAL := hid hal
      clear hz hok hne m1 m2 hr hy hal HZ
      go_wp2_with fail
      refine (impl_SealNext_c s ⟨q, b, t⟩ _).mono ?_
      rw [HY.out]
      rintro e w4 ⟨rfl, b4⟩
      go_wp2
      go_ret
      exact ⟨by first | rfl | simp, HAL.out.trans (b4.mono HAL.out.size)⟩

end Go.Proofs.Ytnedkfmbeeodfaa
