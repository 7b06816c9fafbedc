/- Walks: the exact laws' helpers at versions, and the exact law of the next seal. -/
import Derived.Test.YtnedkfmbeeodfaaSeals
import Derived.Laws.ResultCell
import Derived.Handy
namespace Go.Proofs.Ytnedkfmbeeodfaa
open Go.RowKit

theorem three_cells {w : World} {g : Nat} {t : TypeId} {x y z : Value} (h : w.heap[g]? = some (.cells #[x, y, z] t (0, 0))) :
    w.cell? ⟨g, 0, none⟩ = some x ∧ w.cell? ⟨g, 1, none⟩ = some y ∧ w.cell? ⟨g, 2, none⟩ = some z ∧ w.frozen? ⟨g, 0, none⟩ = false ∧ w.frozen? ⟨g, 1, none⟩ = false ∧ w.frozen? ⟨g, 2, none⟩ = false := by
  refine ⟨?_, ?_, ?_, frozen_of_row _ _ _ _ _ h, frozen_of_row _ _ _ _ _ h, frozen_of_row _ _ _ _ _ h⟩ <;> simp [World.cell?, h]


set_option maxHeartbeats 400000 in
theorem laws_szVersion_c (v : Ver) (left : Int) (w : World) (h : v.note.size ≤ 9223372036854775807) (h0 : 0 ≤ left) (h1 : left ≤ 1048576) :
    Calls Try.prog 35 #[vv v, .int .i64 left] w fun e w' => e = .returned (.int .i64 (if left < v.note.size then -1 else left - v.note.size)) ∧ Below w.heap.size w w' := by
  obtain ⟨r, b, t⟩ := v
  simp only at h ⊢
  by_cases hl : left < t.size
  · rw [if_pos hl]
    go_enter Try.func35, Try.ntmps35
    go_wp2
    go_ret
    exact ⟨rfl, (Below.refl _ _).alloc (Nat.le_refl _) _⟩
  · rw [if_neg hl]
    have hl' : 0 ≤ left - t.size := by omega
    go_enter Try.func35, Try.ntmps35
    go_wp2
    go_ret
    exact ⟨rfl, (Below.refl _ _).alloc (Nat.le_refl _) _⟩

set_option maxHeartbeats 400000 in
theorem laws_toVersion_c (v : Ver) (w : World) :
    Calls Try.prog 37 #[vv v] w fun e w' => e = .returned (vv v) ∧ Below w.heap.size w w' := by
  obtain ⟨r, b, t⟩ := v
  go_enter Try.func37, Try.ntmps37
  go_wp2
  go_returns
  refine ⟨rfl, ?_⟩
  go_grown

set_option maxHeartbeats 400000 in
theorem laws_eqVersion_c (v : Ver) (w : World) :
    Calls Try.prog 73 #[vv v, vv v] w fun e w' => e = .returned (.bool true) ∧ Below w.heap.size w w' := by
  obtain ⟨r, b, t⟩ := v
  go_enter Try.func73, Try.ntmps73
  go_wp2
  go_ret
  exact ⟨rfl, ((Below.refl _ _).alloc (Nat.le_refl _) _).alloc (by simp) _⟩

set_option maxHeartbeats 2000000 in
theorem laws_FnExactSealNext_c (s : Int) (v : Ver) (w : World) (h : v.note.size ≤ 9223372036854775807) :
    Calls Try.prog 9 #[.int .i64 s, vv v] w fun e w' => e = .returned (.bool true) ∧ Below w.heap.size w w' := by
  obtain ⟨W0, hW0⟩ : ∃ W0, W0 = w.alloc (.cells #[.int .i64 v.root, .int .i64 v.before, .string v.note] 49) := ⟨_, rfl⟩
  have b0 : Below w.heap.size w W0 := by rw [hW0]; exact (Below.refl _ _).alloc (Nat.le_refl _) _
  have hh0 : W0.heap[w.heap.size]? = some (.cells #[.int .i64 v.root, .int .i64 v.before, .string v.note] 49 (0, 0)) := by rw [hW0]; exact heap_alloc_new _ _
  have hsz0 : W0.heap.size = w.heap.size + 1 := by rw [hW0]; simp
  by_cases hbig : (1048576 : Int) < v.note.size
  · have HI := hid (show (if (1048576 : Int) < v.note.size then -1 else 1048576 - (v.note.size : Int)) = -1 by rw [if_pos hbig])
    go_enter Try.func9, Try.ntmps9
    go_wp2_with fail
    rw [← hW0]
    refine (laws_szVersion_c v 1048576 W0 h (by omega) (by omega)).mono ?_
    rw [HI.out]
    rintro e w1 ⟨rfl, b1⟩
    go_wp2
    go_ret
    exact ⟨rfl, bl_then b0 (b1.mono (by omega))⟩
  · have HI := hid (show (if (1048576 : Int) < v.note.size then -1 else 1048576 - (v.note.size : Int)) = 1048576 - v.note.size by rw [if_neg hbig])
    have hl' : 0 ≤ 1048576 - (v.note.size : Int) := by omega
    obtain ⟨z, hz⟩ : ∃ z, sealNext s v = z := ⟨_, rfl⟩
    have HZ := hid hz
    clear hz
    go_enter Try.func9, Try.ntmps9
    go_wp2_with fail
    rw [← hW0]
    refine (laws_szVersion_c v 1048576 W0 h (by omega) (by omega)).mono ?_
    rw [HI.out]
    rintro e w1 ⟨rfl, b1⟩
    have hh1 := (b1.block w.heap.size (by omega)).trans hh0
    have c1 := bl_then b0 b1
    obtain ⟨_, _, _, _, _, _⟩ := three_cells hh1
    clear hW0
    go_wp2_with fail
    refine (laws_toVersion_c v _).mono ?_
    rintro e w2 ⟨rfl, b2⟩
    have hh2 := (b2.block w.heap.size (Array.getElem?_eq_some_iff.1 hh1).1).trans hh1
    have c2 := bl_then c1 b2
    go_wp2_with fail
    refine (spec_SealNext_c s v _ (by omega)).mono ?_
    rw [HZ.out]
    rintro e w3 ⟨rfl, b3⟩
    have hh3 := (b3.block w.heap.size (Array.getElem?_eq_some_iff.1 hh2).1).trans hh2
    have c3 := bl_then c2 b3
    obtain ⟨_, _, _, _, _, _⟩ := three_cells hh3
    go_wp2_with fail
    refine (laws_toVersion_c v _).mono ?_
    rintro e w4 ⟨rfl, b4⟩
    have c4 := bl_then c3 b4
    go_wp2_with fail
    refine (impl_SealNext_c s v _).mono ?_
    rw [HZ.out]
    rintro e w5 ⟨rfl, b5⟩
    have c5 := bl_then c4 b5
    go_wp2
    go_ret
    exact ⟨rfl, c5⟩

end Go.Proofs.Ytnedkfmbeeodfaa
