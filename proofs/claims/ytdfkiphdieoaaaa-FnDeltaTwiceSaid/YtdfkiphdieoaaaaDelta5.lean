/- Walks: deltas that are turned, and what they cost. -/
import Derived.Test.YtdfkiphdieoaaaaDelta4
namespace Go.Proofs.Ytdfkiphdieoaaaa
open Go.RowKit

theorem second_heap (w : World) (o o' : Obj) : ((w.alloc o).alloc o').heap[w.heap.size + 1]? = some o' := by
  have := heap_alloc_new (w.alloc o) o'
  simpa using this
theorem three_cells {w : World} {g : Nat} {t : TypeId} {x y z : Value} (h : w.heap[g]? = some (.cells #[x, y, z] t (0, 0))) :
    w.cell? ⟨g, 0, none⟩ = some x ∧ w.cell? ⟨g, 1, none⟩ = some y ∧ w.cell? ⟨g, 2, none⟩ = some z ∧ w.frozen? ⟨g, 0, none⟩ = false ∧ w.frozen? ⟨g, 1, none⟩ = false ∧ w.frozen? ⟨g, 2, none⟩ = false := by
  refine ⟨?_, ?_, ?_, frozen_of_row _ _ _ _ _ h, frozen_of_row _ _ _ _ _ h, frozen_of_row _ _ _ _ _ h⟩ <;> simp [World.cell?, h]

theorem set3 {w : World} {g : Nat} {x y z x' y' z' : Value} (k0 : w.cell? ⟨g, 0, none⟩ = some x) (k1 : w.cell? ⟨g, 1, none⟩ = some y) (k2 : w.cell? ⟨g, 2, none⟩ = some z) :
    (((w.setCell ⟨g, 0, none⟩ x').setCell ⟨g, 1, none⟩ y').setCell ⟨g, 2, none⟩ z').cell? ⟨g, 0, none⟩ = some x' ∧
    (((w.setCell ⟨g, 0, none⟩ x').setCell ⟨g, 1, none⟩ y').setCell ⟨g, 2, none⟩ z').cell? ⟨g, 1, none⟩ = some y' ∧
    (((w.setCell ⟨g, 0, none⟩ x').setCell ⟨g, 1, none⟩ y').setCell ⟨g, 2, none⟩ z').cell? ⟨g, 2, none⟩ = some z' := by
  refine ⟨?_, ?_, ?_⟩
  · rw [World.cell?_setCell_other _ _ _ _ (by simp), World.cell?_setCell_other _ _ _ _ (by simp)]; exact World.cell?_setCell_same _ _ _ k0
  · rw [World.cell?_setCell_other _ _ _ _ (by simp)]; exact World.cell?_setCell_same _ _ _ (u := y) (by rw [World.cell?_setCell_other _ _ _ _ (by simp)]; exact k1)
  · exact World.cell?_setCell_same _ _ _ (u := z) (by rw [World.cell?_setCell_other _ _ _ _ (by simp), World.cell?_setCell_other _ _ _ _ (by simp)]; exact k2)

def turnPut (a : ByteArray) (h t : Int) : ByteArray := a.extract h.toNat (a.size - t).toNat
def turnDelta (a : ByteArray) (h t : Int) (p : ByteArray) : Value := if applyOk a h t p then dv h t (turnPut a h t) else dv 0 0 ⟨#[]⟩
theorem turn_off {a p : ByteArray} {h t : Int} (h' : applyOk a h t p = false) : turnDelta a h t p = dv 0 0 ⟨#[]⟩ := by unfold turnDelta; rw [h']; rfl
theorem turn_on {a p : ByteArray} {h t : Int} (h' : applyOk a h t p = true) : turnDelta a h t p = dv h t (turnPut a h t) := by unfold turnDelta; rw [h']; rfl
theorem applyOk_in {a p : ByteArray} {h t : Int} (h' : applyOk a h t p = true) : a.size ≤ 60 ∧ 0 ≤ h ∧ 0 ≤ t ∧ h + t ≤ a.size ∧ textOk (bs a) = true ∧ textOk (bs (dText a h t p)) = true := by
  simp only [applyOk, Bool.and_eq_true, dFits] at h'
  have h1 := textOk_len h'.1.1
  have h2 := inB_yes h'.1.2.1
  have h3 := inB_yes h'.1.2.2
  rw [bs_len] at h1
  exact ⟨h1, h2.1, h3.1, by omega, h'.1.1, h'.2⟩

def dPut (a b : ByteArray) : ByteArray := b.extract (dHead a b) (b.size - dTail a b)
def deltaCost (a b : ByteArray) : Int := if textOk (bs a) && textOk (bs b) then (dPut a b).size + 2 else -1
theorem deltaOf_on {a b : ByteArray} (h : (textOk (bs a) && textOk (bs b)) = true) : deltaOf a b = (dv (dHead a b) (dTail a b) (dPut a b), true) := by unfold deltaOf dPut; rw [if_pos h]
theorem deltaOf_off {a b : ByteArray} (h : (textOk (bs a) && textOk (bs b)) = false) : deltaOf a b = (dv 0 0 ⟨#[]⟩, false) := by unfold deltaOf; rw [if_neg (by rw [h]; decide)]

set_option maxHeartbeats 2000000 in
theorem impl_TurnDelta_c (a : ByteArray) (h t : Int) (p : ByteArray) (w : World) (ha : a.size ≤ 1099511627776) (hp : p.size ≤ 1099511627776) :
    Calls Try.prog 22 #[.string a, dv h t p] w fun e w' => e = .returned (.tuple #[turnDelta a h t p, .bool (applyOk a h t p)]) ∧ Below w.heap.size w w' := by
  cases h1 : applyOk a h t p
  · have HO := hid h1
    clear h1
    go_enter Try.func22, Try.ntmps22
    go_wp2_with (go_at_call 15; refine (impl_ApplyDelta_c _ _ _ _ _ (by assumption) (by assumption)).mono ?_; rw [HO.out]; rintro e w2 ⟨rfl, b2⟩; have hh2 : w2.heap[w.heap.size + 1]? = some (.cells #[.int .i64 0, .int .i64 0, .string ⟨#[]⟩] 27 (0, 0)) := (b2.block _ (by simp)).trans (second_heap _ _ _); obtain ⟨k0, k1, k2, f0, f1, f2⟩ := three_cells hh2)
    obtain ⟨q0, q1, q2⟩ := set3 (x' := .int .i64 0) (y' := .int .i64 0) (z' := .string ⟨#[]⟩) k0 k1 k2
    refine bodyPost_ret (v := .tuple #[dv 0 0 ⟨#[]⟩, .bool false]) (by simp [results, Try.results22, go_sem, q0, q1, q2]; try rfl) rfl ?_
    rw [turn_off HO.out]
    refine ⟨rfl, Below.setCell (Below.setCell (Below.setCell (bl_then (((Below.refl _ _).alloc (Nat.le_refl _) _).alloc (by simp) _) b2) ?_ _) ?_ _) ?_ _⟩ <;> simp
  · have HO := hid h1
    obtain ⟨i1, i2, i3, i4, _, _⟩ := applyOk_in h1
    obtain ⟨hn, rfl⟩ : ∃ n : Nat, h = n := ⟨h.toNat, by omega⟩
    obtain ⟨tn, rfl⟩ : ∃ n : Nat, t = n := ⟨t.toNat, by omega⟩
    obtain ⟨m, hm⟩ : ∃ m : Nat, (a.size : Int) - tn = m := ⟨a.size - tn, by omega⟩
    have hm60 : m ≤ 60 := by omega
    have hma : m ≤ a.size := by omega
    have hnm : hn ≤ m := by omega
    have hwr : IntKind.i64.wrap (m : Int) = (m : Int) := IntWalk.i64_in _ (by omega)
    have hsl := fun wx => run_slice_string (P := Try.prog) wx 9 a .i64 .i64 (hn : Int) (m : Int) Try.underlying9 (by omega) (by omega) (by omega)
    have HP := hid (show turnPut a hn tn = a.extract hn m by unfold turnPut; rw [hm]; simp)
    clear h1
    go_enter Try.func22, Try.ntmps22
    go_wp2_with (go_at_call 15; refine (impl_ApplyDelta_c _ _ _ _ _ (by assumption) (by assumption)).mono ?_; rw [HO.out]; rintro e w2 ⟨rfl, b2⟩; have hh2 : w2.heap[w.heap.size + 1]? = some (.cells #[.int .i64 0, .int .i64 0, .string ⟨#[]⟩] 27 (0, 0)) := (b2.block _ (by simp)).trans (second_heap _ _ _); obtain ⟨k0, k1, k2, f0, f1, f2⟩ := three_cells hh2; have hc0 : w2.cell? ⟨w.heap.size, 0, none⟩ = some (.int .i64 hn) := (b2.cell (p := ⟨w.heap.size, 0, none⟩) (by simp; omega)).trans (by simp [go_sem]); have hc1 : w2.cell? ⟨w.heap.size, 1, none⟩ = some (.int .i64 tn) := (b2.cell (p := ⟨w.heap.size, 1, none⟩) (by simp; omega)).trans (by simp [go_sem]))
    go_region
    go_wp2
    obtain ⟨q0, q1, q2⟩ := set3 (x' := .int .i64 hn) (y' := .int .i64 tn) (z' := .string (a.extract hn m)) k0 k1 k2
    have r0 := (World.cell?_drew _ _).trans q0
    have r1 := (World.cell?_drew _ _).trans q1
    have r2 := (World.cell?_drew _ _).trans q2
    refine bodyPost_ret (v := .tuple #[dv hn tn (a.extract hn m), .bool true]) (by simp [results, Try.results22, go_sem, r0, r1, r2]; try rfl) rfl ?_
    rw [turn_on HO.out, HP.out]
    refine ⟨rfl, Below.drew (Below.setCell (Below.setCell (Below.setCell (bl_then (((Below.refl _ _).alloc (Nat.le_refl _) _).alloc (by simp) _) b2) ?_ _) ?_ _) ?_ _)⟩ <;> simp

set_option maxHeartbeats 2000000 in
theorem impl_DeltaCost_c (a b : ByteArray) (w : World) :
    Calls Try.prog 20 #[.string a, .string b] w fun e w' => e = .returned (.int .i64 (deltaCost a b)) ∧ Below w.heap.size w w' := by
  cases h1 : (textOk (bs a) && textOk (bs b))
  · have HO := hid (deltaOf_off h1)
    have HC := hid (show deltaCost a b = -1 by unfold deltaCost; rw [h1]; rfl)
    clear h1
    go_enter Try.func20, Try.ntmps20
    go_wp2_with (go_at_call 17; refine (impl_DeltaOf_c _ _ _).mono ?_; rw [HO.out]; rintro e w2 ⟨rfl, b2⟩)
    go_ret
    rw [HC.out]
    exact ⟨rfl, b2.alloc b2.size _⟩
  · have HO := hid (deltaOf_on h1)
    have HC := hid (show deltaCost a b = (dPut a b).size + 2 by unfold deltaCost; rw [h1]; rfl)
    have hs : (dPut a b).size ≤ 60 := by
      have := textOk_len (Bool.and_eq_true_iff.1 h1).2
      rw [bs_len] at this
      unfold dPut
      rw [ByteArray.size_extract]
      omega
    clear h1
    go_enter Try.func20, Try.ntmps20
    go_wp2_with (go_at_call 17; refine (impl_DeltaOf_c _ _ _).mono ?_; rw [HO.out]; rintro e w2 ⟨rfl, b2⟩)
    go_ret
    rw [HC.out]
    exact ⟨rfl, b2.alloc b2.size _⟩

set_option maxHeartbeats 2000000 in
theorem spec_TurnDelta_c (a : ByteArray) (h t : Int) (p : ByteArray) (w : World) (ha : a.size ≤ 1099511627776) (hp : p.size ≤ 1099511627776) :
    Calls Try.prog 21 #[.string a, dv h t p] w fun e w' => e = .returned (.tuple #[turnDelta a h t p, .bool (applyOk a h t p)]) ∧ Below w.heap.size w w' := by
  cases h1 : applyOk a h t p
  · have HO := hid h1
    clear h1
    go_enter Try.func21, Try.ntmps21
    go_wp2_with (go_at_call 13; refine (spec_ApplyDelta_c _ _ _ _ _ (by assumption) (by assumption)).mono ?_; rw [HO.out]; rintro e w2 ⟨rfl, b2⟩; have hh2 : w2.heap[w.heap.size + 1]? = some (.cells #[.int .i64 0, .int .i64 0, .string ⟨#[]⟩] 27 (0, 0)) := (b2.block _ (by simp)).trans (second_heap _ _ _); obtain ⟨k0, k1, k2, f0, f1, f2⟩ := three_cells hh2)
    obtain ⟨q0, q1, q2⟩ := set3 (x' := .int .i64 0) (y' := .int .i64 0) (z' := .string ⟨#[]⟩) k0 k1 k2
    refine bodyPost_ret (v := .tuple #[dv 0 0 ⟨#[]⟩, .bool false]) (by simp [results, Try.results21, go_sem, q0, q1, q2]; try rfl) rfl ?_
    rw [turn_off HO.out]
    refine ⟨rfl, Below.setCell (Below.setCell (Below.setCell (bl_then (((Below.refl _ _).alloc (Nat.le_refl _) _).alloc (by simp) _) b2) ?_ _) ?_ _) ?_ _⟩ <;> simp
  · have HO := hid h1
    obtain ⟨i1, i2, i3, i4, _, _⟩ := applyOk_in h1
    obtain ⟨hn, rfl⟩ : ∃ n : Nat, h = n := ⟨h.toNat, by omega⟩
    obtain ⟨tn, rfl⟩ : ∃ n : Nat, t = n := ⟨t.toNat, by omega⟩
    obtain ⟨m, hm⟩ : ∃ m : Nat, (a.size : Int) - tn = m := ⟨a.size - tn, by omega⟩
    have hm60 : m ≤ 60 := by omega
    have hma : m ≤ a.size := by omega
    have hnm : hn ≤ m := by omega
    have hwr : IntKind.i64.wrap (m : Int) = (m : Int) := IntWalk.i64_in _ (by omega)
    have hsl := fun wx => run_slice_string (P := Try.prog) wx 9 a .i64 .i64 (hn : Int) (m : Int) Try.underlying9 (by omega) (by omega) (by omega)
    have HP := hid (show turnPut a hn tn = a.extract hn m by unfold turnPut; rw [hm]; simp)
    clear h1
    go_enter Try.func21, Try.ntmps21
    go_wp2_with (go_at_call 13; refine (spec_ApplyDelta_c _ _ _ _ _ (by assumption) (by assumption)).mono ?_; rw [HO.out]; rintro e w2 ⟨rfl, b2⟩; have hh2 : w2.heap[w.heap.size + 1]? = some (.cells #[.int .i64 0, .int .i64 0, .string ⟨#[]⟩] 27 (0, 0)) := (b2.block _ (by simp)).trans (second_heap _ _ _); obtain ⟨k0, k1, k2, f0, f1, f2⟩ := three_cells hh2; have hc0 : w2.cell? ⟨w.heap.size, 0, none⟩ = some (.int .i64 hn) := (b2.cell (p := ⟨w.heap.size, 0, none⟩) (by simp; omega)).trans (by simp [go_sem]); have hc1 : w2.cell? ⟨w.heap.size, 1, none⟩ = some (.int .i64 tn) := (b2.cell (p := ⟨w.heap.size, 1, none⟩) (by simp; omega)).trans (by simp [go_sem]))
    go_region
    go_wp2
    obtain ⟨q0, q1, q2⟩ := set3 (x' := .int .i64 hn) (y' := .int .i64 tn) (z' := .string (a.extract hn m)) k0 k1 k2
    have r0 := (World.cell?_drew _ _).trans q0
    have r1 := (World.cell?_drew _ _).trans q1
    have r2 := (World.cell?_drew _ _).trans q2
    refine bodyPost_ret (v := .tuple #[dv hn tn (a.extract hn m), .bool true]) (by simp [results, Try.results21, go_sem, r0, r1, r2]; try rfl) rfl ?_
    rw [turn_on HO.out, HP.out]
    refine ⟨rfl, Below.drew (Below.setCell (Below.setCell (Below.setCell (bl_then (((Below.refl _ _).alloc (Nat.le_refl _) _).alloc (by simp) _) b2) ?_ _) ?_ _) ?_ _)⟩ <;> simp

set_option maxHeartbeats 2000000 in
theorem spec_DeltaCost_c (a b : ByteArray) (w : World) (ha : a.size ≤ 1099511627776) (hb : b.size ≤ 1099511627776) :
    Calls Try.prog 19 #[.string a, .string b] w fun e w' => e = .returned (.int .i64 (deltaCost a b)) ∧ Below w.heap.size w w' := by
  cases h1 : (textOk (bs a) && textOk (bs b))
  · have HO := hid (deltaOf_off h1)
    have HC := hid (show deltaCost a b = -1 by unfold deltaCost; rw [h1]; rfl)
    clear h1
    go_enter Try.func19, Try.ntmps19
    go_wp2_with (go_at_call 16; refine (spec_DeltaOf_c _ _ _ (by omega) (by omega)).mono ?_; rw [HO.out]; rintro e w2 ⟨rfl, b2⟩)
    go_ret
    rw [HC.out]
    exact ⟨rfl, b2.alloc b2.size _⟩
  · have HO := hid (deltaOf_on h1)
    have HC := hid (show deltaCost a b = (dPut a b).size + 2 by unfold deltaCost; rw [h1]; rfl)
    have hs : (dPut a b).size ≤ 60 := by
      have := textOk_len (Bool.and_eq_true_iff.1 h1).2
      rw [bs_len] at this
      unfold dPut
      rw [ByteArray.size_extract]
      omega
    clear h1
    go_enter Try.func19, Try.ntmps19
    go_wp2_with (go_at_call 16; refine (spec_DeltaOf_c _ _ _ (by omega) (by omega)).mono ?_; rw [HO.out]; rintro e w2 ⟨rfl, b2⟩)
    go_ret
    rw [HC.out]
    exact ⟨rfl, b2.alloc b2.size _⟩

end Go.Proofs.Ytdfkiphdieoaaaa
