/- Walks: digits in the base 16, as Go's library makes them. -/
import Derived.Test.YtkfkcbceoekgjaaDoorFoldP
import Derived.Test.YtkfkcbceoekgjaaDoorReg
import Derived.Laws.Tables
import Derived.Laws.IdiomStrings
namespace Go.Proofs.YtkfkcbceoekgjaaDoor
open Go.RowKit

/-- What the walks ask of the library's variables: one cell of a table. -/
def Glob (w : World) : Prop := w.cell? ⟨3, 15, none⟩ = some (.int .u8 4)
theorem Glob.on {w w' : World} (h : Glob w) (hb : Below w.heap.size w w') : Glob w' := by
  exact (hb.cell (World.block_lt_of_cell? w _ h)).trans h

set_option maxHeartbeats 400000 in
theorem pow2_c (w : World) :
    Calls Tryd.prog 99 #[.int .i64 16] w fun e w' => e = .returned (.bool true) ∧ w = w' := by
  have h1 : bits .and .i64 16 15 = 0 := by decide
  go_enter Tryd.func99, Tryd.ntmps99
  go_wp2
  go_ret
  exact ⟨rfl, rfl⟩

set_option maxHeartbeats 400000 in
theorem zeros64_c (w : World) (h : w.cell? ⟨3, 15, none⟩ = some (.int .u8 4)) :
    Calls Tryd.prog 102 #[.int .u64 16] w fun e w' => e = .returned (.int .i64 4) ∧ w = w' := by
  have e1 : bits .and .u64 16 (IntKind.u64.wrap (-16)) = 16 := by decide
  have e2 : IntKind.u64.wrap 4573923408821661840 = 4573923408821661840 := by decide
  go_enter Tryd.func102, Tryd.ntmps102
  go_wp2
  go_ret
  exact ⟨rfl, rfl⟩

set_option maxHeartbeats 400000 in
theorem zeros_c (w : World) (h : w.cell? ⟨3, 15, none⟩ = some (.int .u8 4)) :
    Calls Tryd.prog 100 #[.int .u64 16] w fun e w' => e = .returned (.int .i64 4) ∧ w = w' := by
  go_enter Tryd.func100, Tryd.ntmps100
  go_wp2_with (go_at_call 102; refine (zeros64_c _ h).mono ?_; rintro e w' ⟨rfl, rfl⟩)
  go_ret
  exact ⟨rfl, rfl⟩

theorem add_one0 (g p : Nat) : (⟨g, 0, none⟩ : Addr).add (p * 1) = ⟨g, p, none⟩ := by unfold Addr.add; split <;> simp_all
theorem dig36 (d : Nat) (hd : d < 16) (h : d < (⟨#[48, 49, 50, 51, 52, 53, 54, 55, 56, 57, 97, 98, 99, 100, 101, 102, 103, 104, 105, 106, 107, 108, 109, 110, 111, 112, 113, 114, 115, 116, 117, 118, 119, 120, 121, 122]⟩ : ByteArray).size) : (⟨#[48, 49, 50, 51, 52, 53, 54, 55, 56, 57, 97, 98, 99, 100, 101, 102, 103, 104, 105, 106, 107, 108, 109, 110, 111, 112, 113, 114, 115, 116, 117, 118, 119, 120, 121, 122]⟩ : ByteArray)[d]'h = hexD d := by
  have : ∀ d : Fin 16, (⟨#[48, 49, 50, 51, 52, 53, 54, 55, 56, 57, 97, 98, 99, 100, 101, 102, 103, 104, 105, 106, 107, 108, 109, 110, 111, 112, 113, 114, 115, 116, 117, 118, 119, 120, 121, 122]⟩ : ByteArray)[d.val]'(Nat.lt_of_lt_of_le d.isLt (by decide)) = hexD d.val := by decide
  exact this ⟨d, hd⟩
theorem setCell_heap {w : World} {g i : Nat} {cs : Array Value} {t : TypeId} {v : Value} (h : w.heap[g]? = some (.cells cs t (0, 0))) : (w.setCell ⟨g, i, none⟩ v).heap[g]? = some (.cells (cs.setIfInBounds i v) t (0, 0)) := by
  rw [setCell_eq_setRow w g i cs t (0, 0) v h]
  exact setRow_heap w g cs _ t (0, 0) h
/-- One digit more, in front of those that stand. -/
theorem hex_front {cs : Array Value} {p : Nat} {D : List UInt8} {c : UInt8} {v : Value} (hp : p < cs.size) (hv : v = .int .u8 c.toNat) (h : ∀ (j : Nat) (x : UInt8), D[j]? = some x → cs[p + 1 + j]? = some (.int .u8 x.toNat)) : ∀ (j : Nat) (x : UInt8), (c :: D)[j]? = some x → (cs.setIfInBounds p v)[p + j]? = some (.int .u8 x.toNat) := by
  intro j x hj
  cases j with
  | zero =>
    simp at hj; subst hj
    rw [Nat.add_zero, Array.getElem?_setIfInBounds_self_of_lt hp, hv]
  | succ j =>
    rw [Array.getElem?_setIfInBounds_ne (by omega), show p + (j + 1) = p + 1 + j by omega]
    exact h j x (by simpa using hj)

set_option maxHeartbeats 2000000 in
set_option maxRecDepth 100000 in
theorem formatBits_c (n : Nat) (w : World) (hn : n < 16777216) (h : Glob w) :
    Calls Tryd.prog 95 #[.slice none 0 0, .int .u64 n, .int .i64 16, .bool false, .bool false] w fun e w' => e = .returned (.tuple #[.slice none 0 0, .string ⟨(hexF 6 n).toArray⟩]) ∧ Below w.heap.size w w' := by
  go_enter Tryd.func95, Tryd.ntmps95
  go_wp2_with (first | (go_at_call 99; refine (pow2_c _).mono ?_; rintro e w' ⟨rfl, rfl⟩) | (go_at_call 100; refine (zeros_c _ (h.on ((Below.refl _ _).alloc (Nat.le_refl _) _))).mono ?_; rintro e w' ⟨rfl, rfl⟩))
  go_loopw [1, 13] (fun uv iv wr => ∃ (f u p : Nat) (D : List UInt8) (cs : Array Value), uv = .int .u64 u ∧ iv = .int .i64 p ∧ p + D.length = 65 ∧ D.length + f = 5 ∧ u < 16 ^ (f + 1) ∧ u < 16777216 ∧ Hid (hexF (f + 1) u ++ D = hexF 6 n) ∧ wr.heap[w.heap.size]? = some (.cells cs 98 (0, 0)) ∧ cs.size = 65 ∧ Hid (∀ (j : Nat) (c : UInt8), D[j]? = some c → cs[p + j]? = some (.int .u8 c.toNat)) ∧ Below w.heap.size w wr) (fun uv _ _ => (intOf uv).toNat)
  case atStart => exact ⟨5, n, 65, [], _, rfl, rfl, rfl, rfl, by omega, hn, hid (List.append_nil _), heap_alloc_new _ _, by kernel_rfl, hid (fun j c hj => by simp at hj), (Below.refl _ _).alloc (Nat.le_refl _) _⟩
  case round =>
    obtain ⟨f, u, p, D, cs, rfl, rfl, hp, hf, hu, hu9, hD, hcell, hcs, hat, hb⟩ := hrel
    obtain ⟨p', rfl⟩ : ∃ p', p = p' + 1 := ⟨p - 1, by omega⟩
    have hpp : ((p' + 1 : Nat) : Int) - 1 = (p' : Int) := by omega
    have hp0 : p' < 65 := by omega
    obtain ⟨old, hold⟩ : ∃ old, cs[p']? = some old := ⟨cs[p']'(by omega), Array.getElem?_eq_getElem _⟩
    have hc0 : wr.cell? ⟨w.heap.size, p', none⟩ = some old := by simp only [World.cell?, hcell]; exact hold
    have hf0 : wr.frozen? ⟨w.heap.size, p', none⟩ = false := frozen_of_row _ _ _ _ _ hcell
    by_cases h16 : 16 ≤ u
    · obtain ⟨q, hq⟩ : ∃ q, u / 16 = q := ⟨_, rfl⟩
      obtain ⟨d, hd⟩ : ∃ d, u % 16 = d := ⟨_, rfl⟩
      have hd16 : d < 16 := by omega
      have hqi : (u : Int) / 16 = q := by omega
      have hand : bits .and .u64 (u : Int) 15 = (d : Int) := by
        have := bits_and_u64_nat u 15 (by omega) (by omega)
        rw [show ((15 : Nat) : Int) = 15 from rfl] at this
        rw [this, ← hd]
        have h2 := Nat.and_two_pow_sub_one_eq_mod u 4
        simp at h2
        rw [h2]
      obtain ⟨f', rfl⟩ : ∃ f', f = f' + 1 := by
        cases f with
        | zero => simp at hu; omega
        | succ f' => exact ⟨f', rfl⟩
      have hHF := hid (show hexF (f' + 1 + 1) u = hexF (f' + 1) q ++ [hexD d] by rw [hexF, if_neg (by omega), hq, hd])
      have hq9 : q < 16 ^ (f' + 1) := by rw [Nat.pow_succ] at hu; omega
      have HQ := hid hq9
      have hqu : q < u := by omega
      clear hu hq9 hq hd
      go_wp2
      go_roundw
      case rel =>
        refine ⟨f', q, p', hexD d :: D, _, rfl, rfl, by simp; omega, by simp; omega, HQ.out, by omega, hid ?_, setCell_heap hcell, by simp [hcs], hid (hex_front (by omega) (by rw [dig36 d hd16]) hat.out), hb.setCell (Nat.le_refl _) _⟩
        rw [← hD.out, hHF.out, List.append_assoc]; rfl
      case measure => simp [intOf]; omega
    · have hu16 : u < 16 := by omega
      have hHF := hid (show hexF (f + 1) u = [hexD u] by rw [hexF, if_pos hu16])
      have hfin := hid (show (hexD u :: D) = hexF 6 n by rw [← hD.out, hHF.out]; rfl)
      have hlen : (hexF 6 n).length = 65 - p' := by rw [← hfin.out]; simp; omega
      have hpc : ¬ (65 = p') := by omega
      have hlt36 : u < (⟨#[48, 49, 50, 51, 52, 53, 54, 55, 56, 57, 97, 98, 99, 100, 101, 102, 103, 104, 105, 106, 107, 108, 109, 110, 111, 112, 113, 114, 115, 116, 117, 118, 119, 120, 121, 122]⟩ : ByteArray).size := Nat.lt_of_lt_of_le hu16 (by decide)
      obtain ⟨W1, hW1⟩ : ∃ W1, W1 = wr.setCell ⟨w.heap.size, p', none⟩ (.int .u8 (((⟨#[48, 49, 50, 51, 52, 53, 54, 55, 56, 57, 97, 98, 99, 100, 101, 102, 103, 104, 105, 106, 107, 108, 109, 110, 111, 112, 113, 114, 115, 116, 117, 118, 119, 120, 121, 122]⟩ : ByteArray)[u]'hlt36).toNat : Int)) := ⟨_, rfl⟩
      have hcell1 : W1.heap[w.heap.size]? = some (.cells (cs.setIfInBounds p' (.int .u8 (((⟨#[48, 49, 50, 51, 52, 53, 54, 55, 56, 57, 97, 98, 99, 100, 101, 102, 103, 104, 105, 106, 107, 108, 109, 110, 111, 112, 113, 114, 115, 116, 117, 118, 119, 120, 121, 122]⟩ : ByteArray)[u]'hlt36).toNat : Int))) 98 (0, 0)) := by rw [hW1]; exact setCell_heap hcell
      have hb1 : Below w.heap.size w W1 := by rw [hW1]; exact hb.setCell (Nat.le_refl _) _
      have hat1 := hex_front (v := .int .u8 (((⟨#[48, 49, 50, 51, 52, 53, 54, 55, 56, 57, 97, 98, 99, 100, 101, 102, 103, 104, 105, 106, 107, 108, 109, 110, 111, 112, 113, 114, 115, 116, 117, 118, 119, 120, 121, 122]⟩ : ByteArray)[u]'hlt36).toNat : Int)) (c := hexD u) (by omega) (by rw [dig36 u hu16]) hat.out
      have m1 : (convert 64 9 (.slice (some ⟨w.heap.size, p', none⟩) (65 - p') (65 - p'))).run Tryd.prog W1 = .ok (.string ⟨(hexF 6 n).toArray⟩) W1 := by
        have := run_convert_bytes_back (P := Tryd.prog) W1 64 9 5 ⟨w.heap.size, p', none⟩ (65 - p') (hexF 6 n) Tryd.underlying64 Tryd.underlying5 Tryd.underlying9 (fun j hj => by
          rw [show (⟨w.heap.size, p', none⟩ : Addr).add j = ⟨w.heap.size, p' + j, none⟩ by unfold Addr.add; split <;> simp_all]
          simp only [World.cell?, hcell1]
          exact hat1 j _ (by rw [hfin.out, List.getElem?_eq_getElem hj]))
        rw [hlen] at this
        exact this
      have HL := hid hlen
      clear hlen hat1 hcell1
      have hal : Tryd.prog.arrayLen 98 = 65 := by kernel_rfl
      have hl1 : (p' : Int) ≤ Tryd.prog.arrayLen 98 := by rw [hal]; omega
      have m0 : ∀ W : World, (Instr.sliceAt 98 (.pointer (some ⟨w.heap.size, 0, none⟩)) (some (.int .i64 (p' : Int))) none none).run Tryd.prog W = .ok (.slice (some ⟨w.heap.size, p', none⟩) (65 - p') (65 - p')) W := fun W => by
        rw [run_sliceAt_array_l W 98 ⟨w.heap.size, 0, none⟩ (by kernel_rfl) .i64 (p' : Int) (by omega) hl1, show (Go.sizeOf (Tryd.prog.elem 98)).run Tryd.prog W = .ok 1 W by kernel_rfl, hal]
        simp only [Result.andThen, slicedAt, Int.toNat_natCast, if_neg hpc, add_one0]
      have m2 : (convert 64 9 (.slice (some ⟨w.heap.size, p', none⟩) (65 - p') (65 - p'))).run Tryd.prog (wr.setCell ⟨w.heap.size, p', none⟩ (.int .u8 (((⟨#[48, 49, 50, 51, 52, 53, 54, 55, 56, 57, 97, 98, 99, 100, 101, 102, 103, 104, 105, 106, 107, 108, 109, 110, 111, 112, 113, 114, 115, 116, 117, 118, 119, 120, 121, 122]⟩ : ByteArray)[u]'hlt36).toNat : Int))) = .ok (.string ⟨(hexF 6 n).toArray⟩) (wr.setCell ⟨w.heap.size, p', none⟩ (.int .u8 (((⟨#[48, 49, 50, 51, 52, 53, 54, 55, 56, 57, 97, 98, 99, 100, 101, 102, 103, 104, 105, 106, 107, 108, 109, 110, 111, 112, 113, 114, 115, 116, 117, 118, 119, 120, 121, 122]⟩ : ByteArray)[u]'hlt36).toNat : Int))) := by rw [← hW1]; exact m1
      have hbf : Below w.heap.size w (wr.setCell ⟨w.heap.size, p', none⟩ (.int .u8 (((⟨#[48, 49, 50, 51, 52, 53, 54, 55, 56, 57, 97, 98, 99, 100, 101, 102, 103, 104, 105, 106, 107, 108, 109, 110, 111, 112, 113, 114, 115, 116, 117, 118, 119, 120, 121, 122]⟩ : ByteArray)[u]'hlt36).toNat : Int))) := by rw [← hW1]; exact hb1
      clear hW1 m1
      go_wp2_with (first | simp only [m0] | simp only [m2])
      go_ret2
      exact ⟨rfl, hbf⟩

end Go.Proofs.YtkfkcbceoekgjaaDoor
