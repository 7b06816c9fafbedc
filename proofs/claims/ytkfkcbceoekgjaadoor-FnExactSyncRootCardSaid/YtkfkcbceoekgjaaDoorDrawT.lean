/- Walks: drawn texts. -/
import Derived.Test.YtkfkcbceoekgjaaDoorDraw
import Derived.Deep.RegionWith
import Derived.Deep.OwnRows
import Derived.Laws.IdiomStrings
import Derived.WalkSpells
import Derived.Laws.Concat
namespace Go.Proofs.YtkfkcbceoekgjaaDoor
open Go.RowKit

def Z61 : Array Value := madeCells #[.int .u8 0] 61
def S61 : ByteArray := ⟨(List.replicate 61 (0 : UInt8)).toArray⟩
theorem z61_get (j : Nat) (h : j < 61) : Z61[j]? = some (.int .u8 0) := by
  unfold Z61 madeCells
  simp [h, Nat.mod_one]
theorem run_make61 (W : World) : (Instr.makeSlice 64 (.int .i64 61) (.int .i64 61)).run Tryd.prog W = .ok (.slice (some ⟨W.heap.size, 0, none⟩) 61 61) (W.alloc (.cells Z61 5)) :=
  run_make_row' 64 5 (.int .u8 0) 1 Tryd.underlying64 (by kernel_rfl) rfl .i64 .i64 61 (by omega) (by omega) W
theorem run_conv61 (W : World) (b : Nat) (h : W.heap[b]? = some (.cells Z61 5 (0, 0))) : (convert 64 9 (.slice (some ⟨b, 0, none⟩) 61 61)).run Tryd.prog W = .ok (.string S61) W := by
  have := run_convert_bytes_back (P := Tryd.prog) W 64 9 5 ⟨b, 0, none⟩ 61 (List.replicate 61 (0 : UInt8)) Tryd.underlying64 Tryd.underlying5 Tryd.underlying9 (fun j hj => by
    have hj' : j < 61 := by simpa using hj
    have hadd : (⟨b, 0, none⟩ : Addr).add j = ⟨b, j, none⟩ := by unfold Addr.add; split <;> simp_all
    rw [hadd]
    simp only [World.cell?, h, List.getElem_replicate]
    simpa using z61_get j hj')
  simpa [S61] using this

theorem second_heap (w : World) (o o' : Obj) : ((w.alloc o).alloc o').heap[w.heap.size + 1]? = some o' := by
  have := heap_alloc_new (w.alloc o) o'
  simpa using this
theorem some_ne {a b : Nat} (h : a ≠ b) : some a ≠ some b := fun e => h (Option.some.inj e)
theorem gb_undrew {w w' : World} {r : Option Nat} (h : w.drew.grownBy w' r) : w.grownBy w' r := ⟨h.os, h.tape, h.output, h.size, h.block⟩
theorem gb_drew {w w' : World} {r : Option Nat} (h : w.grownBy w' r) : w.grownBy w'.drew r := ⟨h.os, h.tape, h.output, h.size, h.block⟩
theorem gb_alloc {w w' : World} {r : Option Nat} (h : w.grownBy w' r) (o : Obj) : w.grownBy (w'.alloc o) r := h.trans (World.grownBy_alloc w' o r)
theorem gb_unalloc {w w' : World} {r : Option Nat} {o : Obj} (h : (w.alloc o).grownBy w' r) : w.grownBy w' r := (World.grownBy_alloc w o r).trans h

/-- Texts of at most B bytes each. -/
def allStr (B : Nat) (l : List Value) : Bool := l.all fun v => match v with | .string s => decide (s.size ≤ B) | _ => false
theorem allStr_get {B : Nat} {cs : Array Value} (h : allStr B cs.toList = true) {j : Nat} (hj : j < cs.size) : ∃ s : ByteArray, cs[j]? = some (.string s) ∧ s.size ≤ B := by
  have hm : cs[j] ∈ cs.toList := by simp
  have h1 := List.all_eq_true.1 h _ hm
  rw [Array.getElem?_eq_getElem hj]
  cases hv : cs[j] with
  | string s => rw [hv] at h1; exact ⟨s, rfl, of_decide_eq_true h1⟩
  | _ => rw [hv] at h1; cases h1
theorem str_cell {B : Nat} {cs : Array Value} {t : TypeId} (h : allStr B cs.toList = true) {j : Nat} (hj : j < cs.size) : ∃ s : ByteArray, s.size ≤ B ∧ cs[j]? = some (.string s) ∧
    (∀ (W : World) (b : Nat), W.heap[b]? = some (.cells cs t (0, 0)) → W.cell? ⟨b, j, none⟩ = some (.string s)) ∧
    (∀ W : World, (W.alloc (.cells cs t)).cell? ⟨W.heap.size, j, none⟩ = some (.string s)) ∧ (∀ (W : World) (o : Obj), ((W.alloc o).alloc (.cells cs t)).cell? ⟨W.heap.size + 1, j, none⟩ = some (.string s)) := by
  obtain ⟨s, hs, hB⟩ := allStr_get h hj
  have h0 : ∀ (W : World) (b : Nat), W.heap[b]? = some (.cells cs t (0, 0)) → W.cell? ⟨b, j, none⟩ = some (.string s) := fun W b hW => by simp [World.cell?, hW, hs]
  exact ⟨s, hB, hs, h0, fun W => h0 _ _ (heap_alloc_new _ _), fun W o => h0 _ _ (second_heap _ _ _)⟩




end Go.Proofs.YtkfkcbceoekgjaaDoor
