/- Rows of pieces as a walk asks for them. No program in sight. -/
import Derived.Test.YtkfkcbceoekgjaaDoorPcP
namespace Go.Proofs.YtkfkcbceoekgjaaDoor
open Go.RowKit

abbrev encP (p : Pc) : List Value := [.int .i64 p.print, .string p.text]
abbrev Pcs := Rd encP 2
abbrev pcv (p : Pc) : Value := .agg #[.int .i64 p.print, .string p.text]
theorem Rd.pcs {w : World} {B n : Nat} {v : Value} {xs : List Pc} (h : Pcs w B v xs) (hn : xs.length = n) :
    ∃ a c, v = .slice a n c ∧ n ≤ c ∧ c ≤ 9223372036854775807 ∧
      ∀ i, i < n → ∃ (b o : Nat) (r : Int) (t : ByteArray), a = some ⟨b, o, none⟩ ∧ b < B ∧ Hid (xs[i]? = some ⟨r, t⟩) ∧ w.cell? ⟨b, o + i * 2, none⟩ = some (.int .i64 r) ∧ w.cell? ⟨b, o + i * 2 + 1, none⟩ = some (.string t) := by
  obtain ⟨a, c, hv, h1, h2, h3⟩ := Rd.openN h (fun _ => rfl) hn
  refine ⟨a, c, hv, h1, h2, fun i hi => ?_⟩
  obtain ⟨b, o, ⟨r, t⟩, ha, hb, hx, hc⟩ := h3 i hi
  exact ⟨b, o, r, t, ha, hb, hx, by simpa using hc 0 _ rfl, by simpa [Nat.add_assoc] using hc 1 _ rfl⟩
theorem flatP_get {xs : List Pc} {k : Nat} {x : Pc} (h : xs[k]? = some x) : (xs.flatMap encP)[k * 2]? = some (.int .i64 x.print) ∧ (xs.flatMap encP)[k * 2 + 1]? = some (.string x.text) :=
  ⟨by simpa using flatMap_get (enc := encP) (fun _ => rfl) xs k 0 x _ h rfl, flatMap_get (enc := encP) (fun _ => rfl) xs k 1 x _ h rfl⟩
theorem flatP_len (xs : List Pc) : (xs.flatMap encP).length = xs.length * 2 := by
  induction xs with
  | nil => rfl
  | cons x r ih => rw [List.flatMap_cons, List.length_append, ih]; simp; omega
theorem two_cells_of {w : World} {g : Nat} {t : TypeId} {x y : Value} (h : w.heap[g]? = some (.cells #[x, y] t (0, 0))) :
    w.cell? ⟨g, 0, none⟩ = some x ∧ w.cell? ⟨g, 1, none⟩ = some y ∧ w.frozen? ⟨g, 0, none⟩ = false ∧ w.frozen? ⟨g, 1, none⟩ = false := by
  refine ⟨?_, ?_, frozen_of_row _ _ _ _ _ h, frozen_of_row _ _ _ _ _ h⟩ <;> simp [World.cell?, h]
theorem row_onP {w w' : World} {base e k n : Nat} {v : Value} {cs : List Value} (h : w.ownsRow base e k v n cs) (hb : Below w.heap.size w w') : w'.ownsRow base e k v n cs := by
  refine ⟨h.1, ?_⟩
  rcases h.2 with h2 | ⟨g, cap, cur, hv, hg, hh, r⟩
  · exact .inl h2
  · exact .inr ⟨g, cap, cur, hv, hg, (hb.block g (Array.getElem?_eq_some_iff.1 hh).1).trans hh, r⟩

def szPcs (xs : List Pc) : Nat := (xs.map fun x => x.text.size).sum
theorem szPcs_succ {xs : List Pc} {k : Nat} {x : Pc} (h : xs[k]? = some x) : szPcs (xs.take (k + 1)) = szPcs (xs.take k) + x.text.size := by
  unfold szPcs; rw [take_snoc' h]; simp
theorem szPcs_take (xs : List Pc) (k : Nat) : szPcs (xs.take k) ≤ szPcs xs := by
  have : szPcs xs = szPcs (xs.take k) + szPcs (xs.drop k) := by
    unfold szPcs; rw [← List.sum_append, ← List.map_append, List.take_append_drop]
  omega
theorem szPcs_mem {xs : List Pc} {x : Pc} (h : x ∈ xs) : x.text.size ≤ szPcs xs := by
  obtain ⟨k, hk, rfl⟩ := List.getElem_of_mem h
  have h1 := szPcs_succ (List.getElem?_eq_getElem hk)
  have h2 := szPcs_take xs (k + 1)
  omega
/-- What is left of the measure: all fits, or not. -/
def szLeftP (left : Int) (xs : List Pc) : Int := if left < xs.length + szPcs xs then -1 else left - xs.length - szPcs xs

end Go.Proofs.YtkfkcbceoekgjaaDoor
