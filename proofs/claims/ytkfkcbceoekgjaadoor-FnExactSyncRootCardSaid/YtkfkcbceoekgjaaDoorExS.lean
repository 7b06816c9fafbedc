/- Walks of the exact laws' own helpers at slices of texts: copies, comparisons, marks, measures. -/
import Derived.Test.YtkfkcbceoekgjaaDoorExI
import Derived.Test.YtkfkcbceoekgjaaDoorMark
import Derived.Test.YtkfkcbceoekgjaaDoorInvV
namespace Go.Proofs.YtkfkcbceoekgjaaDoor
open Go.RowKit

theorem Rd.strs {w : World} {B n : Nat} {v : Value} {xs : List ByteArray} (h : Strs w B v xs) (hn : xs.length = n) :
    ∃ a c, v = .slice a n c ∧ n ≤ c ∧ c ≤ 9223372036854775807 ∧
      ∀ i, i < n → ∃ b o x, a = some ⟨b, o, none⟩ ∧ b < B ∧ Hid (xs[i]? = some x) ∧ w.cell? ⟨b, o + i, none⟩ = some (.string x) := by
  obtain ⟨a, c, hv, h1, h2, h3⟩ := Rd.openN h (fun _ => rfl) hn
  refine ⟨a, c, hv, h1, h2, fun i hi => ?_⟩
  obtain ⟨b, o, x, ha, hb, hx, hc⟩ := h3 i hi
  exact ⟨b, o, x, ha, hb, hx, by simpa using hc 0 _ rfl⟩


/-- The texts of the marks k, k + 1, .. -/
def marksS (k : Int) (n : Nat) : List ByteArray := (List.range n).map fun (j : Nat) => markT (k + j)
theorem marksS_len (k : Int) (n : Nat) : (marksS k n).length = n := by simp [marksS]
theorem marksS_get (k : Int) (n j : Nat) (h : j < n) : (marksS k n)[j]? = some (markT (k + j)) := by simp [marksS, h]
theorem marksS_cell (k : Int) (n j : Nat) (h : j < n) : ((marksS k n).flatMap encS)[j]? = some (.string (markT (k + j))) := by
  have := flatMap_get (enc := encS) (fun _ => rfl) (marksS k n) j 0 _ _ (marksS_get k n j h) rfl
  simpa using this
theorem row_onS {w w' : World} {base e k n : Nat} {v : Value} {cs : List Value} (h : w.ownsRow base e k v n cs) (hb : Below w.heap.size w w') : w'.ownsRow base e k v n cs := by
  refine ⟨h.1, ?_⟩
  rcases h.2 with h2 | ⟨g, cap, cur, hv, hg, hh, r⟩
  · exact .inl h2
  · exact .inr ⟨g, cap, cur, hv, hg, (hb.block g (Array.getElem?_eq_some_iff.1 hh).1).trans hh, r⟩




def szStrs (xs : List ByteArray) : Nat := (xs.map fun x => x.size).sum
theorem szStrs_succ {xs : List ByteArray} {k : Nat} {x : ByteArray} (h : xs[k]? = some x) : szStrs (xs.take (k + 1)) = szStrs (xs.take k) + x.size := by
  unfold szStrs; rw [take_snoc' h]; simp
theorem szStrs_take (xs : List ByteArray) (k : Nat) : szStrs (xs.take k) ≤ szStrs xs := by
  have : szStrs xs = szStrs (xs.take k) + szStrs (xs.drop k) := by
    unfold szStrs; rw [← List.sum_append, ← List.map_append, List.take_append_drop]
  omega
theorem szStrs_mem {xs : List ByteArray} {x : ByteArray} (h : x ∈ xs) : x.size ≤ szStrs xs := by
  obtain ⟨k, hk, rfl⟩ := List.getElem_of_mem h
  have h1 := szStrs_succ (List.getElem?_eq_getElem hk)
  have h2 := szStrs_take xs (k + 1)
  omega
def szLeftS (left : Int) (xs : List ByteArray) : Int := if left < xs.length + szStrs xs then -1 else left - xs.length - szStrs xs


theorem push_str {ops : Array Oper} {rest : List Oper} {o : Oper} {a : Act} {Q : Exit → Act → World → Prop} {w0 wr : World} (hgd : o.guard = none) (s x : Operand) (ho : o.op = .call { callee := .builtin .append, args := #[s, x], argTypes := #[55, 55] }) (B B0 : Nat) (v : Value) (acc : List ByteArray) (y : ByteArray)
    (hown : OwnS wr B v acc) (hb : Below B0 w0 wr) (hB : B ≤ wr.heap.size) (hB0 : B0 ≤ B) (hs : a.eval s = v) (hx : a.eval x = .slice (some ⟨wr.heap.size, 0, none⟩) 1 1) (hn : acc.length < 1099511627775)
    (h : ∀ v' w', OwnS w' B v' (acc ++ [y]) → Below B0 w0 w' → B ≤ w'.heap.size → wr.grownBy w' v.ownBlock ∧ (∀ g, v'.ownBlock = some g → v.ownBlock = some g ∨ wr.heap.size ≤ g) → wpList Tryd.prog ops Q rest (a.put o.dst v') w') :
    wpList Tryd.prog ops Q (o :: rest) a (wr.alloc (.cells #[.string y] 9)) := by
  obtain ⟨i0, hi, hz0, hz1, hz2⟩ := info_parts info_string
  exact wpList_push (enc := encS) hgd s x 55 ho B B0 9 i0 _ 1 16 Tryd.underlying55 hi hz0 hz1 hz2 rfl (by decide) v acc y hown hb hB hB0 hs hx rfl (by simp [Value.oneCell']) hn (by decide) h

end Go.Proofs.YtkfkcbceoekgjaaDoor
