/- What an argument that is a row of texts is, off its reading. No program in sight. -/
import Derived.Test.YtkfkcbceoekgjaaExS
import Derived.Deep.Slices
import Derived.Deep.Fields
import Derived.ChangeSame
namespace Go.Proofs.Ytkfkcbceoekgjaa
open Go.RowKit
open Go.ChangeShapes Go.WideShapes Go.Deep

theorem spot_noneS {w : World} {b o q : Nat} {v : Value} (h : w.cell? ((⟨b, o, some q⟩ : Addr).add 0) = some v) : False := by
  revert h
  simp only [Addr.add, if_true, World.cell?]
  split <;> simp

theorem open_strings {H : Type} {enc : TypeId × Value → H} {P : Program} {w : World} {base : Nat} {held : Bool} {t e : TypeId} {a : Option Addr} {len cap : Nat} {d : DataW H} {p : List MemPlace} (ht : P.underlying t = some (.slice e)) (hs : P.underlying e = some .string)
    (hC : P.cellsOf e = 1) (h : DataW.Trod enc P w base (fun _ => true) held t (.slice a len cap) d p) :
    ∃ xs : List ByteArray, Strs w w.heap.size (.slice a len cap) xs ∧ ∀ x ∈ xs, x.size ≤ 9223372036854775807 := by
  obtain ⟨fuel, hf⟩ := h
  rcases open_slice ht hf with ⟨hcs, _⟩ | ⟨x, l, c, m, n, D, Pl, hcs, _, hl, hm, hmm, hx, hi'⟩
  · simp [Value.cells] at hcs
    obtain ⟨rfl, rfl, rfl⟩ := hcs
    exact ⟨[], Rd.nil _ _ _ _ _ (Nat.zero_le _), by simp⟩
  · simp [Value.cells] at hcs
    obtain ⟨rfl, rfl, rfl⟩ := hcs
    rw [if_pos rfl] at hmm
    have hall : ∀ i : Nat, ∃ y : ByteArray, i < len → w.cell? (x.add i) = some (.string y) ∧ y.size ≤ maxLen := by
      intro i
      by_cases hlt : i < len
      · obtain ⟨cs, hc, htr⟩ := hi' i (by omega)
        rw [hC] at hc
        obtain ⟨_, hcl, hat⟩ := World.cells?_some hc
        obtain ⟨s, e0, _, hsz⟩ := DataW.trod_string hs htr
        subst e0
        have h1 := hat 0 (by omega)
        rw [Nat.mul_one, Go.Deep.add_add, Nat.add_zero] at h1
        exact ⟨s, fun _ => ⟨by simpa using h1, hsz⟩⟩
      · exact ⟨⟨#[]⟩, fun h => absurd h hlt⟩
    obtain ⟨f, hf'⟩ := Classical.axiomOfChoice hall
    have hlen : ((List.range len).map f).length = len := by simp
    refine ⟨(List.range len).map f, ?_, ?_⟩
    · unfold Strs Rd
      rw [hlen]
      refine ⟨some x, _, rfl, hl, hm, by rw [← List.map_eq_flatMap, List.length_map, hlen, Nat.mul_one], fun h0 => ?_⟩
      obtain ⟨b, o, s⟩ := x
      have c0 : w.cell? ((⟨b, o, s⟩ : Addr).add 0) = some (.string (f 0)) := (hf' 0 h0).1
      have hsn : s = none := by
        cases s with
        | none => rfl
        | some q => exact (spot_noneS c0).elim
      subst hsn
      have hadd : ∀ j, (⟨b, o, none⟩ : Addr).add j = ⟨b, o + j, none⟩ := fun j => by unfold Addr.add; split <;> simp_all
      refine ⟨b, o, rfl, ?_, fun j v hjv => ?_⟩
      · have := World.block_lt_of_cell? w _ c0
        simpa [Addr.add] using this
      · rw [← List.map_eq_flatMap, List.map_map, List.getElem?_map] at hjv
        have hjl : j < len := by
          cases hr : (List.range len)[j]? with
          | none => rw [hr] at hjv; simp at hjv
          | some y => have := (List.getElem?_eq_some_iff.1 hr).1; simpa using this
        have k0 := (hf' j hjl).1
        rw [hadd] at k0
        rw [List.getElem?_range hjl] at hjv
        simp at hjv
        rw [← hjv]; exact k0
    · intro y hy
      obtain ⟨i, hi2, rfl⟩ := List.mem_map.1 hy
      exact (hf' i (by simpa using hi2)).2

end Go.Proofs.Ytkfkcbceoekgjaa
