/- What an argument that is a row of pieces is, off its reading. No program in sight. -/
import Derived.Test.YtkfkcbceoekgjaaDoorPcs
import Derived.Deep.Slices
import Derived.Deep.Fields
import Derived.ChangeSame
namespace Go.Proofs.YtkfkcbceoekgjaaDoor
open Go.RowKit
open Go.ChangeShapes Go.WideShapes Go.Deep

theorem spot_none {w : World} {b o q : Nat} {v : Value} (h : w.cell? ((⟨b, o, some q⟩ : Addr).add 0) = some v) : False := by
  revert h
  simp only [Addr.add, if_true, World.cell?]
  split <;> simp
section
variable {H : Type} {enc : TypeId × Value → H} {P : Program} {w : World} {base : Nat} {held : Bool}

/-- One element's two cells. -/
theorem pc_cells {e : TypeId} {f0 f1 : Field} {n : Nat} {a : Addr} {i : Nat} {d : DataW H × List MemPlace} {cs : List Value} (he : P.underlying e = some (.struct #[f0, f1])) (hi : P.underlying f0.type = some (.int .i64)) (hs : P.underlying f1.type = some .string)
    (hone : oneCellFields P #[f0, f1] = true) (hc : w.cells? base (a.add (i * 2)) 2 = some cs) (ht : DataW.trod enc P w base (fun _ => true) held n e cs = some d) :
    ∃ x : Pc, w.cell? (a.add (i * 2 + 0)) = some (.int .i64 x.print) ∧ w.cell? (a.add (i * 2 + 1)) = some (.string x.text) ∧ x.text.size ≤ maxLen := by
  obtain ⟨ys, n', hn', hy, hlen, hyl, hf⟩ := DataW.trod_struct he ht
  obtain ⟨_, hcl, hat⟩ := World.cells?_some hc
  have one : ∀ (j : Nat) (f : Field), #[f0, f1][j]? = some f → ∃ (v : Value) (y : DataW H × List MemPlace), w.cell? (a.add (i * 2 + j)) = some v ∧ DataW.trod enc P w base (fun _ => true) held n' f.type [v] = some y := by
    intro j f hj'
    obtain ⟨ho, hk⟩ := hone_of hone j f hj'
    have hjl : j < 2 := (Array.getElem?_eq_some_iff.1 hj').1
    have hcell := hat j hjl
    have hjc : j < cs.length := by omega
    have h1 := hf j f hj'
    rw [ho, hk] at h1
    rw [show (cs.drop j).take 1 = [cs[j]] from by rw [List.drop_eq_getElem_cons hjc]; rfl] at h1
    have hys : ys[j]? = some (ys[j]'(by rw [hyl]; exact hjl)) := List.getElem?_eq_getElem _
    exact ⟨cs[j], _, by rw [← Go.Deep.add_add, hcell, List.getElem?_eq_getElem hjc], h1.trans hys⟩
  obtain ⟨v0, y0, c0, t0⟩ := one 0 f0 rfl
  obtain ⟨v1, y1, c1, t1⟩ := one 1 f1 rfl
  obtain ⟨x, e0, _, _⟩ := DataW.trod_int hi t0
  obtain ⟨s, e1, _, hsz⟩ := DataW.trod_string hs t1
  simp only [List.cons.injEq, and_true] at e0 e1
  subst e0 e1
  exact ⟨⟨x, s⟩, c0, c1, hsz⟩

/-- A row of pieces. -/
theorem open_pieces {t e : TypeId} {f0 f1 : Field} {a : Option Addr} {len cap : Nat} {d : DataW H} {p : List MemPlace} (ht : P.underlying t = some (.slice e)) (he : P.underlying e = some (.struct #[f0, f1])) (hi : P.underlying f0.type = some (.int .i64)) (hs : P.underlying f1.type = some .string)
    (hone : oneCellFields P #[f0, f1] = true) (hC : P.cellsOf e = 2) (h : DataW.Trod enc P w base (fun _ => true) held t (.slice a len cap) d p) :
    ∃ xs : List Pc, Pcs w w.heap.size (.slice a len cap) xs ∧ ∀ x ∈ xs, x.text.size ≤ 9223372036854775807 := by
  obtain ⟨fuel, hf⟩ := h
  rcases open_slice ht hf with ⟨hcs, _⟩ | ⟨x, l, c, m, n, D, Pl, hcs, _, hl, hm, hmm, hx, hi'⟩
  · simp [Value.cells] at hcs
    obtain ⟨rfl, rfl, rfl⟩ := hcs
    exact ⟨[], Rd.nil _ _ _ _ _ (Nat.zero_le _), by simp⟩
  · simp [Value.cells] at hcs
    obtain ⟨rfl, rfl, rfl⟩ := hcs
    rw [if_pos rfl] at hmm
    have hall : ∀ i : Nat, ∃ y : Pc, i < len → w.cell? (x.add (i * 2 + 0)) = some (.int .i64 y.print) ∧ w.cell? (x.add (i * 2 + 1)) = some (.string y.text) ∧ y.text.size ≤ maxLen := by
      intro i
      by_cases hlt : i < len
      · obtain ⟨cs, hc, htr⟩ := hi' i (by omega)
        rw [hC] at hc
        obtain ⟨y, hy⟩ := pc_cells he hi hs hone hc htr
        exact ⟨y, fun _ => hy⟩
      · exact ⟨⟨0, ⟨#[]⟩⟩, fun h => absurd h hlt⟩
    obtain ⟨f, hf'⟩ := Classical.axiomOfChoice hall
    have hlen : ((List.range len).map f).length = len := by simp
    refine ⟨(List.range len).map f, ?_, ?_⟩
    · unfold Pcs Rd
      rw [hlen]
      refine ⟨some x, _, rfl, hl, hm, by rw [flatP_len, hlen], fun h0 => ?_⟩
      obtain ⟨b, o, s⟩ := x
      have c0 : w.cell? ((⟨b, o, s⟩ : Addr).add 0) = some (.int .i64 (f 0).print) := (hf' 0 h0).1
      have hsn : s = none := by
        cases s with
        | none => rfl
        | some q => exact (spot_none c0).elim
      subst hsn
      have hadd : ∀ j, (⟨b, o, none⟩ : Addr).add j = ⟨b, o + j, none⟩ := fun j => by unfold Addr.add; split <;> simp_all
      refine ⟨b, o, rfl, ?_, fun j v hjv => ?_⟩
      · have := World.block_lt_of_cell? w _ c0
        simpa [Addr.add] using this
      · have hjl : j < len * 2 := by
          have := (List.getElem?_eq_some_iff.1 hjv).1
          rw [flatP_len, hlen] at this
          exact this
        have hq : j / 2 < len := by omega
        have hx' : ((List.range len).map f)[j / 2]? = some (f (j / 2)) := by simp [hq]
        obtain ⟨g0, g1⟩ := flatP_get hx'
        obtain ⟨k0, k1, _⟩ := hf' (j / 2) hq
        rw [hadd] at k0 k1
        have hr : j % 2 = 0 ∨ j % 2 = 1 := by omega
        rcases hr with hr | hr
        · rw [show j / 2 * 2 = j by omega] at g0
          rw [show j / 2 * 2 + 0 = j by omega] at k0
          rw [g0] at hjv; rw [← Option.some.inj hjv]; exact k0
        · rw [show j / 2 * 2 + 1 = j by omega] at g1 k1
          rw [g1] at hjv; rw [← Option.some.inj hjv]; exact k1
    · intro y hy
      obtain ⟨i, hi2, rfl⟩ := List.mem_map.1 hy
      exact (hf' i (by simpa using hi2)).2.2
end
end Go.Proofs.YtkfkcbceoekgjaaDoor
