/- What an argument that is a row of versions is, off its reading. No program in sight. -/
import Derived.Test.YtnedkfmbeeodfaaVers
import Derived.Deep.Slices
import Derived.Deep.Fields
import Derived.ChangeSame
namespace Go.Proofs.Ytnedkfmbeeodfaa
open Go.RowKit
open Go.ChangeShapes Go.WideShapes Go.Deep

theorem spot_none {w : World} {b o q : Nat} {v : Value} (h : w.cell? ((⟨b, o, some q⟩ : Addr).add 0) = some v) : False := by
  revert h
  simp only [Addr.add, if_true, World.cell?]
  split <;> simp
theorem flatV_get' {xs : List Ver} {k : Nat} {x : Ver} (h : xs[k]? = some x) : (xs.flatMap encV)[k * 3]? = some (.int .i64 x.root) ∧ (xs.flatMap encV)[k * 3 + 1]? = some (.int .i64 x.before) ∧ (xs.flatMap encV)[k * 3 + 2]? = some (.string x.note) :=
  ⟨by simpa using flatMap_get (enc := encV) (fun _ => rfl) xs k 0 x _ h rfl, flatMap_get (enc := encV) (fun _ => rfl) xs k 1 x _ h rfl, flatMap_get (enc := encV) (fun _ => rfl) xs k 2 x _ h rfl⟩
theorem flatV_len' (xs : List Ver) : (xs.flatMap encV).length = xs.length * 3 := by
  induction xs with
  | nil => rfl
  | cons x r ih => rw [List.flatMap_cons, List.length_append, ih]; simp; omega

section
variable {H : Type} {enc : TypeId × Value → H} {P : Program} {w : World} {base : Nat} {held : Bool}

/-- One element's three cells. -/
theorem ver_cells {e : TypeId} {f0 f1 f2 : Field} {n : Nat} {a : Addr} {i : Nat} {d : DataW H × List MemPlace} {cs : List Value} (he : P.underlying e = some (.struct #[f0, f1, f2])) (hi : P.underlying f0.type = some (.int .i64)) (hj : f1.type = f0.type) (hs : P.underlying f2.type = some .string)
    (hone : oneCellFields P #[f0, f1, f2] = true) (hc : w.cells? base (a.add (i * 3)) 3 = some cs) (ht : DataW.trod enc P w base (fun _ => true) held n e cs = some d) :
    ∃ x : Ver, w.cell? (a.add (i * 3 + 0)) = some (.int .i64 x.root) ∧ w.cell? (a.add (i * 3 + 1)) = some (.int .i64 x.before) ∧ w.cell? (a.add (i * 3 + 2)) = some (.string x.note) ∧ x.note.size ≤ maxLen := by
  obtain ⟨ys, n', hn', hy, hlen, hyl, hf⟩ := DataW.trod_struct he ht
  obtain ⟨_, hcl, hat⟩ := World.cells?_some hc
  have one : ∀ (j : Nat) (f : Field), #[f0, f1, f2][j]? = some f → ∃ (v : Value) (y : DataW H × List MemPlace), w.cell? (a.add (i * 3 + j)) = some v ∧ DataW.trod enc P w base (fun _ => true) held n' f.type [v] = some y := by
    intro j f hj'
    obtain ⟨ho, hk⟩ := hone_of hone j f hj'
    have hjl : j < 3 := (Array.getElem?_eq_some_iff.1 hj').1
    have hcell := hat j hjl
    have hjc : j < cs.length := by omega
    have h1 := hf j f hj'
    rw [ho, hk] at h1
    rw [show (cs.drop j).take 1 = [cs[j]] from by rw [List.drop_eq_getElem_cons hjc]; rfl] at h1
    have hys : ys[j]? = some (ys[j]'(by rw [hyl]; exact hjl)) := List.getElem?_eq_getElem _
    exact ⟨cs[j], _, by rw [← Go.Deep.add_add, hcell, List.getElem?_eq_getElem hjc], h1.trans hys⟩
  obtain ⟨v0, y0, c0, t0⟩ := one 0 f0 rfl
  obtain ⟨v1, y1, c1, t1⟩ := one 1 f1 rfl
  obtain ⟨v2, y2, c2, t2⟩ := one 2 f2 rfl
  obtain ⟨x, e0, _, _⟩ := DataW.trod_int hi t0
  obtain ⟨y, e1, _, _⟩ := DataW.trod_int (hj ▸ hi) t1
  obtain ⟨s, e2, _, hsz⟩ := DataW.trod_string hs t2
  simp only [List.cons.injEq, and_true] at e0 e1 e2
  subst e0 e1 e2
  exact ⟨⟨x, y, s⟩, c0, c1, c2, hsz⟩

/-- A row of versions. -/
theorem open_versions {t e : TypeId} {f0 f1 f2 : Field} {a : Option Addr} {len cap : Nat} {d : DataW H} {p : List MemPlace} (ht : P.underlying t = some (.slice e)) (he : P.underlying e = some (.struct #[f0, f1, f2])) (hi : P.underlying f0.type = some (.int .i64)) (hs : P.underlying f2.type = some .string)
    (hone : oneCellFields P #[f0, f1, f2] = true) (hC : P.cellsOf e = 3) (hj : f1.type = f0.type) (h : DataW.Trod enc P w base (fun _ => true) held t (.slice a len cap) d p) :
    ∃ xs : List Ver, Vers w w.heap.size (.slice a len cap) xs ∧ ∀ x ∈ xs, x.note.size ≤ 9223372036854775807 := by
  obtain ⟨fuel, hf⟩ := h
  rcases open_slice ht hf with ⟨hcs, _⟩ | ⟨x, l, c, m, n, D, Pl, hcs, _, hl, hm, hmm, hx, hi'⟩
  · simp [Value.cells] at hcs
    obtain ⟨rfl, rfl, rfl⟩ := hcs
    exact ⟨[], Rd.nil _ _ _ _ _ (Nat.zero_le _), by simp⟩
  · simp [Value.cells] at hcs
    obtain ⟨rfl, rfl, rfl⟩ := hcs
    rw [if_pos rfl] at hmm
    have hall : ∀ i : Nat, ∃ y : Ver, i < len → w.cell? (x.add (i * 3 + 0)) = some (.int .i64 y.root) ∧ w.cell? (x.add (i * 3 + 1)) = some (.int .i64 y.before) ∧ w.cell? (x.add (i * 3 + 2)) = some (.string y.note) ∧ y.note.size ≤ maxLen := by
      intro i
      by_cases hlt : i < len
      · obtain ⟨cs, hc, htr⟩ := hi' i (by omega)
        rw [hC] at hc
        obtain ⟨y, hy⟩ := ver_cells he hi hj hs hone hc htr
        exact ⟨y, fun _ => hy⟩
      · exact ⟨⟨0, 0, ⟨#[]⟩⟩, fun h => absurd h hlt⟩
    obtain ⟨f, hf'⟩ := Classical.axiomOfChoice hall
    have hlen : ((List.range len).map f).length = len := by simp
    refine ⟨(List.range len).map f, ?_, ?_⟩
    · unfold Vers Rd
      rw [hlen]
      refine ⟨some x, _, rfl, hl, hm, by rw [flatV_len', hlen], fun h0 => ?_⟩
      obtain ⟨b, o, s⟩ := x
      have c0 : w.cell? ((⟨b, o, s⟩ : Addr).add 0) = some (.int .i64 (f 0).root) := (hf' 0 h0).1
      have hsn : s = none := by
        cases s with
        | none => rfl
        | some q => exact (spot_none c0).elim
      subst hsn
      have hadd : ∀ j, (⟨b, o, none⟩ : Addr).add j = ⟨b, o + j, none⟩ := fun j => by unfold Addr.add; split <;> simp_all
      refine ⟨b, o, rfl, ?_, fun j v hjv => ?_⟩
      · have := World.block_lt_of_cell? w _ c0
        simpa [Addr.add] using this
      · have hjl : j < len * 3 := by
          have := (List.getElem?_eq_some_iff.1 hjv).1
          rw [flatV_len', hlen] at this
          exact this
        have hq : j / 3 < len := by omega
        have hx' : ((List.range len).map f)[j / 3]? = some (f (j / 3)) := by simp [hq]
        obtain ⟨g0, g1, g2⟩ := flatV_get' hx'
        obtain ⟨k0, k1, k2, _⟩ := hf' (j / 3) hq
        rw [hadd] at k0 k1 k2
        have hr : j % 3 = 0 ∨ j % 3 = 1 ∨ j % 3 = 2 := by omega
        rcases hr with hr | hr | hr
        · rw [show j / 3 * 3 = j by omega] at g0
          rw [show j / 3 * 3 + 0 = j by omega] at k0
          rw [g0] at hjv; rw [← Option.some.inj hjv]; exact k0
        · rw [show j / 3 * 3 + 1 = j by omega] at g1 k1
          rw [g1] at hjv; rw [← Option.some.inj hjv]; exact k1
        · rw [show j / 3 * 3 + 2 = j by omega] at g2 k2
          rw [g2] at hjv; rw [← Option.some.inj hjv]; exact k2
    · intro y hy
      obtain ⟨i, hi2, rfl⟩ := List.mem_map.1 hy
      exact (hf' i (by simpa using hi2)).2.2.2
end
end Go.Proofs.Ytnedkfmbeeodfaa
