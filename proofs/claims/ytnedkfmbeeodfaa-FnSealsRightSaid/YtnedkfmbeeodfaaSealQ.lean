/- Plain facts on seals that go on. No program in sight. -/
import Derived.Test.YtnedkfmbeeodfaaPrintP
namespace Go.Proofs.Ytnedkfmbeeodfaa
open Go.RowKit

theorem sealsFrom_take : ∀ (s : Int) (l : List Ver) (k : Nat), sealsFrom s (l.take k) = (sealsFrom s l).take k
  | s, [], k => by simp [sealsFrom]
  | s, v :: r, 0 => by simp [sealsFrom]
  | s, v :: r, k + 1 => by simp [sealsFrom, sealsFrom_take _ r k]
theorem vsFrom_take : ∀ (l : List Ver) (i : Int) (k : Nat), vsFrom i l = true → vsFrom i (l.take k) = true
  | [], i, k, _ => by simp [vsFrom]
  | v :: r, i, 0, _ => rfl
  | v :: r, i, k + 1, h => by
    simp only [vsFrom, Bool.and_eq_true, List.take_succ_cons] at h ⊢
    exact ⟨h.1, vsFrom_take r _ k h.2⟩
theorem vs_take {l : List Ver} (k : Nat) (h : vsOk l = true) : vsOk (l.take k) = true := by
  simp only [vsOk, Bool.and_eq_true, decide_eq_true_eq] at h ⊢
  exact ⟨by simp; omega, vsFrom_take l 0 k h.2⟩
theorem seals_take {l : List Ver} (k : Nat) (h : vsOk l = true) : sealsOf (l.take k) = (sealsOf l).take k := by
  rw [seals_on h, seals_on (vs_take k h), sealsFrom_take]
/-- From different seals on all seals are different. -/
theorem seals_part : ∀ (l : List Ver) (s s' i : Int), pv s = true → pv s' = true → s' ≠ s → vsFrom i l = true → i + l.length ≤ 12 → ∀ (k : Nat) (x y : Int), (sealsFrom s l)[k]? = some x → (sealsFrom s' l)[k]? = some y → x ≠ y
  | [], s, s', i, _, _, _, _, _, k, x, y, hx, _ => by simp [sealsFrom] at hx
  | v :: r, s, s', i, h1, h2, hne, hv, hl, k, x, y, hx, hy => by
    simp only [vsFrom, Bool.and_eq_true] at hv
    simp only [List.length_cons] at hl
    have ho := vOk_seal h1 (by omega) hv.1
    have ho' := vOk_seal h2 (by omega) hv.1
    have hd := seal_seal ho h2 hne
    cases k with
    | zero =>
      simp [sealsFrom] at hx hy
      subst hx hy
      exact Ne.symm hd
    | succ k =>
      simp only [sealsFrom, List.getElem?_cons_succ] at hx hy
      exact seals_part r _ _ (i + 1) (seal_in ho) (seal_in ho') hd hv.2 (by omega) k x y hx hy
/-- With another root of the first version all seals are other ones. -/
theorem seals_root {v : Ver} {r : List Ver} {q : Int} (h : vsOk (v :: r) = true) (hq : pv q = true) (hne : q ≠ v.root) :
    vsOk ({ v with root := q } :: r) = true ∧ ∀ (k : Nat) (x y : Int), (sealsOf (v :: r))[k]? = some x → (sealsOf ({ v with root := q } :: r))[k]? = some y → x ≠ y := by
  have h' := h
  simp only [vsOk, Bool.and_eq_true, decide_eq_true_eq, vsFrom, List.length_cons] at h'
  obtain ⟨hl, hv, hr⟩ := h'
  have hv2 : vOk { v with root := q } 0 = true := by
    simp only [vOk, Bool.and_eq_true] at hv ⊢
    exact ⟨⟨hq, hv.1.2⟩, hv.2⟩
  have hok : vsOk ({ v with root := q } :: r) = true := by
    simp only [vsOk, Bool.and_eq_true, decide_eq_true_eq, vsFrom, List.length_cons]
    exact ⟨hl, hv2, hr⟩
  refine ⟨hok, fun k x y hx hy => ?_⟩
  rw [seals_on h] at hx
  rw [seals_on hok] at hy
  have p11 : pv 11 = true := by decide
  have ho := vOk_seal p11 (by omega) hv
  have ho' := vOk_seal p11 (by omega) hv2
  have hd := seal_root ho hq hne
  cases k with
  | zero =>
    simp [sealsFrom] at hx hy
    subst hx hy
    exact Ne.symm hd
  | succ k =>
    simp only [sealsFrom, List.getElem?_cons_succ] at hx hy
    exact seals_part r _ _ 1 (seal_in ho) (seal_in ho') hd hr (by omega) k x y hx hy

theorem emod_succ' {r : Int} (h : pv r = true) : pv ((r + 1) % 16777213) = true ∧ (r + 1) % 16777213 ≠ r := by
  have := pv_iff.1 h
  have h1 := Int.emod_nonneg (r + 1) (show (16777213 : Int) ≠ 0 by decide)
  have h2 := Int.emod_lt_of_pos (r + 1) (show (0 : Int) < 16777213 by decide)
  exact ⟨pv_iff.2 ⟨h1, by omega⟩, by omega⟩

end Go.Proofs.Ytnedkfmbeeodfaa
