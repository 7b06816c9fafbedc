/- Walks: drawn seals. -/
import Derived.Test.YtnedkfmbeeodfaaDrawV
import Derived.Test.YtnedkfmbeeodfaaSeals
import Derived.Test.YtnedkfmbeeodfaaRun2
namespace Go.Proofs.Ytnedkfmbeeodfaa
open Go.RowKit

theorem own_int_set {w : World} {B g n c : Nat} {ss : List Int} (h : OwnI w B (.slice (some ⟨g, 0, none⟩) n c) ss) (hn : ss.length = n) (j : Nat) (q : Int) (hj : j < n) :
    OwnI (w.setCell ⟨g, j, none⟩ (.int .i64 q)) B (.slice (some ⟨g, 0, none⟩) n c) (ss.set j q) ∧ w.grownBy (w.setCell ⟨g, j, none⟩ (.int .i64 q)) (some g) ∧ (∃ x, w.cell? ⟨g, j, none⟩ = some (.int .i64 x)) ∧ w.frozen? ⟨g, j, none⟩ = false := by
  have h' : w.ownsRow B 3 1 (.slice (some ⟨g, 0, none⟩) n c) n (ss.flatMap encI) := by have := h; unfold OwnI Own at this; rwa [hn] at this
  have hs := h'.stored j (.int .i64 q)
  refine ⟨?_, hs.2, ?_, h'.frozenAt j⟩
  · have h3 := hs.1
    unfold OwnI Own
    rw [show (ss.set j q).length = n by rw [← hn]; simp]
    have e : ∀ (l : List Int) (j : Nat), (l.set j q).flatMap encI = (l.flatMap encI).set j (.int .i64 q) := by
      intro l
      induction l with
      | nil => intro j; rfl
      | cons a r ih =>
        intro j
        cases j with
        | zero => rfl
        | succ j => simp only [List.set_cons_succ, List.flatMap_cons, ih]; rfl
    rw [e]
    exact h3
  · have hx := h'.cellAt j (by omega)
    have e : ∀ (l : List Int) (j : Nat) (hj : j < l.length), (l.flatMap encI)[j]? = some (.int .i64 l[j]) := by
      intro l
      induction l with
      | nil => intro j hj; simp at hj
      | cons a r ih =>
        intro j hj
        cases j with
        | zero => rfl
        | succ j =>
          rw [List.flatMap_cons]
          show (encI a ++ r.flatMap encI)[j + 1]? = _
          rw [show encI a = [.int .i64 a] from rfl, List.singleton_append, List.getElem?_cons_succ, ih j (by simpa using hj)]
          simp
    exact ⟨_, hx.trans (e ss j (by omega))⟩

theorem own_int_slice {w : World} {B n : Nat} {v : Value} {ss : List Int} (h : OwnI w B v ss) (hn : ss.length = n) (h0 : 0 < n) : ∃ g cap, v = .slice (some ⟨g, 0, none⟩) n cap ∧ B ≤ g ∧ g < w.heap.size := by
  rcases h.2 with ⟨_, hz⟩ | ⟨g, cap, cur, hv, hbg, hh, _⟩
  · exfalso
    cases ss with
    | nil => simp at hn; omega
    | cons a r => simp at hz
  · exact ⟨g, cap, by rw [hv, hn], hbg, (Array.getElem?_eq_some_iff.1 hh).1⟩

theorem sealsOf_len (xs : List Ver) : (sealsOf xs).length ≤ xs.length := by
  cases hk : vsOk xs
  · rw [seals_off hk]; simp
  · rw [seals_on hk, sealsFrom_len]; exact Nat.le_refl _

theorem Own.apart {α : Type} {enc : α → List Value} {e k B : Nat} {w w' : World} {v : Value} {xs : List α} {row : Option Nat} (h : Own enc e k w B v xs) (hg : w.grownBy w' row) (hr : ∀ b, v.ownBlock = some b → row ≠ some b) : Own enc e k w' B v xs :=
  h.kept hg (by
    cases hv : v.ownBlock with
    | none => exact .inl rfl
    | some g => exact .inr (Ne.symm (hr g hv)))
def SealsIn (w : World) (e : Ending) (w' : World) : Prop := ∃ (v u : Value) (xs : List Ver) (ss : List Int), e = .returned (.tuple #[v, u]) ∧ OwnV w' w.heap.size v xs ∧ xs.length ≤ 12 ∧ (∀ x ∈ xs, x.note.size ≤ 9) ∧ Ints w' w'.heap.size u ss ∧ ss.length ≤ 13 ∧ Below w.heap.size w w'

set_option maxHeartbeats 2000000 in
theorem spec_DrawSealsRight_c (v : Value) (l : List Int) (w : World) (h : Rd encU 1 w w.heap.size v l) (hl : ∀ x ∈ l, 0 ≤ x ∧ x ≤ 255) :
    Calls Try.prog 51 #[v] w (SealsIn w) := by
  go_enter Try.func51, Try.ntmps51
  go_wp2_with fail
  refine (spec_l20Open_c v l w h hl).mono ?_
  rintro e w1 ⟨l', rfl, r1, b1⟩
  clear h hl
  have hg0 := r1.lt
  go_wp2_with fail
  refine (spec_l20Versions_c _ 0 l' 12 _ r1 (by omega) (by omega) (by omega)).mono ?_
  rintro e w2 ⟨x, xs, p2, rfl, o, hx, hn, _, r2, g⟩
  have b2 := b1.grown g b1.size (by simp)
  have hs12 := g.size
  have HXB := hid (show ∀ b, x.ownBlock = some b → b < w2.heap.size from fun b hb => (o.lt b hb).2)
  clear g r1
  go_wp2_with fail
  refine (spec_SealsOf_c _ xs _ (Rd.of_own o) (fun x hx => by have := hn x hx; omega) (by omega)).mono ?_
  obtain ⟨ss, hss⟩ : ∃ ss, sealsOf xs = ss := ⟨_, rfl⟩
  have hsl : ss.length ≤ 12 := by rw [← hss]; exact Nat.le_trans (sealsOf_len xs) hx
  rw [hss]
  rintro e w3 ⟨sv, rfl, o3, b3⟩
  have c3 := bl_then b2 b3
  have p3 := o.on b3
  have r3 := r2.on b3
  have hs23 := b3.size
  clear hss b2 b3 o r2
  go_wp2_with fail
  refine (spec_pick_c _ _ l' 6 _ r3 (by omega)).mono ?_
  rintro e w4 ⟨z, rfl, z0, _, _, r4, g4⟩
  have c4 := c3.grown g4 c3.size (by simp)
  have p4 := p3.far g4 (fun b hb => by simp at hb; omega)
  have o4 := o3.far g4 (fun b hb => by simp at hb; omega)
  have hs34 := g4.size
  clear c3 p3 o3 r3 g4
  obtain ⟨n, hnl⟩ : ∃ n, ss.length = n := ⟨_, rfl⟩
  have HNL := hid hnl
  rw [hnl] at hsl
  have hs14 := c4.size
  have hs1 := b1.size
  clear hnl b1
  by_cases hz0 : z = 0
  · have hzb : (z == 0) = true := by simp [hz0]
    clear hz0 z0
    by_cases hn0 : 0 < n
    · obtain ⟨sb, sc, rfl, hsb, hsw⟩ := own_int_slice o4 HNL.out hn0
      have hnd : decide ((0 : Int) < (n : Int)) = true := by simp; omega
      go_wp2_with fail
      refine (spec_pick_c _ _ l' n _ r4 (by omega)).mono ?_
      rintro e w5 ⟨y, rfl, y0, y1, _, r5, g5⟩
      have y1' := y1 (by omega)
      have c5 := c4.grown g5 c4.size (by simp)
      have p5 := p4.far g5 (fun b hb => by simp at hb; omega)
      have o5 := o4.far g5 (fun b hb => by simp at hb; omega)
      have hs45 := g5.size
      obtain ⟨j, rfl⟩ : ∃ j : Nat, y = j := ⟨y.toNat, by omega⟩
      have hj : j < n := by omega
      obtain ⟨o6, g6, ⟨x6, k6⟩, f6⟩ := own_int_set (q := 5) o5 HNL.out j hj
      have c6 := c5.grown g6 c5.size (fun b hb => by simp at hb; omega)
      have p6 := p5.apart g6 (fun b hb e => by have := HXB.out b hb; simp at e; omega)
      have O6 := hid o6
      have P6 := hid p6
      have C6 := hid c6
      clear y1 g5 c4 p4 o4 r4 r5 o6 p6 c6 o5 p5
      go_wp2
      go_ret2
      exact ⟨_, _, _, _, rfl, P6.out.less (by omega), hx, hn, Rd.of_own O6.out, by simp; rw [HNL.out]; omega, C6.out⟩
    · obtain rfl : n = 0 := by omega
      clear hn0
      obtain ⟨sa, sc, rfl, _, _, _⟩ := (Rd.of_own o4).ints HNL.out
      go_wp2
      go_ret2
      exact ⟨_, _, _, _, rfl, p4.less (by omega), hx, hn, Rd.of_own o4, by rw [HNL.out]; omega, c4⟩
  · have hzb : (z == 0) = false := by simp [hz0]
    clear hz0
    by_cases hz1 : z = 1
    · have hzb1 : (z == 1) = true := by simp [hz1]
      clear hz1
      go_wp2_with (at_builtin; refine push_int (w0 := w4) (wr := w4) rfl _ _ rfl _ w2.heap.size _ _ _ o4 (Below.refl _ _) (by omega) (Nat.le_refl _) rfl rfl (by rw [HNL.out]; omega) ?_; intro v' w' hown' _ hB' hg')
      go_ret2
      exact ⟨_, _, _, _, rfl, (p4.apart hg'.1 (fun b hb e => by have h1 := HXB.out b hb; have h2 := (o4.lt b e).1; omega)).less (by omega), hx, hn, Rd.of_own hown', by simp; rw [HNL.out]; omega, c4.grown hg'.1 c4.size (fun b hb => by have := (o4.lt b hb).1; omega)⟩
    · have hzb1 : (z == 1) = false := by simp [hz1]
      clear hz1
      by_cases hz2 : z = 2
      · have hzb2 : (z == 2) = true := by simp [hz2]
        clear hz2
        obtain ⟨sa, sc, rfl, hsc, hsc9, _⟩ := (Rd.of_own o4).ints HNL.out
        have hw : IntKind.i64.wrap ((n : Int) + 1) = n + 1 := IntWalk.i64_in _ (by omega)
        go_wp2_with fail
        refine (spec_pick_c _ _ l' (n + 1) _ r4 (by omega)).mono ?_
        rintro e w5 ⟨y, rfl, y0, y1, _, r5, g5⟩
        have y1' := y1 (by omega)
        have c5 := c4.grown g5 c4.size (by simp)
        have p5 := p4.far g5 (fun b hb => by simp at hb; omega)
        have o5 := o4.far g5 (fun b hb => by simp at hb; omega)
        have hs45 := g5.size
        obtain ⟨j, rfl⟩ : ∃ j : Nat, y = j := ⟨y.toNat, by omega⟩
        have hj : j ≤ n := by omega
        have hcap : (j : Int) ≤ sc := by omega
        have hrd := Rd.front (Rd.of_own o5) hj
        clear y1 g5 c4 p4 o4 r4 r5
        go_wp2
        go_ret2
        exact ⟨_, _, _, _, rfl, p5.less (by omega), hx, hn, hrd, by simp; rw [HNL.out]; omega, c5⟩
      · have hzb2 : (z == 2) = false := by simp [hz2]
        clear hz2
        obtain ⟨sa, sc, rfl, _, _, _⟩ := (Rd.of_own o4).ints HNL.out
        go_wp2
        go_ret2
        exact ⟨_, _, _, _, rfl, p4.less (by omega), hx, hn, Rd.of_own o4, by rw [HNL.out]; omega, c4⟩

end Go.Proofs.Ytnedkfmbeeodfaa
