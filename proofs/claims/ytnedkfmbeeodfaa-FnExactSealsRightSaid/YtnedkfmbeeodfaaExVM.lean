/- Walks: marks on rows of versions. -/
import Derived.Test.YtnedkfmbeeodfaaExVS
import Derived.Test.YtnedkfmbeeodfaaMark
namespace Go.Proofs.Ytnedkfmbeeodfaa
open Go.RowKit

theorem row_set1 {w : World} {base g n c j : Nat} {cs : List Value} (h : w.ownsRow base 52 3 (.slice (some ⟨g, 0, none⟩) n c) n cs) (x : Value) :
    (w.setCell ⟨g, j, none⟩ x).ownsRow base 52 3 (.slice (some ⟨g, 0, none⟩) n c) n (cs.set j x) ∧ w.grownBy (w.setCell ⟨g, j, none⟩ x) (some g) := h.stored j x

set_option maxHeartbeats 2000000 in
theorem laws_markVersionS_c (v : Value) (base n : Nat) (xs : List Ver) (k : Int) (w : World) (h : Own encV 52 3 w base v xs) (hxn : xs.length = n) (hn : n ≤ 1048576) (k0 : 0 ≤ k) (k1 : k ≤ 1000000000000) :
    Calls Try.prog 48 #[v, .int .i64 k] w fun e w' => e = .returned (.int .i64 (k + 3 * n)) ∧ w.grownBy w' v.ownBlock := by
  have h : w.ownsRow base 52 3 v n (xs.flatMap encV) := by have := h; unfold Own at this; rwa [hxn] at this
  have hlen := (flatV_len xs).trans (by rw [hxn])
  rcases h.2 with ⟨rfl, rfl⟩ | ⟨g, cap, cur, rfl, hbg, _, hnc, hcm, _⟩
  · clear hxn h hlen
    go_enter Try.func48, Try.ntmps48
    go_wp2
    refine wp_loop_rounds 1 ?_
    rw [rounds_succ]
    go_wp2
    go_ret
    exact ⟨ret_i (by simp), World.grownBy.refl _ _⟩
  · have hl := hid hlen
    clear hxn hcm hlen
    go_enter Try.func48, Try.ntmps48
    go_wp2
    go_loopw [1, 5] (fun kk i wr => ∃ (j : Nat) (cs' : List Value), j ≤ n ∧ i = .int .i64 j ∧ kk = .int .i64 (k + 3 * j) ∧ wr.ownsRow base 52 3 (.slice (some ⟨g, 0, none⟩) n cap) n cs' ∧ Hid (cs'.length = n * 3) ∧ w.grownBy wr (some g)) (fun _ i _ => n - (intOf i).toNat)
    case atStart => exact ⟨0, _, Nat.zero_le _, rfl, by simp, h, hl, World.grownBy.refl _ _⟩
    case round =>
      obtain ⟨j, cs', hj, rfl, rfl, hown, hcl, hg⟩ := hrel
      clear h
      by_cases hlt : j < n
      · have get : ∀ i, i < n * 3 → ∃ u, cs'[i]? = some u := fun i hi => ⟨cs'[i]'(by rw [hcl.out]; exact hi), List.getElem?_eq_getElem _⟩
        obtain ⟨u0, hu0⟩ := get (j * 3) (by omega)
        obtain ⟨u1, hu1⟩ := get (j * 3 + 1) (by omega)
        obtain ⟨u2, hu2⟩ := get (j * 3 + 2) (by omega)
        have d0 : wr.cell? ⟨g, j * 3, none⟩ = some u0 := (hown.cellAt (j * 3) (by omega)).trans hu0
        have d1 : wr.cell? ⟨g, j * 3 + 1, none⟩ = some u1 := (hown.cellAt (j * 3 + 1) (by omega)).trans hu1
        have f0 : wr.frozen? ⟨g, j * 3, none⟩ = false := hown.frozenAt (j * 3)
        have f1 : wr.frozen? ⟨g, j * 3 + 1, none⟩ = false := hown.frozenAt (j * 3 + 1)
        have a1 := row_set1 (j := j * 3) hown (.int .i64 (k + 3 * j))
        have a2 := row_set1 (j := j * 3 + 1) a1.1 (.int .i64 (k + 3 * j + 1))
        have G2 := (hg.trans a1.2).trans a2.2
        have hu2' : ((cs'.set (j * 3) (.int .i64 (k + 3 * j))).set (j * 3 + 1) (.int .i64 (k + 3 * j + 1)))[j * 3 + 2]? = some u2 := by
          rw [List.getElem?_set_ne (by omega), List.getElem?_set_ne (by omega)]; exact hu2
        have hz := hid hl.out
        have hcl2 := hid hcl.out
        have A2 := hid a2.1
        have HG2 := hid G2
        clear a1 a2 G2 hu0 hu1 hu2 hg hown get
        go_wp2_with fail
        refine (laws_markText_c (k + 3 * j + 1 + 1) _ (by omega)).mono ?_
        rintro q w4 ⟨rfl, b4⟩
        have A4 := row_on A2.out b4
        have G4 := HG2.out.trans (gb_of_below b4 (some g))
        have d2 : w4.cell? ⟨g, j * 3 + 2, none⟩ = some u2 := (A4.cellAt (j * 3 + 2) (by omega)).trans hu2'
        have f2 : w4.frozen? ⟨g, j * 3 + 2, none⟩ = false := A4.frozenAt (j * 3 + 2)
        have a5 := row_set1 (j := j * 3 + 2) A4 (.string (markT (k + 3 * j + 1 + 1)))
        have A5 := hid a5
        have HG4 := hid G4
        clear A4 a5 G4 hu2' b4
        go_wp2
        go_roundw
        case rel => exact ⟨j + 1, _, by omega, by go_num, by go_num, A5.out.1, by unfold Hid; simp; exact hcl2.out, HG4.out.trans A5.out.2⟩
        case measure => simp [intOf]; omega
      · obtain rfl : j = n := by omega
        go_wp2
        go_ret
        exact ⟨rfl, hg⟩

end Go.Proofs.Ytnedkfmbeeodfaa
