/- The law FnExactFilterWanted, and FnExactFilterOf. -/
import Derived.Test.YtlkcbfolpfckgaaF
namespace Go.Proofs.Ytlkcbfolpfckgaa
open Go.RowKit

set_option maxHeartbeats 400000 in
theorem laws_FnExactFilterOf_c (v : Value) (xs : List Int) (w : World) (h : Ints w w.heap.size v xs) :
    Calls Try.prog 6 #[v] w fun e w' => e = .returned (.bool true) ∧ Below w.heap.size w w' := by
  obtain ⟨n, hn⟩ : ∃ n, xs.length = n := ⟨_, rfl⟩
  obtain ⟨a, c, rfl, h1, h2, h3⟩ := h.ints hn
  clear h3
  by_cases hb : 1048576 < n
  · clear hn
    go_enter Try.func6, Try.ntmps6
    go_wp2
    go_ret
    exact ⟨rfl, Below.refl _ _⟩
  · have HN := hid hn
    clear hn
    have hb' : n ≤ 1048576 := by omega
    have hs : ∀ wx, Below w.heap.size w wx → Ints wx wx.heap.size (.slice a n c) xs := fun wx hx => h.on hx
    have hl : xs.length ≤ 1048576 := by rw [HN.out]; exact hb'
    go_enter Try.func6, Try.ntmps6
    go_wp2_with fail
    refine (laws_toIntS_c _ xs _ (hs _ (Below.refl _ _)) hl).mono ?_
    rintro e w1 ⟨v1, rfl, o1, b1⟩
    have i1 := Rd.of_own o1
    go_wp2_with fail
    refine (spec_FilterOf_c _ xs _ _ i1).mono ?_
    rintro e w' ⟨rfl, q, rfl⟩
    go_wp2_with fail
    have b1' := bl_drewN b1 q
    refine (laws_toIntS_c _ xs _ (hs _ b1') hl).mono ?_
    rintro e w2 ⟨v2, rfl, o2, b2⟩
    have i2 := Rd.of_own o2
    have c2 := bl_then b1' b2
    go_wp2_with fail
    refine (impl_FilterOf_c _ xs _ _ i2).mono ?_
    rintro e w' ⟨rfl, r, rfl⟩
    go_wp2_with fail
    have c2' := bl_drewN c2 r
    refine (laws_toIntS_c _ xs _ (hs _ c2') hl).mono ?_
    rintro e w3 ⟨v3, rfl, o3, b3⟩
    go_wp2_with fail
    refine (laws_eqIntS_c _ _ xs xs _ _ _ (Rd.on (w := w2.drewN r) i2 b3) (Rd.of_own o3)).mono ?_
    rintro e w' ⟨rfl, t, rfl⟩
    go_wp2
    go_ret
    exact ⟨by simp, bl_drewN (bl_then c2' b3) t⟩

set_option maxHeartbeats 400000 in
theorem laws_FnExactFilterWanted_c (f : Int) (v : Value) (xs : List Int) (w : World) (h : Ints w w.heap.size v xs) :
    Calls Try.prog 8 #[.int .i64 f, v] w fun e w' => e = .returned (.bool true) ∧ Below w.heap.size w w' := by
  obtain ⟨n, hn⟩ : ∃ n, xs.length = n := ⟨_, rfl⟩
  obtain ⟨a, c, rfl, h1, h2, h3⟩ := h.ints hn
  clear h3
  by_cases hb : 1048576 < n
  · clear hn
    go_enter Try.func8, Try.ntmps8
    go_wp2
    go_ret
    exact ⟨rfl, Below.refl _ _⟩
  · have HN := hid hn
    clear hn
    have hb' : n ≤ 1048576 := by omega
    have hs : ∀ wx, Below w.heap.size w wx → Ints wx wx.heap.size (.slice a n c) xs := fun wx hx => h.on hx
    have hl : xs.length ≤ 1048576 := by rw [HN.out]; exact hb'
    have HG : Hid ((fwant f xs).length ≤ 1048576) := by unfold Hid fwant; split; exact Nat.le_trans (fwants_len f xs) hl; simp
    generalize hR : fwant f xs = R at *
    have HR := hid hR
    clear hR
    go_enter Try.func8, Try.ntmps8
    go_wp2_with fail
    refine (laws_toIntS_c _ xs _ (hs _ (Below.refl _ _)) hl).mono ?_
    rintro e w1 ⟨v1, rfl, o1, b1⟩
    have i1 := Rd.of_own o1
    go_wp2_with fail
    refine (spec_FilterWanted_c f _ xs _ i1 hl).mono ?_
    rintro e w2 ⟨g0, rfl, o2, b2⟩
    rw [HR.out] at o2
    have i2 := Rd.of_own o2
    have c2 := bl_then b1 b2
    go_wp2_with fail
    refine (laws_toIntS_c _ xs _ (hs _ c2) hl).mono ?_
    rintro e w3 ⟨x1, rfl, o3, b3⟩
    have c3 := bl_then c2 b3
    go_wp2_with fail
    refine (impl_FilterWanted_c f _ xs _ (Rd.of_own o3) hl).mono ?_
    rintro e w4 ⟨q0, rfl, o4, b4⟩
    rw [HR.out] at o4
    have c4 := bl_then c3 b4
    go_wp2_with fail
    refine (laws_eqIntS_c _ _ R R _ _ _ (Rd.of_own o4) ((i2.on b3).on b4)).mono ?_
    rintro e w' ⟨rfl, t1, rfl⟩
    go_wp2_with fail
    have c5 := bl_drewN c4 t1
    refine (laws_toIntS_c _ xs (w4.drewN t1) (hs _ c5) hl).mono ?_
    rintro e w5 ⟨y1, rfl, o5, b5⟩
    go_wp2_with fail
    have k1 := (Rd.of_own o3).on b4
    have c6 := bl_then c5 b5
    refine (laws_eqIntS_c _ _ xs xs _ _ _ (Rd.on (w := w4.drewN t1) k1 b5) (Rd.of_own o5)).mono ?_
    rintro e w' ⟨rfl, t2, rfl⟩
    go_wp2_with fail
    have c7 := bl_drewN c6 t2
    have p1 : OwnI (w5.drewN t2) w2.heap.size x1 xs := ((o3.on b4).on (w := w4.drewN t1) b5).drewN t2
    refine (laws_markIntS_c _ _ n xs 1 _ p1 HN.out hb' (by omega) (by omega)).mono ?_
    rintro e w6 ⟨rfl, p2, g6⟩
    have hx1 : ∀ g, x1.ownBlock = some g → w2.heap.size ≤ g ∧ g < w3.heap.size := o3.lt
    have s12 := b2.size
    have s23 := b3.size
    have s34 := b4.size
    have s45 : w4.heap.size ≤ w5.heap.size := b5.size
    have c8 : Below w.heap.size w w6 := c7.grown g6 (by have := c7.size; omega) (fun g hg => by have := (hx1 g hg).1; have := c2.size; omega)
    have q1 : OwnI w6 w3.heap.size q0 R := ((Own.on (w := w4.drewN t1) o4 b5).drewN t2).far g6 (fun g hg => (hx1 g hg).2)
    have ra : Ints w4 w2.heap.size g0 R := (i2.below b3 (Nat.le_refl _)).below b4 (by omega)
    have rb : Ints w5 w2.heap.size g0 R := Rd.below (w := w4.drewN t1) ra b5 (by show _ ≤ w4.heap.size; omega)
    have r1 : Ints w6 w2.heap.size g0 R := Rd.far (w := w5.drewN t2) rb (by show _ ≤ w5.heap.size; omega) g6 (fun g hg => (hx1 g hg).1)
    go_wp2_with fail
    refine (laws_eqIntS_c _ _ R R _ _ _ (Rd.of_own q1) r1).mono ?_
    rintro e w' ⟨rfl, t3, rfl⟩
    go_wp2_with fail
    obtain ⟨m, hm⟩ : ∃ m, R.length = m := ⟨_, rfl⟩
    have hm0 : m ≤ 1048576 := by rw [← hm]; exact HG.out
    have HM := hid hm
    clear hm
    refine (laws_markIntS_c _ _ m R 1 _ (q1.drewN t3) HM.out hm0 (by omega) (by omega)).mono ?_
    rintro e w7 ⟨rfl, q2, g7⟩
    have c9 : Below w.heap.size w w7 := (bl_drewN c8 t3).grown g7 (by have := c8.size; show _ ≤ w6.heap.size; omega) (fun g hg => by have := (q1.lt g hg).1; have := c2.size; omega)
    have s67 : w6.heap.size ≤ w7.heap.size := g7.size
    have s56 : w5.heap.size ≤ w6.heap.size := g6.size
    have r2 : Ints w7 w2.heap.size g0 R := Rd.far (w := w6.drewN t3) r1 (by show _ ≤ w6.heap.size; omega) g7 (fun g hg => by have := (q1.lt g hg).1; omega)
    go_wp2_with fail
    refine (laws_heldIntS_c _ _ m 1 _ q2 hm0 (by omega) (by omega)).mono ?_
    rintro e w' ⟨rfl, rfl⟩
    go_wp2_with fail
    refine (laws_toIntS_c _ xs w7 (hs _ c9) hl).mono ?_
    rintro e w8 ⟨y2, rfl, o8, b8⟩
    have c10 := bl_then c9 b8
    go_wp2_with fail
    refine (impl_FilterWanted_c f _ xs _ (Rd.of_own o8) hl).mono ?_
    rintro e w9 ⟨h0, rfl, o9, b9⟩
    rw [HR.out] at o9
    have c11 := bl_then c10 b9
    go_wp2_with fail
    refine (laws_eqIntS_c _ _ R R _ _ _ (Rd.of_own o9) ((r2.below b8 (by omega)).below b9 (by have := b8.size; omega))).mono ?_
    rintro e w' ⟨rfl, t4, rfl⟩
    go_wp2_with fail
    refine (laws_heldIntS_c _ _ m 1 _ (((q2.on b8).on b9).drewN t4) hm0 (by omega) (by omega)).mono ?_
    rintro e w' ⟨rfl, rfl⟩
    go_wp2
    go_ret
    exact ⟨rfl, bl_drewN c11 t4⟩

end Go.Proofs.Ytlkcbfolpfckgaa
