/- Walks: drawn texts that are alike, and deltas. -/
import Derived.Test.YtdfkiphdieoaaaaInvR
namespace Go.Proofs.Ytdfkiphdieoaaaa
open Go.RowKit

/-- Two texts. -/
def Two (k : Nat) (w : World) (g : Nat) (l : List Int) (p : Nat) (e : Ending) (w' : World) : Prop :=
  ∃ (s u : ByteArray) (p' : Nat), e = .returned (.tuple #[.string s, .string u]) ∧ s.size ≤ 100 ∧ u.size ≤ 100 ∧ p' ≤ p + k ∧ Reader w' g l p' ∧ w.grownBy w' (some g)

def al4 : Array Value := #[.string ⟨#[]⟩, .string ⟨#[120]⟩, .string ⟨#[97, 97]⟩, .string ⟨#[108, 111, 110, 103]⟩]
def alF (g : Nat) (A : ByteArray) (k : Nat) : List (Value → World → Prop) :=
  [isV (.string A), isV (.string A), isV (.int .i64 k), isT 40, isRow g al4 9 4, isV (.pointer (some ⟨g, 0, none⟩)), isI 0 3, isAt g (isT 4), isT 4, isT 44, isV (.string A), isV (.int .i64 k), isV (.pointer (some ⟨g, 0, none⟩)), isI 0 1, isI 0 A.size, isT 40, isT 84, isV (.string A), isT 84]
theorem alF_st (g : Nat) (A : ByteArray) (k : Nat) : ∀ f ∈ alF g A k, Stable g f := by
  intro f hf
  simp only [alF, List.mem_cons, List.not_mem_nil, or_false] at hf
  rcases hf with rfl | rfl | rfl | rfl | rfl | rfl | rfl | rfl | rfl | rfl | rfl | rfl | rfl | rfl | rfl | rfl | rfl | rfl | rfl
  all_goals first | exact isV_st _ _ | exact isT_st _ _ | exact isI_st _ _ _ | exact isRow_st _ _ _ _ | exact isAt_st _ _ (isT_st _ _)

set_option maxHeartbeats 2000000 in
theorem spec_l20Alike_c (g p : Nat) (l : List Int) (n : Int) (w : World) (h : Reader w g l p) (hp : p ≤ 1099511627) (hn0 : 0 ≤ n) (hn9 : n ≤ 1000000) :
    Calls Try.prog 32 #[.pointer (some ⟨g, 0, none⟩), .int .i64 n] w (Two 100 w g l p) := by
  go_enter Try.func32, Try.ntmps32
  go_wp2_with fail
  refine (spec_l20Long_c g p l n _ h (by omega) hn0 hn9).mono ?_
  rintro e w1 ⟨A, p1, rfl, hA, hp1, r1, g1⟩
  have R1 := hid r1
  have G1 := hid g1
  clear r1 g1 h
  go_wp2_with fail
  refine (spec_pick_c g p1 l 4 _ R1.out (by omega)).mono ?_
  rintro e w2 ⟨x, rfl, x0, _, _, r2, g2⟩
  have R2 := hid r2
  have G2 := hid (G1.out.trans g2)
  clear r2 g2
  have hway : (x == 0) = true ∨ ((x == 0) = false ∧ 40 < A.size) ∨ ((x == 0) = false ∧ A.size ≤ 40 ∧ A.size = 0) ∨ ((x == 0) = false ∧ A.size ≤ 40 ∧ 0 < A.size) := by
    by_cases hx : x = 0
    · exact .inl (by simp [hx])
    · right
      have : (x == 0) = false := by simp [hx]
      by_cases h1 : 40 < A.size
      · exact .inl ⟨this, h1⟩
      · right
        by_cases h2 : A.size = 0
        · exact .inl ⟨this, by omega, h2⟩
        · exact .inr ⟨this, by omega, by omega⟩
  rcases hway with hx | ⟨hx, h1⟩ | ⟨hx, h1, h2⟩ | ⟨hx, h1, h2⟩
  · go_wp2_with fail
    refine (spec_l20Long_c g _ l n _ R2.out (by omega) hn0 hn9).mono ?_
    rintro e w3 ⟨B, p3, rfl, hB, hp3, r3, g3⟩
    have R3 := hid r3
    have G3 := hid (G2.out.trans g3)
    clear r3 g3
    go_wp2
    go_ret2
    exact ⟨_, _, p3, rfl, hA, hB, by omega, R3.out, G3.out⟩
  · go_wp2_with fail
    refine (spec_l20Long_c g _ l n _ R2.out (by omega) hn0 hn9).mono ?_
    rintro e w3 ⟨B, p3, rfl, hB, hp3, r3, g3⟩
    have R3 := hid r3
    have G3 := hid (G2.out.trans g3)
    clear r3 g3
    go_wp2
    go_ret2
    exact ⟨_, _, p3, rfl, hA, hB, by omega, R3.out, G3.out⟩
  · go_wp2_with fail
    refine (spec_l20Long_c g _ l n _ R2.out (by omega) hn0 hn9).mono ?_
    rintro e w3 ⟨B, p3, rfl, hB, hp3, r3, g3⟩
    have R3 := hid r3
    have G3 := hid (G2.out.trans g3)
    clear r3 g3
    go_wp2
    go_ret2
    exact ⟨_, _, p3, rfl, hA, hB, by omega, R3.out, G3.out⟩
  · have f1 : decide ((40 : Int) < (A.size : Int)) = false := by simp; omega
    have f2 : ((A.size : Int) == 0) = false := beq_eq_false_iff_ne.2 (by omega)
    go_wp2_with fail
    refine (spec_pick_c g (p1 + 1) l A.size _ R2.out (by omega)).mono ?_
    rintro e w3 ⟨x', rfl, y0, y3, _, r3, g3⟩
    have h2' : (1 : Int) ≤ (A.size : Int) := by omega
    have y3' := y3 h2'
    obtain ⟨k, rfl⟩ : ∃ k : Nat, x' = k := ⟨x'.toNat, by omega⟩
    have hkA : k ≤ A.size := by omega
    have R3 := hid r3
    have G3 := hid (G2.out.trans g3)
    clear r3 g3 y3
    go_wp2
    refine wp_region_inv rfl (by kernel_rfl) (by kernel_rfl) (by simp) (fun n w' => RJ w3 g l (p1 + 1 + 1) n w') (fun w' w'' => w'.grownBy w'' (some g)) (fact (alF g A k)) ⟨_, Nat.le_refl _, R3.out, gb_drew (World.grownBy.refl _ _)⟩ (fun i v w w' hS hf => fact_st (alF_st g A k) i v w w' hS hf) ?_ ?_
    · intro i o hi n a w4 hn hj hb hd
      have hn' : n < 19 := hn
      obtain ⟨hlt, rfl⟩ := Array.getElem?_eq_some_iff.1 hi
      have hlt' : i < 19 := hlt
      clear hi
      obtain rfl | rfl | rfl | rfl | rfl | rfl | rfl | rfl | rfl | rfl | rfl | rfl | rfl | rfl | rfl | rfl | rfl | rfl | rfl : i = 0 ∨ i = 1 ∨ i = 2 ∨ i = 3 ∨ i = 4 ∨ i = 5 ∨ i = 6 ∨ i = 7 ∨ i = 8 ∨ i = 9 ∨ i = 10 ∨ i = 11 ∨ i = 12 ∨ i = 13 ∨ i = 14 ∨ i = 15 ∨ i = 16 ∨ i = 17 ∨ i = 18 := by omega
      · have b6 : a.eval (.tmp 6) = .string A := hb 6 (by rfl)
        exact iv_val (v := .string A) (by simp [execOp, b6]) ⟨_, rfl, hj.step rfl, World.grownBy.refl _ _, rfl⟩
      · have b6 : a.eval (.tmp 6) = .string A := hb 6 (by rfl)
        exact iv_val (v := .string A) (by simp [execOp, b6]) ⟨_, rfl, hj.step rfl, World.grownBy.refl _ _, rfl⟩
      · have b7 : a.eval (.tmp 7) = .int .i64 k := hb 7 (by rfl)
        exact iv_val (v := .int .i64 k) (by simp [execOp, b7]) ⟨_, rfl, hj.step rfl, World.grownBy.refl _ _, rfl⟩
      · have v1 : a.eval (.tmp 33) = .string A := hd ⟨1, .data⟩ (by simp) rfl; have u1 := ev_get v1
        have v2 : a.eval (.tmp 34) = .int .i64 k := hd ⟨2, .data⟩ (by simp) rfl; have u2 := ev_get v2
        exact iv_val (v := .string (A.extract 0 k)) (by simp [execOp, u1, u2, hkA, go_sem, Result.andThen]) ⟨_, rfl, hj.step rfl, World.grownBy.refl _ _, (show isT 40 _ w4 from ⟨_, rfl, by rw [ByteArray.size_extract]; omega⟩)⟩
      · exact iv_val (v := .slice (some ⟨w4.heap.size, 0, none⟩) 4 4) (w' := w4.alloc (.cells al4 9)) (by simp [execOp, go_sem, Result.andThen, al4]) ⟨_, rfl, hj.alloc _, World.grownBy_alloc _ _ _, (show isRow g al4 9 4 _ _ from ⟨_, rfl, hj.ne, heap_alloc_new _ _⟩)⟩
      · have b0 : a.eval (.tmp 0) = .pointer (some ⟨g, 0, none⟩) := hb 0 (by rfl)
        exact iv_val (v := .pointer (some ⟨g, 0, none⟩)) (by simp [execOp, b0]) ⟨_, rfl, hj.step rfl, World.grownBy.refl _ _, rfl⟩
      · have v5 : a.eval (.tmp 37) = .pointer (some ⟨g, 0, none⟩) := hd ⟨5, .data⟩ (by simp) rfl; have u5 := ev_get v5
        obtain ⟨p', hp', hr, hg⟩ := hj
        refine iv_enter (f := 36) (args := #[.pointer (some ⟨g, 0, none⟩), .int .i64 4]) (by simp [execOp, u5, go_sem]) ?_
        refine (spec_pick_c g p' l 4 _ hr (by omega)).mono ?_
        rintro e w5 ⟨x, rfl, y0, y3, _, r5, g5⟩
        have y3' := y3 (by omega)
        exact ⟨_, rfl, _, rfl, ⟨p' + 1, by omega, r5, hg.trans g5⟩, g5, (show isI 0 3 _ w5 from ⟨x, rfl, by omega, by omega⟩)⟩
      · have e4 : isRow g al4 9 4 (a.eval (.tmp 36)) w4 := hd ⟨4, .data⟩ (by simp) rfl
        obtain ⟨b, v4, hb4, hh4⟩ := e4
        have u4 := ev_get v4
        have e6 : isI 0 3 (a.eval (.tmp 38)) w4 := hd ⟨6, .data⟩ (by simp) rfl
        obtain ⟨x6, v6, lo6, hi6⟩ := e6
        have u6 := ev_get v6
        obtain ⟨j, rfl⟩ : ∃ j : Nat, x6 = j := ⟨x6.toNat, by omega⟩
        have hj4 : j < 4 := by omega
        have hj5 : (j : Int) < 4 := by omega
        obtain ⟨s, hs, _, h0, _, _⟩ := str_cell (B := 4) (t := 9) (cs := al4) (by rfl) hj4
        exact iv_val (v := .pointer (some ⟨b, j, none⟩)) (by simp [execOp, u4, u6, hj5, go_sem, Result.andThen]) ⟨_, rfl, hj.step rfl, World.grownBy.refl _ _, (show isAt g (isT 4) _ _ from ⟨_, _, _, rfl, hb4, h0 _ _ hh4, s, rfl, hs⟩)⟩
      · have e7 : isAt g (isT 4) (a.eval (.tmp 39)) w4 := hd ⟨7, .data⟩ (by simp) rfl
        obtain ⟨b, i, u, v7, hb7, hc7, s, rfl, hs⟩ := e7
        have u7 := ev_get v7
        exact iv_val (v := .string s) (by simp [execOp, u7, hc7, go_sem, Result.andThen]) ⟨_, rfl, hj.step rfl, World.grownBy.refl _ _, (show isT 4 _ w4 from ⟨s, rfl, hs⟩)⟩
      · have e3 : isT 40 (a.eval (.tmp 35)) w4 := hd ⟨3, .data⟩ (by simp) rfl
        obtain ⟨s3, v3, hs3⟩ := e3; have u3 := ev_get v3
        have e8 : isT 4 (a.eval (.tmp 40)) w4 := hd ⟨8, .data⟩ (by simp) rfl
        obtain ⟨s8, v8, hs8⟩ := e8; have u8 := ev_get v8
        have hno : ¬ (9223372036854775807 < s3.size + s8.size) := by omega
        exact iv_val (v := .string (s3 ++ s8)) (by simp [execOp, u3, u8, hno, go_sem, Result.andThen]) ⟨_, rfl, hj.step rfl, World.grownBy.refl _ _, (show isT 44 _ w4 from ⟨_, rfl, by rw [ByteArray.size_append]; omega⟩)⟩
      · have b6 : a.eval (.tmp 6) = .string A := hb 6 (by rfl)
        exact iv_val (v := .string A) (by simp [execOp, b6]) ⟨_, rfl, hj.step rfl, World.grownBy.refl _ _, rfl⟩
      · have b7 : a.eval (.tmp 7) = .int .i64 k := hb 7 (by rfl)
        exact iv_val (v := .int .i64 k) (by simp [execOp, b7]) ⟨_, rfl, hj.step rfl, World.grownBy.refl _ _, rfl⟩
      · have b0 : a.eval (.tmp 0) = .pointer (some ⟨g, 0, none⟩) := hb 0 (by rfl)
        exact iv_val (v := .pointer (some ⟨g, 0, none⟩)) (by simp [execOp, b0]) ⟨_, rfl, hj.step rfl, World.grownBy.refl _ _, rfl⟩
      · have v12 : a.eval (.tmp 44) = .pointer (some ⟨g, 0, none⟩) := hd ⟨12, .data⟩ (by simp) rfl; have u12 := ev_get v12
        obtain ⟨p', hp', hr, hg⟩ := hj
        refine iv_enter (f := 36) (args := #[.pointer (some ⟨g, 0, none⟩), .int .i64 2]) (by simp [execOp, u12, go_sem]) ?_
        refine (spec_pick_c g p' l 2 _ hr (by omega)).mono ?_
        rintro e w5 ⟨x, rfl, y0, y3, _, r5, g5⟩
        have y3' := y3 (by omega)
        exact ⟨_, rfl, _, rfl, ⟨p' + 1, by omega, r5, hg.trans g5⟩, g5, (show isI 0 1 _ w5 from ⟨x, rfl, by omega, by omega⟩)⟩
      · have v11 : a.eval (.tmp 43) = .int .i64 k := hd ⟨11, .data⟩ (by simp) rfl; have u11 := ev_get v11
        have e13 : isI 0 1 (a.eval (.tmp 45)) w4 := hd ⟨13, .data⟩ (by simp) rfl
        obtain ⟨x13, v13, lo13, hi13⟩ := e13
        have u13 := ev_get v13
        have hno : IntKind.i64.wrap ((k : Int) + x13) = k + x13 := IntWalk.i64_in _ (by omega)
        exact iv_val (v := .int .i64 (k + x13)) (by simp [execOp, u11, u13, hno, go_sem]) ⟨_, rfl, hj.step rfl, World.grownBy.refl _ _, (show isI 0 A.size _ w4 from ⟨_, rfl, by omega, by omega⟩)⟩
      · have v10 : a.eval (.tmp 42) = .string A := hd ⟨10, .data⟩ (by simp) rfl; have u10 := ev_get v10
        have e14 : isI 0 A.size (a.eval (.tmp 46)) w4 := hd ⟨14, .data⟩ (by simp) rfl
        obtain ⟨x14, v14, lo14, hi14⟩ := e14
        have u14 := ev_get v14
        obtain ⟨j, rfl⟩ : ∃ j : Nat, x14 = j := ⟨x14.toNat, by omega⟩
        have hjA : j ≤ A.size := by omega
        exact iv_val (v := .string (A.extract j A.size)) (by simp [execOp, u10, u14, hjA, go_sem, Result.andThen]) ⟨_, rfl, hj.step rfl, World.grownBy.refl _ _, (show isT 40 _ w4 from ⟨_, rfl, by rw [ByteArray.size_extract]; omega⟩)⟩
      · have e9 : isT 44 (a.eval (.tmp 41)) w4 := hd ⟨9, .data⟩ (by simp) rfl
        obtain ⟨s9, v9, hs9⟩ := e9; have u9 := ev_get v9
        have e15 : isT 40 (a.eval (.tmp 47)) w4 := hd ⟨15, .data⟩ (by simp) rfl
        obtain ⟨s15, v15, hs15⟩ := e15; have u15 := ev_get v15
        have hno : ¬ (9223372036854775807 < s9.size + s15.size) := by omega
        exact iv_val (v := .string (s9 ++ s15)) (by simp [execOp, u9, u15, hno, go_sem, Result.andThen]) ⟨_, rfl, hj.step rfl, World.grownBy.refl _ _, (show isT 84 _ w4 from ⟨_, rfl, by rw [ByteArray.size_append]; omega⟩)⟩
      · have v0 : a.eval (.tmp 32) = .string A := hd ⟨0, .data⟩ (by simp) rfl; have u0 := ev_get v0
        exact iv_val (v := .string A) (by simp [execOp, v0]) ⟨_, rfl, hj.step rfl, World.grownBy.refl _ _, rfl⟩
      · have e16 : isT 84 (a.eval (.tmp 48)) w4 := hd ⟨16, .data⟩ (by simp) rfl
        exact iv_val (v := a.eval (.tmp 48)) (by simp [execOp]) ⟨_, rfl, hj.step rfl, World.grownBy.refl _ _, e16⟩
    · rintro ⟨tm, df⟩ w4 hj hsz hdf hb hF
      obtain rfl : df = [] := hdf
      have q4 : tm.getD 4 undef = .string A := hF 17 _ rfl
      obtain ⟨B, q5, hB⟩ : isT 84 (tm.getD 5 undef) w4 := hF 18 _ rfl
      obtain ⟨p', hp', hr, hg⟩ := hj
      have hp'' : p' ≤ p1 + 1 + 1 + 19 := hp'
      have HR := hid hr
      have HG := hid (G3.out.trans hg)
      clear hr hg hF hb hp'
      go_wp2
      go_ret2
      refine ⟨A, B, p', ?_, hA, by omega, by omega, HR.out, HG.out⟩
      rw [q4, q5]

end Go.Proofs.Ytdfkiphdieoaaaa
