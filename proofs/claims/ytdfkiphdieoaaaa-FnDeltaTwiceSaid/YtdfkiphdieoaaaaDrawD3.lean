/- Walks: drawn deltas. -/
import Derived.Test.YtdfkiphdieoaaaaDrawT2
import Derived.Test.YtdfkiphdieoaaaaDeltaL
import Derived.Test.YtdfkiphdieoaaaaInvT
namespace Go.Proofs.Ytdfkiphdieoaaaa
open Go.RowKit

/-- A text and a delta. -/
def TextDelta (w : World) (e : Ending) (w' : World) : Prop := ∃ (A s : ByteArray) (x y : Int), e = .returned (.tuple #[.string A, dv x y s]) ∧ A.size ≤ 100 ∧ s.size ≤ 100 ∧ Below w.heap.size w w'
def isD : Value → World → Prop := fun v _ => ∃ (x y : Int) (s : ByteArray), v = dv x y s ∧ s.size ≤ 1
def ad3 : Array Value := #[.string ⟨#[]⟩, .string ⟨#[120]⟩, .string ⟨#[10]⟩]
def adF (g : Nat) (A : ByteArray) : List (Value → World → Prop) :=
  [isV (.string A), isV (.pointer (some ⟨g, 0, none⟩)), isI 0 5, isV (.pointer (some ⟨g, 0, none⟩)), isI 0 8, isI 0 1, isI (-1) 5, isV (.pointer (some ⟨g, 0, none⟩)), isI 0 5, isV (.pointer (some ⟨g, 0, none⟩)), isI 0 8, isI 0 1, isI (-1) 5, isRow g ad3 9 3, isV (.pointer (some ⟨g, 0, none⟩)), isI 0 2, isAt g (isT 1), isT 1, isD, isV (.string A)]
theorem adF_st (g : Nat) (A : ByteArray) : ∀ f ∈ adF g A, Stable g f := by
  intro f hf
  simp only [adF, List.mem_cons, List.not_mem_nil, or_false] at hf
  rcases hf with rfl | rfl | rfl | rfl | rfl | rfl | rfl | rfl | rfl | rfl | rfl | rfl | rfl | rfl | rfl | rfl | rfl | rfl | rfl | rfl
  all_goals first | exact isV_st _ _ | exact isT_st _ _ | exact isI_st _ _ _ | exact isRow_st _ _ _ _ | exact isAt_st _ _ (isT_st _ _) | exact fun _ _ _ _ h => h

theorem deltaOf_dv' (a b : ByteArray) : ∃ (h t : Int) (p : ByteArray) (o : Bool), deltaOf a b = (dv h t p, o) ∧ p.size ≤ b.size := by
  unfold deltaOf
  split
  · exact ⟨_, _, _, _, rfl, by rw [ByteArray.size_extract]; omega⟩
  · exact ⟨_, _, _, _, rfl, Nat.zero_le _⟩

set_option maxHeartbeats 2000000 in
theorem spec_DrawApplyDelta_c (v : Value) (l : List Int) (w : World) (h : Rd encU 1 w w.heap.size v l) (hl : ∀ x ∈ l, 0 ≤ x ∧ x ≤ 255) :
    Calls Try.prog 27 #[v] w (TextDelta w) := by
  go_enter Try.func27, Try.ntmps27
  go_wp2_with fail
  refine (spec_l20Open_c v l _ ((h.below ((Below.refl w.heap.size w).alloc (Nat.le_refl _) _) (Nat.le_refl _)).more (by simp)) hl).mono ?_
  rintro e w1 ⟨l', rfl, r1, b1⟩
  have hh1 := (b1.block w.heap.size (by simp)).trans (heap_alloc_new w _)
  have c1 := bl_then ((Below.refl w.heap.size w).alloc (Nat.le_refl _) (.cells #[.int .i64 0, .int .i64 0, .string ⟨#[]⟩] 27)) b1
  obtain ⟨g, hgd⟩ : ∃ g, g = w.heap.size + 1 := ⟨_, rfl⟩
  rw [show (w.alloc (.cells #[.int .i64 0, .int .i64 0, .string ⟨#[]⟩] 27)).heap.size = g by rw [hgd]; simp] at r1 ⊢
  have hwg : w.heap.size < g := by omega
  have hcg : w.heap.size ≤ g := by omega
  clear hgd b1 h hl
  go_wp2_with fail
  refine (spec_l20Alike_c g 0 l' 14 _ r1 (by omega) (by omega) (by omega)).mono ?_
  rintro e w2 ⟨A, B, p2, rfl, hA, hB, hp2, r2, g2⟩
  have hh2 := (g2.block w.heap.size (Array.getElem?_eq_some_iff.1 hh1).1 (some_ne (by omega))).trans hh1
  have c2 : Below w.heap.size w w2 := c1.grown g2 c1.size (by simp; omega)
  clear c1 g2 hh1 r1
  obtain ⟨x, y, s, o, hd, hs⟩ := deltaOf_dv' A B
  have HD := hid hd
  clear hd
  go_wp2_with fail
  refine (spec_DeltaOf_c A B _ (by omega) (by omega)).mono ?_
  rw [HD.out]
  rintro e w3 ⟨rfl, b3⟩
  have hh3 := (b3.block w.heap.size (Array.getElem?_eq_some_iff.1 hh2).1).trans hh2
  have c3 := bl_then c2 b3
  have r3 := r2.on b3
  clear c2 b3 hh2 r2
  go_wp2_with fail
  refine (spec_odd_c g p2 l' 3 _ (r3.alloc _) (by omega) (by omega) (by omega)).mono ?_
  rintro e w4 ⟨z, p4, rfl, _, hp4, r4, g4⟩
  have hw3 : w.heap.size < w3.heap.size := (Array.getElem?_eq_some_iff.1 hh3).1
  have hg3 : g < w3.heap.size := r3.lt
  have hh4 := (g4.block w.heap.size (by simp; omega) (some_ne (by omega))).trans ((Below.heap_alloc w3 _ _ hw3).trans hh3)
  have hh5 := (g4.block w3.heap.size (by simp) (some_ne (by omega))).trans (heap_alloc_new w3 _)
  have c4 : Below w.heap.size w w4 := (c3.alloc c3.size _).grown g4 (by simp; omega) (by simp; omega)
  have hw4 : w3.heap.size < w4.heap.size := (Array.getElem?_eq_some_iff.1 hh5).1
  have R4 := hid r4
  clear g4 r4 r3 c3 hh3
  cases z
  · obtain ⟨k0, k1, k2, f0, f1, f2⟩ := three_cells hh4
    obtain ⟨d0, d1, d2, _, _, _⟩ := three_cells hh5
    clear hh4 hh5
    go_wp2
    go_region
    all_goals
      go_wp2
      obtain ⟨q0, q1, q2⟩ := set3 (x' := .int .i64 x) (y' := .int .i64 y) (z' := .string s) k0 k1 k2
      have t0 := (World.cell?_drew _ _).trans q0
      have t1 := (World.cell?_drew _ _).trans q1
      have t2 := (World.cell?_drew _ _).trans q2
      refine bodyPost_ret (v := .tuple #[.string A, dv x y s]) (by simp [results, Try.results27, go_sem, t0, t1, t2]; try rfl) rfl ?_
      refine ⟨A, s, x, y, rfl, hA, by omega, Below.drew (Below.setCell (Below.setCell (Below.setCell c4 ?_ _) ?_ _) ?_ _)⟩ <;> exact Nat.le_refl _
  · go_wp2
    refine wp_region_inv_tail 20 (by simp) (by kernel_rfl) (by kernel_rfl) (by kernel_rfl) rfl (by kernel_rfl) (by kernel_rfl) (by simp) (fun n w' => RJ w4 g l' p4 n w') (fun w' w'' => w'.grownBy w'' (some g)) (fact (adF g A)) ⟨_, Nat.le_refl _, R4.out, gb_drew (World.grownBy.refl _ _)⟩ (fun i v w w' hS hf => fact_st (adF_st g A) i v w w' hS hf) ?_ ?_
    · intro i o hiN hi n a w4 hn hj hb hd
      have hn' : n < 20 := hn
      obtain ⟨hlt, rfl⟩ := Array.getElem?_eq_some_iff.1 hi
      have hlt' : i < 20 := hiN
      clear hi
      obtain rfl | rfl | rfl | rfl | rfl | rfl | rfl | rfl | rfl | rfl | rfl | rfl | rfl | rfl | rfl | rfl | rfl | rfl | rfl | rfl : i = 0 ∨ i = 1 ∨ i = 2 ∨ i = 3 ∨ i = 4 ∨ i = 5 ∨ i = 6 ∨ i = 7 ∨ i = 8 ∨ i = 9 ∨ i = 10 ∨ i = 11 ∨ i = 12 ∨ i = 13 ∨ i = 14 ∨ i = 15 ∨ i = 16 ∨ i = 17 ∨ i = 18 ∨ i = 19 := by omega
      · have b5 : a.eval (.tmp 5) = .string A := hb 5 (by rfl)
        exact iv_val (v := .string A) (by simp [execOp, b5]) ⟨_, rfl, hj.step rfl, World.grownBy.refl _ _, rfl⟩
      · have b4 : a.eval (.tmp 4) = .pointer (some ⟨g, 0, none⟩) := hb 4 (by rfl)
        exact iv_val (v := .pointer (some ⟨g, 0, none⟩)) (by simp [execOp, b4]) ⟨_, rfl, hj.step rfl, World.grownBy.refl _ _, rfl⟩
      · have v1 : a.eval (.tmp 25) = .pointer (some ⟨g, 0, none⟩) := hd ⟨1, .data⟩ (by simp) rfl; have u1 := ev_get v1
        obtain ⟨p', hp', hr, hg⟩ := hj
        refine iv_enter (f := 36) (args := #[.pointer (some ⟨g, 0, none⟩), .int .i64 6]) (by simp [execOp, u1, go_sem]) ?_
        refine (spec_pick_c g p' l' 6 _ hr (by omega)).mono ?_
        rintro e w5 ⟨x, rfl, y0, y3, _, r5, g5⟩
        have y3' := y3 (by omega)
        exact ⟨_, rfl, _, rfl, ⟨p' + 1, by omega, r5, hg.trans g5⟩, g5, (show isI 0 5 _ w5 from ⟨x, rfl, by omega, by omega⟩)⟩
      · have b4 : a.eval (.tmp 4) = .pointer (some ⟨g, 0, none⟩) := hb 4 (by rfl)
        exact iv_val (v := .pointer (some ⟨g, 0, none⟩)) (by simp [execOp, b4]) ⟨_, rfl, hj.step rfl, World.grownBy.refl _ _, rfl⟩
      · have v3 : a.eval (.tmp 27) = .pointer (some ⟨g, 0, none⟩) := hd ⟨3, .data⟩ (by simp) rfl; have u3 := ev_get v3
        obtain ⟨p', hp', hr, hg⟩ := hj
        refine iv_enter (f := 36) (args := #[.pointer (some ⟨g, 0, none⟩), .int .i64 9]) (by simp [execOp, u3, go_sem]) ?_
        refine (spec_pick_c g p' l' 9 _ hr (by omega)).mono ?_
        rintro e w5 ⟨x, rfl, y0, y3, _, r5, g5⟩
        have y3' := y3 (by omega)
        exact ⟨_, rfl, _, rfl, ⟨p' + 1, by omega, r5, hg.trans g5⟩, g5, (show isI 0 8 _ w5 from ⟨x, rfl, by omega, by omega⟩)⟩
      · have e4 : isI 0 8 (a.eval (.tmp 28)) w4 := hd ⟨4, .data⟩ (by simp) rfl
        obtain ⟨x4, v4, lo4, hi4⟩ := e4
        have u4 := ev_get v4
        have hq0 : 0 ≤ x4.tdiv 8 ∧ x4.tdiv 8 ≤ 1 := ⟨Int.tdiv_nonneg lo4 (by omega), by rw [Int.tdiv_eq_ediv_of_nonneg lo4]; omega⟩
        obtain ⟨hq1, hq2⟩ := hq0
        have hq : IntKind.i64.wrap (x4.tdiv 8) = x4.tdiv 8 := IntWalk.i64_in _ (by omega)
        exact iv_val (v := .int .i64 (x4.tdiv 8)) (by simp [execOp, u4, hq, go_sem]) ⟨_, rfl, hj.step rfl, World.grownBy.refl _ _, (show isI 0 1 _ w4 from ⟨_, rfl, hq1, hq2⟩)⟩
      · have e2 : isI 0 5 (a.eval (.tmp 26)) w4 := hd ⟨2, .data⟩ (by simp) rfl
        obtain ⟨x2, v2, lo2, hi2⟩ := e2
        have u2 := ev_get v2
        have e5 : isI 0 1 (a.eval (.tmp 29)) w4 := hd ⟨5, .data⟩ (by simp) rfl
        obtain ⟨x5, v5, lo5, hi5⟩ := e5
        have u5 := ev_get v5
        have hno : IntKind.i64.wrap (x2 - x5) = x2 - x5 := IntWalk.i64_in _ (by omega)
        exact iv_val (v := .int .i64 (x2 - x5)) (by simp [execOp, u2, u5, hno, go_sem]) ⟨_, rfl, hj.step rfl, World.grownBy.refl _ _, (show isI (-1) 5 _ w4 from ⟨_, rfl, by omega, by omega⟩)⟩
      · have b4 : a.eval (.tmp 4) = .pointer (some ⟨g, 0, none⟩) := hb 4 (by rfl)
        exact iv_val (v := .pointer (some ⟨g, 0, none⟩)) (by simp [execOp, b4]) ⟨_, rfl, hj.step rfl, World.grownBy.refl _ _, rfl⟩
      · have v7 : a.eval (.tmp 31) = .pointer (some ⟨g, 0, none⟩) := hd ⟨7, .data⟩ (by simp) rfl; have u7 := ev_get v7
        obtain ⟨p', hp', hr, hg⟩ := hj
        refine iv_enter (f := 36) (args := #[.pointer (some ⟨g, 0, none⟩), .int .i64 6]) (by simp [execOp, u7, go_sem]) ?_
        refine (spec_pick_c g p' l' 6 _ hr (by omega)).mono ?_
        rintro e w5 ⟨x, rfl, y0, y3, _, r5, g5⟩
        have y3' := y3 (by omega)
        exact ⟨_, rfl, _, rfl, ⟨p' + 1, by omega, r5, hg.trans g5⟩, g5, (show isI 0 5 _ w5 from ⟨x, rfl, by omega, by omega⟩)⟩
      · have b4 : a.eval (.tmp 4) = .pointer (some ⟨g, 0, none⟩) := hb 4 (by rfl)
        exact iv_val (v := .pointer (some ⟨g, 0, none⟩)) (by simp [execOp, b4]) ⟨_, rfl, hj.step rfl, World.grownBy.refl _ _, rfl⟩
      · have v9 : a.eval (.tmp 33) = .pointer (some ⟨g, 0, none⟩) := hd ⟨9, .data⟩ (by simp) rfl; have u9 := ev_get v9
        obtain ⟨p', hp', hr, hg⟩ := hj
        refine iv_enter (f := 36) (args := #[.pointer (some ⟨g, 0, none⟩), .int .i64 9]) (by simp [execOp, u9, go_sem]) ?_
        refine (spec_pick_c g p' l' 9 _ hr (by omega)).mono ?_
        rintro e w5 ⟨x, rfl, y0, y3, _, r5, g5⟩
        have y3' := y3 (by omega)
        exact ⟨_, rfl, _, rfl, ⟨p' + 1, by omega, r5, hg.trans g5⟩, g5, (show isI 0 8 _ w5 from ⟨x, rfl, by omega, by omega⟩)⟩
      · have e10 : isI 0 8 (a.eval (.tmp 34)) w4 := hd ⟨10, .data⟩ (by simp) rfl
        obtain ⟨x10, v10, lo10, hi10⟩ := e10
        have u10 := ev_get v10
        have hq0 : 0 ≤ x10.tdiv 8 ∧ x10.tdiv 8 ≤ 1 := ⟨Int.tdiv_nonneg lo10 (by omega), by rw [Int.tdiv_eq_ediv_of_nonneg lo10]; omega⟩
        obtain ⟨hq1, hq2⟩ := hq0
        have hq : IntKind.i64.wrap (x10.tdiv 8) = x10.tdiv 8 := IntWalk.i64_in _ (by omega)
        exact iv_val (v := .int .i64 (x10.tdiv 8)) (by simp [execOp, u10, hq, go_sem]) ⟨_, rfl, hj.step rfl, World.grownBy.refl _ _, (show isI 0 1 _ w4 from ⟨_, rfl, hq1, hq2⟩)⟩
      · have e8 : isI 0 5 (a.eval (.tmp 32)) w4 := hd ⟨8, .data⟩ (by simp) rfl
        obtain ⟨x8, v8, lo8, hi8⟩ := e8
        have u8 := ev_get v8
        have e11 : isI 0 1 (a.eval (.tmp 35)) w4 := hd ⟨11, .data⟩ (by simp) rfl
        obtain ⟨x11, v11, lo11, hi11⟩ := e11
        have u11 := ev_get v11
        have hno : IntKind.i64.wrap (x8 - x11) = x8 - x11 := IntWalk.i64_in _ (by omega)
        exact iv_val (v := .int .i64 (x8 - x11)) (by simp [execOp, u8, u11, hno, go_sem]) ⟨_, rfl, hj.step rfl, World.grownBy.refl _ _, (show isI (-1) 5 _ w4 from ⟨_, rfl, by omega, by omega⟩)⟩
      · exact iv_val (v := .slice (some ⟨w4.heap.size, 0, none⟩) 3 3) (w' := w4.alloc (.cells ad3 9)) (by simp [execOp, go_sem, Result.andThen, ad3]) ⟨_, rfl, hj.alloc _, World.grownBy_alloc _ _ _, (show isRow g ad3 9 3 _ _ from ⟨_, rfl, hj.ne, heap_alloc_new _ _⟩)⟩
      · have b4 : a.eval (.tmp 4) = .pointer (some ⟨g, 0, none⟩) := hb 4 (by rfl)
        exact iv_val (v := .pointer (some ⟨g, 0, none⟩)) (by simp [execOp, b4]) ⟨_, rfl, hj.step rfl, World.grownBy.refl _ _, rfl⟩
      · have v14 : a.eval (.tmp 38) = .pointer (some ⟨g, 0, none⟩) := hd ⟨14, .data⟩ (by simp) rfl; have u14 := ev_get v14
        obtain ⟨p', hp', hr, hg⟩ := hj
        refine iv_enter (f := 36) (args := #[.pointer (some ⟨g, 0, none⟩), .int .i64 3]) (by simp [execOp, u14, go_sem]) ?_
        refine (spec_pick_c g p' l' 3 _ hr (by omega)).mono ?_
        rintro e w5 ⟨x, rfl, y0, y3, _, r5, g5⟩
        have y3' := y3 (by omega)
        exact ⟨_, rfl, _, rfl, ⟨p' + 1, by omega, r5, hg.trans g5⟩, g5, (show isI 0 2 _ w5 from ⟨x, rfl, by omega, by omega⟩)⟩
      · have e13 : isRow g ad3 9 3 (a.eval (.tmp 37)) w4 := hd ⟨13, .data⟩ (by simp) rfl
        obtain ⟨b, v13, hb4, hh4⟩ := e13
        have u13 := ev_get v13
        have e15 : isI 0 2 (a.eval (.tmp 39)) w4 := hd ⟨15, .data⟩ (by simp) rfl
        obtain ⟨x15, v15, lo15, hi15⟩ := e15
        have u15 := ev_get v15
        obtain ⟨j, rfl⟩ : ∃ j : Nat, x15 = j := ⟨x15.toNat, by omega⟩
        have hj4 : j < 3 := by omega
        have hj5 : (j : Int) < 3 := by omega
        obtain ⟨s, hs, _, h0, _, _⟩ := str_cell (B := 1) (t := 9) (cs := ad3) (by rfl) hj4
        exact iv_val (v := .pointer (some ⟨b, j, none⟩)) (by simp [execOp, u13, u15, hj5, go_sem, Result.andThen]) ⟨_, rfl, hj.step rfl, World.grownBy.refl _ _, (show isAt g (isT 1) _ _ from ⟨_, _, _, rfl, hb4, h0 _ _ hh4, s, rfl, hs⟩)⟩
      · have e16 : isAt g (isT 1) (a.eval (.tmp 40)) w4 := hd ⟨16, .data⟩ (by simp) rfl
        obtain ⟨b, i, u, v16, hb7, hc7, s, rfl, hs⟩ := e16
        have u16 := ev_get v16
        exact iv_val (v := .string s) (by simp [execOp, u16, hc7, go_sem, Result.andThen]) ⟨_, rfl, hj.step rfl, World.grownBy.refl _ _, (show isT 1 _ w4 from ⟨s, rfl, hs⟩)⟩
      · have e6 : isI (-1) 5 (a.eval (.tmp 30)) w4 := hd ⟨6, .data⟩ (by simp) rfl
        obtain ⟨x6, v6, lo6, hi6⟩ := e6
        have u6 := ev_get v6
        have e12 : isI (-1) 5 (a.eval (.tmp 36)) w4 := hd ⟨12, .data⟩ (by simp) rfl
        obtain ⟨x12, v12, lo12, hi12⟩ := e12
        have u12 := ev_get v12
        have e17 : isT 1 (a.eval (.tmp 41)) w4 := hd ⟨17, .data⟩ (by simp) rfl
        obtain ⟨s17, v17, hs17⟩ := e17; have u17 := ev_get v17
        exact iv_val (v := dv x6 x12 s17) (by simp [execOp, u6, u12, u17, go_sem, Result.andThen]) ⟨_, rfl, hj.step rfl, World.grownBy.refl _ _, (show isD _ w4 from ⟨_, _, _, rfl, hs17⟩)⟩
      · have v0 : a.eval (.tmp 24) = .string A := hd ⟨0, .data⟩ (by simp) rfl
        exact iv_val (v := .string A) (by simp [execOp, v0]) ⟨_, rfl, hj.step rfl, World.grownBy.refl _ _, rfl⟩
    · rintro ⟨tm, df⟩ w5 hj hsz hdf hb hF
      obtain rfl : df = [] := hdf
      have q2 : tm.getD 2 undef = .string A := hF 19 _ (by omega) rfl
      obtain ⟨x', y', s', q42, hs'⟩ : isD (tm.getD 42 undef) w5 := hF 18 _ (by omega) rfl
      have q3 : tm.getD 3 undef = .pointer (some ⟨w.heap.size, 0, none⟩) := hb 3 (by kernel_rfl)
      obtain ⟨p', hp', hr, hg⟩ := hj
      have hh6 := (hg.block w.heap.size (Array.getElem?_eq_some_iff.1 hh4).1 (some_ne (by omega))).trans hh4
      have c5 : Below w.heap.size w w5 := c4.grown hg c4.size (by simp; omega)
      obtain ⟨k0, k1, k2, f0, f1, f2⟩ := three_cells hh6
      clear hF hb hg hr hsz
      have u3 : tm[3]?.getD undef = .pointer (some ⟨w.heap.size, 0, none⟩) := by rw [← q3]; simp
      have u2 : tm[2]?.getD undef = .string A := by rw [← q2]; simp
      have u42 : tm[42]?.getD undef = dv x' y' s' := by rw [← q42]; simp
      simp only [List.drop_succ_cons, List.drop_zero]
      go_wp2
      obtain ⟨e0, e1, e2⟩ := set3 (x' := .int .i64 x') (y' := .int .i64 y') (z' := .string s') k0 k1 k2
      refine bodyPost_ret (v := .tuple #[.string A, dv x' y' s']) (by simp [results, Try.results27, go_sem, u2, u3, e0, e1, e2]; try rfl) rfl ?_
      refine ⟨A, s', x', y', rfl, hA, by omega, Below.setCell (Below.setCell (Below.setCell c5 ?_ _) ?_ _) ?_ _⟩ <;> exact Nat.le_refl _

end Go.Proofs.Ytdfkiphdieoaaaa
