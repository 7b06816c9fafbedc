/- The exact laws of caches. -/
import Derived.Test.YtnedkfmbeeodfaaExC
namespace Go.Proofs.Ytnedkfmbeeodfaa
open Go.RowKit

def isNew (B : Nat) (m : Int) (xs : List Int) : Value → World → Prop := fun v w => ∃ (a : Option Addr) (n c : Nat), v = cv m (.slice a n c) ∧ OwnI w B (.slice a n c) xs
theorem isNew_gr {B : Nat} {m : Int} {xs : List Int} : Grow (isNew B m xs) := fun _ _ _ hb ⟨a, n, c, hv, ho⟩ => ⟨a, n, c, hv, ho.on hb⟩
theorem newF_gr (x y : Value) (B : Nat) (m : Int) (xs : List Int) : ∀ f ∈ [isV x, isV y, isNew B m xs, isV (.bool true), isV (.bool false)], Grow f := by
  intro f hf
  simp only [List.mem_cons, List.not_mem_nil, or_false] at hf
  rcases hf with rfl | rfl | rfl | rfl | rfl
  all_goals first | exact isV_gr _ | exact isNew_gr

set_option maxHeartbeats 2000000 in
theorem laws_FnExactRunCache_c (m : Int) (v : Value) (ps : List Int) (w : World) (h : Ints w w.heap.size v ps) :
    Calls Try.prog 5 #[.int .i64 m, v] w fun e w' => e = .returned (.bool true) ∧ Below w.heap.size w w' := by
  obtain ⟨n, hn⟩ : ∃ n, ps.length = n := ⟨_, rfl⟩
  obtain ⟨a, c, rfl, _, _, _⟩ := h.ints hn
  by_cases hbig : 1048576 < n
  · clear hn
    go_enter Try.func5, Try.ntmps5
    go_wp2
    go_ret
    exact ⟨rfl, Below.refl _ _⟩
  have hl : ps.length ≤ 1048576 := by omega
  have HL := hid hl
  clear hn
  go_enter Try.func5, Try.ntmps5
  go_wp2_with fail
  refine (laws_toIntS_c _ ps _ h HL.out).mono ?_
  rintro e w1 ⟨p0, rfl, o1, b1⟩
  go_wp2_with fail
  refine (spec_RunCache_c m _ ps _ (Rd.of_own o1) HL.out).mono ?_
  rintro e w2 ⟨rfl, b2⟩
  have c2 := bl_then b1 b2
  go_wp2_with fail
  refine (laws_toIntS_c _ ps _ (h.on c2) HL.out).mono ?_
  rintro e w3 ⟨x0, rfl, o3, b3⟩
  have c3 := bl_then c2 b3
  go_wp2_with fail
  refine (impl_RunCache_c m _ ps _ (Rd.of_own o3)).mono ?_
  rintro e w4 ⟨rfl, b4⟩
  have c4 := bl_then c3 b4
  go_wp2_with fail
  refine (laws_toIntS_c _ ps _ (h.on c4) HL.out).mono ?_
  rintro e w5 ⟨y0, rfl, o5, b5⟩
  have c5 := bl_then c4 b5
  go_wp2_with fail
  refine (laws_eqIntS_b _ _ ps ps _ _ _ ((Rd.of_own (o3.on b4)).on b5) (Rd.of_own o5)).mono ?_
  rintro e w6 ⟨rfl, b6⟩
  have c6 := bl_then c5 b6
  go_wp2
  go_ret
  exact ⟨rfl, c6⟩

set_option maxHeartbeats 2000000 in
theorem laws_FnExactCacheValid_c (m : Int) (v : Value) (xs : List Int) (w : World) (h : Ints w w.heap.size v xs) :
    Calls Try.prog 3 #[cv m v] w fun e w' => e = .returned (.bool true) ∧ Below w.heap.size w w' := by
  obtain ⟨n, hn⟩ : ∃ n, xs.length = n := ⟨_, rfl⟩
  obtain ⟨a, c, rfl, _, _, _⟩ := h.ints hn
  obtain ⟨W0, hW0⟩ : ∃ W0, W0 = w.alloc (.cells #[.int .i64 m, .slice a n c] 24) := ⟨_, rfl⟩
  have b0 : Below w.heap.size w W0 := by rw [hW0]; exact (Below.refl _ _).alloc (Nat.le_refl _) _
  have hh0 : W0.heap[w.heap.size]? = some (.cells #[.int .i64 m, .slice a n c] 24 (0, 0)) := by rw [hW0]; exact heap_alloc_new _ _
  have hsz0 : W0.heap.size = w.heap.size + 1 := by rw [hW0]; simp
  by_cases hbig : 1048576 < n
  · have HI := hid (show (if (1048576 : Int) < xs.length then -1 else 1048576 - (xs.length : Int)) = -1 by rw [if_pos (by omega)])
    clear hn
    go_enter Try.func3, Try.ntmps3
    go_wp2_with fail
    rw [← hW0]
    refine (laws_szCache_c m _ xs 1048576 W0 (h.on b0) (by omega) (by omega)).mono ?_
    rw [HI.out]
    rintro e w1 ⟨rfl, b1⟩
    go_wp2
    go_ret
    exact ⟨rfl, bl_then b0 (b1.mono (by omega))⟩
  have hlx : xs.length ≤ 1048576 := by omega
  have HI := hid (show (if (1048576 : Int) < xs.length then -1 else 1048576 - (xs.length : Int)) = 1048576 - n by rw [if_neg (by omega), hn])
  have hl' : 0 ≤ 1048576 - (n : Int) := by omega
  clear hn
  go_enter Try.func3, Try.ntmps3
  go_wp2_with fail
  rw [← hW0]
  refine (laws_szCache_c m _ xs 1048576 W0 (h.on b0) (by omega) (by omega)).mono ?_
  rw [HI.out]
  rintro e w1 ⟨rfl, b1⟩
  have hh1 := (b1.block w.heap.size (by omega)).trans hh0
  have c1 := bl_then b0 b1
  obtain ⟨_, _, _, _⟩ := two_cells hh1
  clear hW0
  go_wp2_with fail
  refine (laws_toCache_c m _ xs _ (h.on c1) hlx).mono ?_
  rintro e w2 ⟨p0, rfl, o2, b2⟩
  have hh2 := (b2.block w.heap.size (Array.getElem?_eq_some_iff.1 hh1).1).trans hh1
  have c2 := bl_then c1 b2
  go_wp2_with fail
  refine (spec_CacheValid_c m _ xs _ _ (Rd.of_own o2) (Nat.le_refl _)).mono ?_
  rintro e w3 ⟨rfl, b3⟩
  have hh3 := (b3.block w.heap.size (Array.getElem?_eq_some_iff.1 hh2).1).trans hh2
  have c3 := bl_then c2 b3
  obtain ⟨_, _, _, _⟩ := two_cells hh3
  go_wp2_with fail
  refine (laws_toCache_c m _ xs _ (h.on c3) hlx).mono ?_
  rintro e w4 ⟨x0, rfl, o4, b4⟩
  have hh4 := (b4.block w.heap.size (Array.getElem?_eq_some_iff.1 hh3).1).trans hh3
  have c4 := bl_then c3 b4
  obtain ⟨xn, hxn⟩ : ∃ xn, xs.length = xn := ⟨_, rfl⟩
  obtain ⟨xa, xc, rfl, _, _, _⟩ := (Rd.of_own o4).ints hxn
  obtain ⟨W5, hW5⟩ : ∃ W5, W5 = w4.alloc (.cells #[.int .i64 m, .slice xa xn xc] 27) := ⟨_, rfl⟩
  have b5 : Below w4.heap.size w4 W5 := by rw [hW5]; exact (Below.refl _ _).alloc (Nat.le_refl _) _
  have hx5 : W5.heap[w4.heap.size]? = some (.cells #[.int .i64 m, .slice xa xn xc] 27 (0, 0)) := by rw [hW5]; exact heap_alloc_new _ _
  have hh5 := (b5.block w.heap.size (Array.getElem?_eq_some_iff.1 hh4).1).trans hh4
  have c5 := bl_then c4 b5
  go_wp2_with fail
  rw [← hW5]
  refine (impl_CacheValid_c m _ xs _ _ (Rd.of_own (o4.on b5)) (Nat.le_refl _)).mono ?_
  rintro e w6 ⟨rfl, b6⟩
  have hx6 := (b6.block _ (Array.getElem?_eq_some_iff.1 hx5).1).trans hx5
  have hh6 := (b6.block w.heap.size (Array.getElem?_eq_some_iff.1 hh5).1).trans hh5
  have c6 := bl_then c5 b6
  have o6 := (o4.on b5).on b6
  clear hW5
  go_wp2
  refine wp_region_inv3 rfl (by kernel_rfl) (by kernel_rfl) (by kernel_rfl) (by simp) (fun _ w' => Below w6.heap.size w6 w') (fun w' w'' => ∀ i v, fact [isV (cv m (.slice xa xn xc)), isV (cv m (.slice a n c)), isNew w6.heap.size m xs, isV (.bool true), isV (.bool false)] i v w' → fact [isV (cv m (.slice xa xn xc)), isV (cv m (.slice a n c)), isNew w6.heap.size m xs, isV (.bool true), isV (.bool false)] i v w'') (fact [isV (cv m (.slice xa xn xc)), isV (cv m (.slice a n c)), isNew w6.heap.size m xs, isV (.bool true), isV (.bool false)]) (Below.refl _ _).drew (fun i v w' w'' hS hf => hS i v hf) ?_ ?_
  · intro i oo hi nn a' wk hnn hj hb' hd
    obtain ⟨hlt1, rfl⟩ := Array.getElem?_eq_some_iff.1 hi
    have hlt' : i < 5 := hlt1
    clear hi
    obtain rfl | rfl | rfl | rfl | rfl : i = 0 ∨ i = 1 ∨ i = 2 ∨ i = 3 ∨ i = 4 := by omega
    · have b5 : a'.eval (.tmp 5) = .pointer (some ⟨w4.heap.size, 0, none⟩) := hb' 5 (by rfl); have c5 := ev_get b5
      obtain ⟨x0, x1, _, _⟩ := two_cells ((hj.block _ (Array.getElem?_eq_some_iff.1 hx6).1).trans hx6)
      exact iv_val (v := cv m (.slice xa xn xc)) (by simp [execOp, c5, x0, x1, go_sem, Result.andThen]) ⟨_, rfl, hj, fun _ _ h => h, rfl⟩
    · have b1 : a'.eval (.tmp 1) = .pointer (some ⟨w.heap.size, 0, none⟩) := hb' 1 (by rfl); have c1 := ev_get b1
      obtain ⟨x0, x1, _, _⟩ := two_cells ((hj.block _ (Array.getElem?_eq_some_iff.1 hh6).1).trans hh6)
      exact iv_val (v := cv m (.slice a n c)) (by simp [execOp, c1, x0, x1, go_sem, Result.andThen]) ⟨_, rfl, hj, fun _ _ h => h, rfl⟩
    · have v1 : a'.eval (.tmp 23) = cv m (.slice a n c) := hd ⟨1, .data⟩ (by simp) rfl; have u1 := ev_get v1
      refine iv_enter (f := 17) (args := #[cv m (.slice a n c)]) (by simp [execOp, u1, go_sem]) ?_
      refine (laws_toCache_c m _ xs _ (Rd.on (h.on c6) hj) hlx).mono ?_
      rintro e w5 ⟨v', rfl, o5, b5⟩
      obtain ⟨ka, kc, rfl, _, _, _⟩ := (Rd.of_own o5).ints rfl
      exact ⟨_, rfl, _, rfl, hj.trans (b5.mono hj.size), fun i v h => fact_gr (newF_gr _ _ _ _ _) i v _ _ b5 h, (show isNew _ _ _ _ _ from ⟨_, _, _, rfl, o5.less hj.size⟩)⟩
    · have v0 : a'.eval (.tmp 22) = cv m (.slice xa xn xc) := hd ⟨0, .data⟩ (by simp) rfl; have u0 := ev_get v0
      have e2 : isNew w6.heap.size m xs (a'.eval (.tmp 24)) wk := hd ⟨2, .data⟩ (by simp) rfl
      obtain ⟨ka, kn, kc, v2, o2⟩ := e2
      have u2 := ev_get v2
      refine iv_enter (f := 19) (args := #[cv m (.slice xa xn xc), cv m (.slice ka kn kc)]) (by simp [execOp, u0, u2, go_sem]) ?_
      refine (laws_eqCache_c m _ _ xs _ (Rd.on (Rd.of_own o6) hj) (Rd.of_own o2)).mono ?_
      rintro e w5 ⟨rfl, b5⟩
      exact ⟨_, rfl, _, rfl, hj.trans (b5.mono hj.size), fun i v h => fact_gr (newF_gr _ _ _ _ _) i v _ _ b5 h, rfl⟩
    · have v3 : a'.eval (.tmp 25) = .bool true := hd ⟨3, .data⟩ (by simp) rfl; have u3 := ev_get v3
      exact iv_val (v := .bool false) (by simp [execOp, u3, go_sem]) ⟨_, rfl, hj, fun _ _ h => h, rfl⟩
  · intro tm w7 hj hF
    have q4 : tm.getD 26 undef = .bool false := hF 4 _ rfl
    clear hF
    simp only [refillL, List.setIfInBounds_toArray, List.set_cons_succ, List.set_cons_zero]
    rw [q4]
    go_wp2
    go_ret
    exact ⟨rfl, bl_then c6 hj⟩

end Go.Proofs.Ytnedkfmbeeodfaa
