/- Walks: the law on valid caches. -/
import Derived.Test.YtnedkfmbeeodfaaDrawCV
import Derived.Test.YtnedkfmbeeodfaaInvC
namespace Go.Proofs.Ytnedkfmbeeodfaa
open Go.RowKit

def isOwn (B : Nat) (xs : List Int) : Value → World → Prop := fun v w => OwnI w B v xs
def isAgg (B : Nat) (m : Int) (xs : List Int) : Value → World → Prop := fun v w => ∃ v', v = .agg #[.int .i64 m, v'] ∧ OwnI w B v' xs
def cvF (B bx : Nat) (m : Int) (sl : Value) (b o : Nat) (x : Int) (xs : List Int) : List (Value → World → Prop) :=
  [isV (.pointer (some ⟨bx, 0, none⟩)), isV (.int .i64 m), isV (.agg #[.int .i64 m, .slice none 0 0]), isV (.bool true), isV (.bool true), isV (.pointer (some ⟨bx, 0, none⟩)), isV (.int .i64 m), isV (.pointer (some ⟨bx, 1, none⟩)), isV sl, isV (.pointer (some ⟨b, o, none⟩)), isV (.int .i64 x),
   isOwn B [x], isV (.pointer (some ⟨bx, 1, none⟩)), isV sl, isOwn B (x :: xs), isAgg B m (x :: xs), isV (.bool false), isV (.bool true), isV (.bool true), isV (.bool true)]
/-- The append uses up the literal's row. -/
def cvCons (j : Nat) : Option Nat := if j = 14 then some 11 else none
def cvS (j : Nat) (l : List (Value → World → Prop)) (w w' : World) : Prop := ∀ i v, cvCons j ≠ some i → (j = 14 → i ≠ 14 ∧ i ≠ 15) → fact l i v w → fact l i v w'
theorem cvS_same (j : Nat) (l : List (Value → World → Prop)) (w : World) : cvS j l w w := fun _ _ _ _ h => h
theorem cvF_gr {B bx b o : Nat} {m x : Int} {sl : Value} {xs : List Int} : ∀ f ∈ cvF B bx m sl b o x xs, Grow f := by
  intro f hf
  simp only [cvF, List.mem_cons, List.not_mem_nil, or_false] at hf
  have g1 : ∀ ys, Grow (isOwn B ys) := fun ys v w w' hb h => h.on hb
  have g2 : ∀ ys, Grow (isAgg B m ys) := fun ys v w w' hb ⟨v', hv, h⟩ => ⟨v', hv, h.on hb⟩
  rcases hf with rfl | rfl | rfl | rfl | rfl | rfl | rfl | rfl | rfl | rfl | rfl | rfl | rfl | rfl | rfl | rfl | rfl | rfl | rfl | rfl
  all_goals first | exact isV_gr _ | exact g1 _ | exact g2 _
theorem cvS_gr {B bx b o : Nat} {m x : Int} {sl : Value} {xs : List Int} (j : Nat) (w w' : World) (hb : Below w.heap.size w w') : cvS j (cvF B bx m sl b o x xs) w w' := fun i v _ _ h => fact_gr cvF_gr i v w w' hb h
theorem cvS_cat {B bx b o : Nat} {m x : Int} {sl : Value} {xs : List Int} {w w' : World} : cvS 14 (cvF B bx m sl b o x xs) w w' := by
  intro i v hc h15 hf
  obtain ⟨n14, n15⟩ := h15 rfl
  have hi : i < 20 ∨ 20 ≤ i := by omega
  rcases hi with hi | hi
  · obtain rfl | rfl | rfl | rfl | rfl | rfl | rfl | rfl | rfl | rfl | rfl | rfl | rfl | rfl | rfl | rfl | rfl | rfl | rfl | rfl : i = 0 ∨ i = 1 ∨ i = 2 ∨ i = 3 ∨ i = 4 ∨ i = 5 ∨ i = 6 ∨ i = 7 ∨ i = 8 ∨ i = 9 ∨ i = 10 ∨ i = 11 ∨ i = 12 ∨ i = 13 ∨ i = 14 ∨ i = 15 ∨ i = 16 ∨ i = 17 ∨ i = 18 ∨ i = 19 := by omega
    all_goals first | exact hf | exact absurd rfl hc | exact absurd rfl n14 | exact absurd rfl n15
  · unfold fact at *
    rw [List.getD_eq_getElem?_getD, List.getElem?_eq_none (by simpa [cvF] using hi)]
    trivial

theorem cache_dup {m x : Int} {r : List Int} : cacheOk m (x :: x :: r) = false := by simp [cacheOk, keepOk, nodupI, hasI]
theorem cache_none {m : Int} {l : List Int} (h : cacheOk m l = true) : cacheOk m [] = true := by
  have := cacheOk_in h
  exact cacheOk_of this.1 this.2.1 (by simp; omega) rfl (by simp)

set_option maxHeartbeats 2000000 in
theorem laws_FnCacheValid_c (v : Value) (l : List Int) (w : World) (h : Rd encU 1 w w.heap.size v l) (hl : ∀ x ∈ l, 0 ≤ x ∧ x ≤ 255) :
    Calls Try.prog 4 #[v] w fun e w' => e = .returned (.bool true) ∧ Below w.heap.size w w' := by
  obtain ⟨n, hn⟩ : ∃ n, l.length = n := ⟨_, rfl⟩
  obtain ⟨a, c, rfl, _, _, _⟩ := Rd.openN h (fun _ => rfl) hn
  by_cases hbig : 1048576 < n
  · go_enter Try.func4, Try.ntmps4
    go_wp2
    go_ret
    exact ⟨rfl, Below.refl _ _⟩
  · go_enter Try.func4, Try.ntmps4
    go_wp2_with fail
    refine (spec_DrawCacheValid_c _ l w h hl).mono ?_
    rintro e w1 ⟨m, kv, keep, rfl, o1, hk, b1⟩
    clear h hl hn
    obtain ⟨nn, hnn⟩ : ∃ nn, keep.length = nn := ⟨_, rfl⟩
    have hrd1 := o1.rd
    obtain ⟨ka, kc, rfl, kl, km, _⟩ := hrd1.ints hnn
    obtain ⟨W2, hW2⟩ : ∃ W2, W2 = w1.alloc (.cells #[.int .i64 m, .slice ka nn kc] 27) := ⟨_, rfl⟩
    have b2 : Below w1.heap.size w1 W2 := by rw [hW2]; exact (Below.refl _ _).alloc (Nat.le_refl _) _
    have hX2 : W2.heap[w1.heap.size]? = some (.cells #[.int .i64 m, .slice ka nn kc] 27 (0, 0)) := by rw [hW2]; exact heap_alloc_new _ _
    have c2 := bl_then b1 b2
    have hrd2 := hrd1.on b2
    obtain ⟨ok, hok⟩ : ∃ ok, cacheOk m keep = ok := ⟨_, rfl⟩
    go_wp2_with fail
    rw [← hW2]
    refine (impl_CacheValid_c m _ keep _ W2 hrd2 (Nat.le_refl _)).mono ?_
    rw [hok]
    rintro e w3 ⟨rfl, b3⟩
    have hX3 := (b3.block _ (Array.getElem?_eq_some_iff.1 hX2).1).trans hX2
    have c3 := bl_then c2 b3
    have hrd3 := hrd2.on b3
    obtain ⟨_, _, _, _⟩ := two_cells hX3
    clear hW2
    go_wp2_with fail
    refine (spec_CacheValid_c m _ keep _ _ hrd3 (Nat.le_refl _)).mono ?_
    rw [hok]
    rintro e w4 ⟨rfl, b4⟩
    have hX := (b4.block _ (Array.getElem?_eq_some_iff.1 hX3).1).trans hX3
    have c4 := bl_then c3 b4
    have hrd := hrd3.on b4
    obtain ⟨_, _, _, _⟩ := two_cells hX
    cases ok
    · go_wp2_with (go_at_call 21; refine (laws_alive_c _).mono ?_; rintro e w' ⟨rfl, rfl⟩)
      go_ret
      exact ⟨by first | rfl | simp, c4⟩
    · by_cases h0 : nn = 0
      · subst h0
        go_wp2_with (go_at_call 21; refine (laws_alive_c _).mono ?_; rintro e w' ⟨rfl, rfl⟩)
        go_ret
        exact ⟨by first | rfl | simp, c4⟩
      · have hb0 : ((nn : Int) == 0) = false := beq_eq_false_iff_ne.2 (by omega)
        have hn1 : 0 < nn := by omega
        have hOK1 := hid (cache_none hok)
        obtain ⟨x, r, rfl⟩ : ∃ x r, keep = x :: r := by cases keep with | nil => simp at hnn; omega | cons x r => exact ⟨x, r, rfl⟩
        have hOK2 := hid (cache_dup (m := m) (x := x) (r := r))
        obtain ⟨_, _, hsl, _, _, hget⟩ := hrd.ints hnn
        obtain ⟨b, o, y, hka, hbl, hy, hcy⟩ := hget 0 hn1
        simp only [Value.slice.injEq] at hsl
        obtain ⟨rfl, _, _⟩ := hsl
        subst hka
        obtain rfl : x = y := by have := hy.out; simpa using this
        have hx : w4.cell? ⟨b, o, none⟩ = some (.int .i64 x) := by simpa using hcy
        have hlen : [x].length + (x :: r).length < 1099511627776 := by simp; simp at hk; omega
        have hbx := (Array.getElem?_eq_some_iff.1 hX).1
        clear hcy hget hy b2 b3 b4 hX2 hX3 hrd1 hrd2 hrd3 c2 c3 o1 b1 h0 hok kl km
        obtain ⟨bx, hbxd⟩ : ∃ bx, bx = w1.heap.size := ⟨_, rfl⟩
        have HB := hid hbxd
        clear hbxd
        rw [← HB.out] at hX hbx
        go_wp2
        rw [← HB.out]
        refine wp_region_inv3c rfl (by kernel_rfl) (by kernel_rfl) (by kernel_rfl) (by kernel_rfl) (by simp) (fun _ w' => Below w4.heap.size w4 w') (fun j w' w'' => cvS j (cvF w4.heap.size bx m (.slice (some ⟨b, o, none⟩) nn kc) b o x (x :: r)) w' w'') (fact (cvF w4.heap.size bx m (.slice (some ⟨b, o, none⟩) nn kc) b o x (x :: r))) cvCons (Below.refl _ _).drew ?hF ?grd ?oo ?cg ?fin
        case hF =>
          intro j i v w' w'' hS hc hne hwt hf
          refine hS i v hc (fun hj14 => ⟨by rw [← hj14]; exact hne, fun h15 => ?_⟩) hf
          subst hj14
          subst h15
          have h2 := hwt.symm.trans (c := true) (by kernel_rfl)
          cases h2
        case grd =>
          intro i oo d bb hi hg v w' hf
          obtain ⟨hlt1, rfl⟩ := Array.getElem?_eq_some_iff.1 hi
          have hlt' : i < 20 := hlt1
          clear hi
          obtain rfl | rfl | rfl | rfl | rfl | rfl | rfl | rfl | rfl | rfl | rfl | rfl | rfl | rfl | rfl | rfl | rfl | rfl | rfl | rfl : i = 0 ∨ i = 1 ∨ i = 2 ∨ i = 3 ∨ i = 4 ∨ i = 5 ∨ i = 6 ∨ i = 7 ∨ i = 8 ∨ i = 9 ∨ i = 10 ∨ i = 11 ∨ i = 12 ∨ i = 13 ∨ i = 14 ∨ i = 15 ∨ i = 16 ∨ i = 17 ∨ i = 18 ∨ i = 19 := by omega
          all_goals first | (simp at hg; done) | (simp at hg; obtain ⟨rfl, rfl⟩ := hg; exact hf)
        case cg =>
          intro i oo d bb hi hg j hc
          have hd11 : d = 11 := by unfold cvCons at hc; split at hc <;> simp at hc; exact hc.symm
          subst hd11
          obtain ⟨hlt1, rfl⟩ := Array.getElem?_eq_some_iff.1 hi
          have hlt' : i < 20 := hlt1
          clear hi
          obtain rfl | rfl | rfl | rfl | rfl | rfl | rfl | rfl | rfl | rfl | rfl | rfl | rfl | rfl | rfl | rfl | rfl | rfl | rfl | rfl : i = 0 ∨ i = 1 ∨ i = 2 ∨ i = 3 ∨ i = 4 ∨ i = 5 ∨ i = 6 ∨ i = 7 ∨ i = 8 ∨ i = 9 ∨ i = 10 ∨ i = 11 ∨ i = 12 ∨ i = 13 ∨ i = 14 ∨ i = 15 ∨ i = 16 ∨ i = 17 ∨ i = 18 ∨ i = 19 := by omega
          all_goals simp at hg
        case oo =>
          intro i oo hi qn a' wk hnn hj hb' hd
          obtain ⟨hlt1, rfl⟩ := Array.getElem?_eq_some_iff.1 hi
          have hlt' : i < 20 := hlt1
          clear hi
          obtain rfl | rfl | rfl | rfl | rfl | rfl | rfl | rfl | rfl | rfl | rfl | rfl | rfl | rfl | rfl | rfl | rfl | rfl | rfl | rfl : i = 0 ∨ i = 1 ∨ i = 2 ∨ i = 3 ∨ i = 4 ∨ i = 5 ∨ i = 6 ∨ i = 7 ∨ i = 8 ∨ i = 9 ∨ i = 10 ∨ i = 11 ∨ i = 12 ∨ i = 13 ∨ i = 14 ∨ i = 15 ∨ i = 16 ∨ i = 17 ∨ i = 18 ∨ i = 19 := by omega
          · have b3 : a'.eval (.tmp 3) = .pointer (some ⟨bx, 0, none⟩) := hb' 3 (by rfl); have c3 := ev_get b3
            exact iv_val (v := .pointer (some ⟨bx, 0, none⟩)) (by simp [execOp, c3, go_sem, Result.andThen]) ⟨_, rfl, hj, cvS_same _ _ _, rfl⟩
          · have v0 : a'.eval (.tmp 25) = .pointer (some ⟨bx, 0, none⟩) := hd ⟨0, .data⟩ (by simp) rfl (by intro j _ hc; unfold cvCons at hc; split at hc <;> first | (simp at hc; done) | assumption); have u0 := ev_get v0
            obtain ⟨x0, x1, _, _⟩ := two_cells ((hj.block bx hbx).trans hX)
            exact iv_val (v := .int .i64 m) (by simp [execOp, u0, x0, go_sem, Result.andThen]) ⟨_, rfl, hj, cvS_same _ _ _, rfl⟩
          · have v1 : a'.eval (.tmp 26) = .int .i64 m := hd ⟨1, .data⟩ (by simp) rfl (by intro j _ hc; unfold cvCons at hc; split at hc <;> first | (simp at hc; done) | assumption); have u1 := ev_get v1
            exact iv_val (v := .agg #[.int .i64 m, .slice none 0 0]) (by simp [execOp, u1, go_sem, Result.andThen]) ⟨_, rfl, hj, cvS_same _ _ _, rfl⟩
          · have v2 : a'.eval (.tmp 27) = .agg #[.int .i64 m, .slice none 0 0] := hd ⟨2, .data⟩ (by simp) rfl (by intro j _ hc; unfold cvCons at hc; split at hc <;> first | (simp at hc; done) | assumption); have u2 := ev_get v2
            refine iv_enter (f := 18) (args := #[.agg #[.int .i64 m, .slice none 0 0]]) (by simp [execOp, u2, go_sem]) ?_
            refine (impl_CacheValid_c m _ [] wk.heap.size wk (Rd.nil _ _ _ _ _ (Nat.zero_le _)) (Nat.le_refl _)).mono ?_
            rw [hOK1.out]
            rintro e w5 ⟨rfl, b5⟩
            exact ⟨_, rfl, _, rfl, hj.trans (b5.mono hj.size), cvS_gr _ _ _ b5, rfl⟩
          · have v3 : a'.eval (.tmp 28) = .bool true := hd ⟨3, .data⟩ (by simp) rfl (by intro j _ hc; unfold cvCons at hc; split at hc <;> first | (simp at hc; done) | assumption); have u3 := ev_get v3
            exact iv_val (v := .bool true) (by simp [execOp, v3]) ⟨_, rfl, hj, cvS_same _ _ _, rfl⟩
          · have b3 : a'.eval (.tmp 3) = .pointer (some ⟨bx, 0, none⟩) := hb' 3 (by rfl); have c3 := ev_get b3
            exact iv_val (v := .pointer (some ⟨bx, 0, none⟩)) (by simp [execOp, c3, go_sem, Result.andThen]) ⟨_, rfl, hj, cvS_same _ _ _, rfl⟩
          · have v5 : a'.eval (.tmp 30) = .pointer (some ⟨bx, 0, none⟩) := hd ⟨5, .data⟩ (by simp) rfl (by intro j _ hc; unfold cvCons at hc; split at hc <;> first | (simp at hc; done) | assumption); have u5 := ev_get v5
            obtain ⟨x0, x1, _, _⟩ := two_cells ((hj.block bx hbx).trans hX)
            exact iv_val (v := .int .i64 m) (by simp [execOp, u5, x0, go_sem, Result.andThen]) ⟨_, rfl, hj, cvS_same _ _ _, rfl⟩
          · have b3 : a'.eval (.tmp 3) = .pointer (some ⟨bx, 0, none⟩) := hb' 3 (by rfl); have c3 := ev_get b3
            exact iv_val (v := .pointer (some ⟨bx, 1, none⟩)) (by simp [execOp, c3, go_sem, Result.andThen]) ⟨_, rfl, hj, cvS_same _ _ _, rfl⟩
          · have v7 : a'.eval (.tmp 32) = .pointer (some ⟨bx, 1, none⟩) := hd ⟨7, .data⟩ (by simp) rfl (by intro j _ hc; unfold cvCons at hc; split at hc <;> first | (simp at hc; done) | assumption); have u7 := ev_get v7
            obtain ⟨x0, x1, _, _⟩ := two_cells ((hj.block bx hbx).trans hX)
            exact iv_val (v := .slice (some ⟨b, o, none⟩) nn kc) (by simp [execOp, u7, x1, go_sem, Result.andThen]) ⟨_, rfl, hj, cvS_same _ _ _, rfl⟩
          · have v8 : a'.eval (.tmp 33) = .slice (some ⟨b, o, none⟩) nn kc := hd ⟨8, .data⟩ (by simp) rfl (by intro j _ hc; unfold cvCons at hc; split at hc <;> first | (simp at hc; done) | assumption); have u8 := ev_get v8
            have hn0 : 0 < nn := hn1
            exact iv_val (v := .pointer (some ⟨b, o, none⟩)) (by simp [execOp, u8, hn0, go_sem, Result.andThen]) ⟨_, rfl, hj, cvS_same _ _ _, rfl⟩
          · have v9 : a'.eval (.tmp 34) = .pointer (some ⟨b, o, none⟩) := hd ⟨9, .data⟩ (by simp) rfl (by intro j _ hc; unfold cvCons at hc; split at hc <;> first | (simp at hc; done) | assumption); have u9 := ev_get v9
            have hcx := (hj.cell (p := ⟨b, o, none⟩) hbl).trans hx
            exact iv_val (v := .int .i64 x) (by simp [execOp, u9, hcx, go_sem, Result.andThen]) ⟨_, rfl, hj, cvS_same _ _ _, rfl⟩
          · have v10 : a'.eval (.tmp 35) = .int .i64 x := hd ⟨10, .data⟩ (by simp) rfl (by intro j _ hc; unfold cvCons at hc; split at hc <;> first | (simp at hc; done) | assumption); have u10 := ev_get v10
            exact iv_val (v := .slice (some ⟨wk.heap.size, 0, none⟩) 1 1) (w' := wk.alloc (.cells #[.int .i64 x] 3)) (by simp [execOp, u10, go_sem, Result.andThen]) ⟨_, rfl, hj.alloc hj.size _, cvS_gr _ _ _ ((Below.refl _ _).alloc (Nat.le_refl _) _), (show isOwn _ _ _ _ from Own.lit wk hj.size [x] _ 1 rfl rfl rfl (by simp [maxLen]))⟩
          · have b3 : a'.eval (.tmp 3) = .pointer (some ⟨bx, 0, none⟩) := hb' 3 (by rfl); have c3 := ev_get b3
            exact iv_val (v := .pointer (some ⟨bx, 1, none⟩)) (by simp [execOp, c3, go_sem, Result.andThen]) ⟨_, rfl, hj, cvS_same _ _ _, rfl⟩
          · have v12 : a'.eval (.tmp 37) = .pointer (some ⟨bx, 1, none⟩) := hd ⟨12, .data⟩ (by simp) rfl (by intro j _ hc; unfold cvCons at hc; split at hc <;> first | (simp at hc; done) | assumption); have u12 := ev_get v12
            obtain ⟨x0, x1, _, _⟩ := two_cells ((hj.block bx hbx).trans hX)
            exact iv_val (v := .slice (some ⟨b, o, none⟩) nn kc) (by simp [execOp, u12, x1, go_sem, Result.andThen]) ⟨_, rfl, hj, cvS_same _ _ _, rfl⟩
          · have e11 : isOwn w4.heap.size [x] (a'.eval (.tmp 36)) wk := hd ⟨11, .data⟩ (by simp) rfl (by intro j _ hc; unfold cvCons at hc; split at hc <;> first | (simp at hc; done) | assumption)
            have v13 : a'.eval (.tmp 38) = .slice (some ⟨b, o, none⟩) nn kc := hd ⟨13, .data⟩ (by simp) rfl (by intro j _ hc; unfold cvCons at hc; split at hc <;> first | (simp at hc; done) | assumption); have u13 := ev_get v13
            obtain ⟨i0, hi0, hz0, hz1, hz2⟩ := info_parts info_int
            refine wp_cat (enc := encI) wk (.tmp 36) (.tmp 38) 22 rfl w4.heap.size 3 i0 _ 1 8 Try.underlying22 hi0 hz0 hz1 hz2 rfl (by decide) (a'.eval (.tmp 36)) (.slice (some ⟨b, o, none⟩) nn kc) [x] (x :: r) rfl v13 e11 _ (hrd.below hj (Nat.le_refl _)) (by simp [Value.oneCell']) hlen (by decide) hj.size ?_
            intro v' w' ho hg hg'
            refine ⟨_, rfl, hj.grown hg hj.size (fun g hg1 => (e11.lt g hg1).1), cvS_cat, ho⟩
          · have v6 : a'.eval (.tmp 31) = .int .i64 m := hd ⟨6, .data⟩ (by simp) rfl (by intro j _ hc; unfold cvCons at hc; split at hc <;> first | (simp at hc; done) | assumption); have u6 := ev_get v6
            have e14 : isOwn w4.heap.size (x :: x :: r) (a'.eval (.tmp 39)) wk := hd ⟨14, .data⟩ (by simp) rfl (by intro j _ hc; unfold cvCons at hc; split at hc <;> first | (simp at hc; done) | assumption)
            obtain ⟨va, vc, v14, _, _, _⟩ := (Rd.of_own e14).ints rfl
            have u14 := ev_get v14
            rw [v14] at e14
            exact iv_val (v := .agg #[.int .i64 m, .slice va (r.length + 1 + 1) vc]) (by simp [execOp, u6, u14, go_sem, Result.andThen]) ⟨_, rfl, hj, cvS_same _ _ _, (show isAgg _ _ _ _ _ from ⟨_, rfl, e14⟩)⟩
          · have e15 : isAgg w4.heap.size m (x :: x :: r) (a'.eval (.tmp 40)) wk := hd ⟨15, .data⟩ (by simp) rfl (by intro j _ hc; unfold cvCons at hc; split at hc <;> first | (simp at hc; done) | assumption)
            obtain ⟨v', v15, o15⟩ := e15
            have u15 := ev_get v15
            refine iv_enter (f := 18) (args := #[.agg #[.int .i64 m, v']]) (by simp [execOp, u15, go_sem]) ?_
            refine (impl_CacheValid_c m v' (x :: x :: r) wk.heap.size wk (Rd.of_own o15) (Nat.le_refl _)).mono ?_
            rw [hOK2.out]
            rintro e w5 ⟨rfl, b5⟩
            exact ⟨_, rfl, _, rfl, hj.trans (b5.mono hj.size), cvS_gr _ _ _ b5, rfl⟩
          · have v16 : a'.eval (.tmp 41) = .bool false := hd ⟨16, .data⟩ (by simp) rfl (by intro j _ hc; unfold cvCons at hc; split at hc <;> first | (simp at hc; done) | assumption); have u16 := ev_get v16
            exact iv_val (v := .bool true) (by simp [execOp, u16, go_sem]) ⟨_, rfl, hj, cvS_same _ _ _, rfl⟩
          · have v4 : a'.eval (.tmp 29) = .bool true := hd ⟨4, .data⟩ (by simp) rfl (by intro j _ hc; unfold cvCons at hc; split at hc <;> first | (simp at hc; done) | assumption); have u4 := ev_get v4
            have v17 : a'.eval (.tmp 42) = .bool true := hd ⟨17, .data⟩ (by simp) rfl (by intro j _ hc; unfold cvCons at hc; split at hc <;> first | (simp at hc; done) | assumption); have u17 := ev_get v17
            exact iv_val (v := .bool true) (by simp [execOp, u4, u17, go_sem]) ⟨_, rfl, hj, cvS_same _ _ _, rfl⟩
          · have v18 : a'.eval (.tmp 43) = .bool true := hd ⟨18, .data⟩ (by simp) rfl (by intro j _ hc; unfold cvCons at hc; split at hc <;> first | (simp at hc; done) | assumption); have u18 := ev_get v18
            exact iv_val (v := .bool true) (by simp [execOp, v18]) ⟨_, rfl, hj, cvS_same _ _ _, rfl⟩
        case fin =>
          intro tm w5 hj hF
          have q2 : tm.getD 2 undef = .bool true := hF 19 _ rfl (fun j hc => by unfold cvCons at hc; split at hc <;> simp at hc)
          clear hF
          simp only [refillL, List.setIfInBounds_toArray, List.set_cons_succ, List.set_cons_zero]
          rw [q2]
          go_wp2
          go_ret
          exact ⟨rfl, bl_then c4 hj⟩

end Go.Proofs.Ytnedkfmbeeodfaa
