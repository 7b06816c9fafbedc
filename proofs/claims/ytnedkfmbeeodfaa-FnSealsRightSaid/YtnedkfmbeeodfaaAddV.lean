/- Walks: one version more. -/
import Derived.Test.YtnedkfmbeeodfaaVers
import Derived.Test.YtnedkfmbeeodfaaRun2
import Derived.Test.YtnedkfmbeeodfaaInvD
namespace Go.Proofs.Ytnedkfmbeeodfaa
open Go.RowKit

def addV (xs : List Ver) (x : Ver) : List Ver := if vsOk xs then (if vsOk (xs ++ [x]) then xs ++ [x] else xs) else []
theorem addV_len (xs : List Ver) (x : Ver) : (addV xs x).length ≤ xs.length + 1 := by unfold addV; split; split; simp; simp; simp
theorem addV_mem {xs : List Ver} {x y : Ver} (h : y ∈ addV xs x) : y ∈ xs ∨ y = x := by
  unfold addV at h
  split at h
  · split at h
    · simpa using h
    · exact .inl h
  · simp at h

theorem info_ver' : (Try.prog.info? 52).map (fun i => (i.zero, i.size, i.bytes)) = some (some (.agg #[.int .i64 0, .int .i64 0, .string ByteArray.empty]), 3, 32) := by kernel_rfl
theorem three_cells'' {w : World} {g : Nat} {t : TypeId} {x y z : Value} (h : w.heap[g]? = some (.cells #[x, y, z] t (0, 0))) :
    w.cell? ⟨g, 0, none⟩ = some x ∧ w.cell? ⟨g, 1, none⟩ = some y ∧ w.cell? ⟨g, 2, none⟩ = some z ∧ w.frozen? ⟨g, 0, none⟩ = false ∧ w.frozen? ⟨g, 1, none⟩ = false ∧ w.frozen? ⟨g, 2, none⟩ = false := by
  refine ⟨?_, ?_, ?_, frozen_of_row _ _ _ _ _ h, frozen_of_row _ _ _ _ _ h, frozen_of_row _ _ _ _ _ h⟩ <;> simp [World.cell?, h]
abbrev OwnV := Own encV 52 3
def isEmp (B : Nat) : Value → World → Prop := fun v w => ∃ b, v = .slice (some ⟨b, 0, none⟩) 0 0 ∧ B ≤ b ∧ w.heap[b]? = some (.cells #[] 52 (0, 0)) ∧ OwnV w B v []
def isOwnV (B : Nat) (xs : List Ver) : Value → World → Prop := fun v w => OwnV w B v xs
def isLitV (B : Nat) (x : Ver) : Value → World → Prop := fun v w => ∃ b, v = .slice (some ⟨b, 0, none⟩) 1 1 ∧ B ≤ b ∧ w.heap[b]? = some (.cells #[.int .i64 x.root, .int .i64 x.before, .string x.note] 52 (0, 0))
theorem lit_rd {w : World} {b : Nat} {r e0 : Int} {t : ByteArray} (h : w.heap[b]? = some (.cells #[.int .i64 r, .int .i64 e0, .string t] 52 (0, 0))) : Rd encV 3 w w.heap.size (.slice (some ⟨b, 0, none⟩) 1 1) [⟨r, e0, t⟩] := by
  refine ⟨_, _, rfl, by simp, by simp [maxLen], by simp, fun _ => ⟨_, _, rfl, (Array.getElem?_eq_some_iff.1 h).1, fun j u hu => ?_⟩⟩
  rw [Nat.zero_add]
  simp only [World.cell?, h]
  simpa using hu
def avF (B : Nat) (sl : Value) (xs : List Ver) (x : Ver) : List (Value → World → Prop) :=
  [isEmp B, isV sl, isOwnV B ([] ++ xs), isV (.agg #[.int .i64 x.root, .int .i64 x.before, .string x.note]), isLitV B x, isOwnV B ([] ++ xs ++ [x]), isOwnV B ([] ++ xs ++ [x])]
/-- The appends use up what they append to, and the literal. -/
def avCons (j i : Nat) : Bool := (j == 2 && i == 0) || (j == 5 && (i == 2 || i == 4))
def avS (j : Nat) (l : List (Value → World → Prop)) (w w' : World) : Prop := ∀ i v, avCons j i = false → (j = 2 → i ≠ 2 ∧ i ≠ 5 ∧ i ≠ 6) → (j = 5 → i ≠ 0 ∧ i ≠ 5 ∧ i ≠ 6) → fact l i v w → fact l i v w'
theorem avS_same (j : Nat) (l : List (Value → World → Prop)) (w : World) : avS j l w w := fun _ _ _ _ _ h => h
theorem avF_gr {B : Nat} {sl : Value} {xs : List Ver} {x : Ver} : ∀ f ∈ avF B sl xs x, Grow f := by
  intro f hf
  simp only [avF, List.mem_cons, List.not_mem_nil, or_false] at hf
  have g1 : ∀ ys, Grow (isOwnV B ys) := fun ys v w w' hb h => h.on hb
  rcases hf with rfl | rfl | rfl | rfl | rfl | rfl | rfl
  · rintro v w w' hb ⟨b, hv, hB, hh, ho⟩; exact ⟨b, hv, hB, (hb.block b (Array.getElem?_eq_some_iff.1 hh).1).trans hh, ho.on hb⟩
  · exact isV_gr _
  · exact g1 _
  · exact isV_gr _
  · rintro v w w' hb ⟨b, hv, hB, hh⟩; exact ⟨b, hv, hB, (hb.block b (Array.getElem?_eq_some_iff.1 hh).1).trans hh⟩
  · exact g1 _
  · exact g1 _
theorem avS_gr {B : Nat} {sl : Value} {xs : List Ver} {x : Ver} (j : Nat) (w w' : World) (_ : j ≠ 7) (hb : Below w.heap.size w w') : avS j (avF B sl xs x) w w' := fun i v _ _ _ h => fact_gr avF_gr i v w w' hb h
theorem avS_cat2 {B : Nat} {sl : Value} {xs : List Ver} {x : Ver} {w w' : World} {b : Nat} (hh : w.heap[b]? = some (.cells #[] 52 (0, 0))) (hg : w.grownBy w' (Value.ownBlock (.slice (some ⟨b, 0, none⟩) 0 0))) : avS 2 (avF B sl xs x) w w' := by
  intro i v hc h2 _ hf
  obtain ⟨n2, n5, n6⟩ := h2 rfl
  have hi : i < 7 ∨ 7 ≤ i := by omega
  rcases hi with hi | hi
  · obtain rfl | rfl | rfl | rfl | rfl | rfl | rfl : i = 0 ∨ i = 1 ∨ i = 2 ∨ i = 3 ∨ i = 4 ∨ i = 5 ∨ i = 6 := by omega
    · simp [avCons] at hc
    · exact hf
    · exact absurd rfl n2
    · exact hf
    · obtain ⟨b4, hv, hB, h4⟩ := hf
      have hne : b4 ≠ b := by
        rintro rfl
        rw [hh] at h4
        simp at h4
      exact ⟨b4, hv, hB, (hg.block b4 (Array.getElem?_eq_some_iff.1 h4).1 (some_ne hne)).trans h4⟩
    · exact absurd rfl n5
    · exact absurd rfl n6
  · unfold fact at *
    rw [List.getD_eq_getElem?_getD, List.getElem?_eq_none (by simpa [avF] using hi)]
    trivial
theorem avS_cat5 {B : Nat} {sl : Value} {xs : List Ver} {x : Ver} {w w' : World} : avS 5 (avF B sl xs x) w w' := by
  intro i v hc _ h5 hf
  obtain ⟨n0, n5, n6⟩ := h5 rfl
  have hi : i < 7 ∨ 7 ≤ i := by omega
  rcases hi with hi | hi
  · obtain rfl | rfl | rfl | rfl | rfl | rfl | rfl : i = 0 ∨ i = 1 ∨ i = 2 ∨ i = 3 ∨ i = 4 ∨ i = 5 ∨ i = 6 := by omega
    · exact absurd rfl n0
    · exact hf
    · simp [avCons] at hc
    · exact hf
    · simp [avCons] at hc
    · exact absurd rfl n5
    · exact absurd rfl n6
  · unfold fact at *
    rw [List.getD_eq_getElem?_getD, List.getElem?_eq_none (by simpa [avF] using hi)]
    trivial

set_option maxHeartbeats 2000000 in
theorem spec_AddVersion_c (v : Value) (xs : List Ver) (x : Ver) (w : World) (h : Vers w w.heap.size v xs) (hx0 : ∀ y ∈ xs, y.note.size ≤ 1048576) (hx1 : x.note.size ≤ 1048576) (hl : xs.length ≤ 100000) :
    Calls Try.prog 82 #[v, vv x] w fun e w' => ∃ (v' : Value) (ok : Bool), e = .returned (.tuple #[v', .bool ok]) ∧ OwnV w' w.heap.size v' (addV xs x) ∧ Below w.heap.size w w' := by
  obtain ⟨n, hn⟩ : ∃ n, xs.length = n := ⟨_, rfl⟩
  obtain ⟨a, c, rfl, _, _, _⟩ := h.vers hn
  obtain ⟨r, e0, t⟩ := x
  obtain ⟨W0, hW0⟩ : ∃ W0, W0 = w.alloc (.cells #[.int .i64 r, .int .i64 e0, .string t] 52) := ⟨_, rfl⟩
  have bl_then0 : Below w.heap.size w W0 := by rw [hW0]; exact (Below.refl _ _).alloc (Nat.le_refl _) _
  have hbox : W0.heap[w.heap.size]? = some (.cells #[.int .i64 r, .int .i64 e0, .string t] 52 (0, 0)) := by rw [hW0]; exact heap_alloc_new _ _
  have hsz : W0.heap.size = w.heap.size + 1 := by rw [hW0]; simp
  have hB0 : w.heap.size ≤ W0.heap.size := by omega
  have hB1 : w.heap.size < W0.heap.size := by omega
  clear hsz
  cases hok : vsOk xs
  · have HA := hid (show addV xs ⟨r, e0, t⟩ = [] by unfold addV; rw [hok]; rfl)
    go_enter Try.func82, Try.ntmps82
    go_wp2_with fail
    rw [← hW0]
    refine (spec_VersionsValid_c _ xs _ _ (h.on bl_then0) hx0 (by omega)).mono ?_
    rw [hok]
    rintro e w' ⟨rfl, rfl⟩
    clear hW0
    go_wp2
    go_ret2
    exact ⟨_, _, rfl, by rw [HA.out]; exact Own.made _ hB0, bl_then0.alloc hB0 _⟩
  · go_enter Try.func82, Try.ntmps82
    go_wp2_with fail
    rw [← hW0]
    refine (spec_VersionsValid_c _ xs _ _ (h.on bl_then0) hx0 (by omega)).mono ?_
    rw [hok]
    rintro e w' ⟨rfl, rfl⟩
    clear hW0
    go_wp2
    refine wp_region_inv3d rfl (by kernel_rfl) (by kernel_rfl) (by kernel_rfl) (by kernel_rfl) (by simp) (fun _ w' => Below W0.heap.size W0 w') (fun j w' w'' => avS j (avF W0.heap.size (.slice a n c) xs ⟨r, e0, t⟩) w' w'') (fact (avF W0.heap.size (.slice a n c) xs ⟨r, e0, t⟩)) avCons (Below.refl _ _).drew ?hF ?grd ?oo ?cg ?fin
    case hF =>
      intro j i v w' w'' hS hc hne hwt hdp hf
      refine hS i v hc (fun h2 => ⟨by rw [← h2]; exact hne, fun h5 => ?_, fun h6 => ?_⟩) (fun h5 => ⟨fun h0 => ?_, by rw [← h5]; exact hne, fun h6 => ?_⟩) hf
      · subst h2; subst h5; have h2 := hwt.symm.trans (c := true) (by kernel_rfl); cases h2
      · subst h2; subst h6; have h2 := hwt.symm.trans (c := true) (by kernel_rfl); cases h2
      · subst h5; subst h0; have h9 := hdp _ rfl ⟨2, .data⟩ (by simp) rfl; simp [avCons] at h9
      · subst h5; subst h6; have h2 := hwt.symm.trans (c := true) (by kernel_rfl); cases h2
    case grd =>
      intro i oo d bb hi hg v w' hf
      obtain ⟨hlt1, rfl⟩ := Array.getElem?_eq_some_iff.1 hi
      have hlt' : i < 7 := hlt1
      clear hi
      obtain rfl | rfl | rfl | rfl | rfl | rfl | rfl : i = 0 ∨ i = 1 ∨ i = 2 ∨ i = 3 ∨ i = 4 ∨ i = 5 ∨ i = 6 := by omega
      all_goals simp at hg
    case cg =>
      intro i oo d bb hi hg j
      obtain ⟨hlt1, rfl⟩ := Array.getElem?_eq_some_iff.1 hi
      have hlt' : i < 7 := hlt1
      clear hi
      obtain rfl | rfl | rfl | rfl | rfl | rfl | rfl : i = 0 ∨ i = 1 ∨ i = 2 ∨ i = 3 ∨ i = 4 ∨ i = 5 ∨ i = 6 := by omega
      all_goals simp at hg
    case oo =>
      intro i oo hi qn a' wk hnn hj hb' hd
      obtain ⟨hlt1, rfl⟩ := Array.getElem?_eq_some_iff.1 hi
      have hlt' : i < 7 := hlt1
      clear hi
      obtain rfl | rfl | rfl | rfl | rfl | rfl | rfl : i = 0 ∨ i = 1 ∨ i = 2 ∨ i = 3 ∨ i = 4 ∨ i = 5 ∨ i = 6 := by omega
      · exact iv_val (v := .slice (some ⟨wk.heap.size, 0, none⟩) 0 0) (w' := wk.alloc (.cells #[] 52)) (by simp [execOp, go_sem, Result.andThen]) ⟨_, rfl, hj.alloc hj.size _, avS_gr _ _ _ (by decide) ((Below.refl _ _).alloc (Nat.le_refl _) _), (show isEmp _ _ _ from ⟨_, rfl, hj.size, heap_alloc_new _ _, Own.made _ hj.size⟩)⟩
      · have b0 : a'.eval (.tmp 0) = .slice a n c := hb' 0 (by rfl); have c0 := ev_get b0
        exact iv_val (v := .slice a n c) (by simp [execOp, b0]) ⟨_, rfl, hj, avS_same _ _ _, rfl⟩
      · have e0 : isEmp W0.heap.size (a'.eval (.tmp 11)) wk := hd ⟨0, .data⟩ (by simp) rfl (by intro j _ hc; revert hc; unfold avCons; simp; try omega)
        obtain ⟨b0, v0, hb0, hh0, o0⟩ := e0
        have v1 : a'.eval (.tmp 12) = .slice a n c := hd ⟨1, .data⟩ (by simp) rfl (by intro j _ hc; revert hc; unfold avCons; simp; try omega)
        obtain ⟨i0, hi0, hz0, hz1, hz2⟩ := info_parts info_ver'
        refine wp_cat (enc := encV) wk (.tmp 11) (.tmp 12) 57 rfl W0.heap.size 52 i0 _ 3 32 Try.underlying57 hi0 hz0 hz1 hz2 rfl (by decide) (a'.eval (.tmp 11)) (.slice a n c) [] xs rfl v1 o0 _ (h.below ((bl_then0).trans (hj.mono hB0)) (Nat.le_refl _)) (by simp [Value.oneCell']) (by simp; omega) (by decide) hj.size ?_
        intro v' w' ho hg hg'
        rw [v0] at hg
        exact ⟨_, rfl, hj.grown hg hj.size (fun g hg1 => by simp [Value.ownBlock] at hg1; omega), avS_cat2 hh0 hg, (show isOwnV _ _ _ _ from ho)⟩
      · have b3 : a'.eval (.tmp 3) = .pointer (some ⟨w.heap.size, 0, none⟩) := hb' 3 (by rfl); have c3 := ev_get b3
        obtain ⟨x0, x1, x2, _, _, _⟩ := three_cells'' ((hj.block w.heap.size hB1).trans hbox)
        exact iv_val (v := .agg #[.int .i64 r, .int .i64 e0, .string t]) (by simp [execOp, c3, x0, x1, x2, go_sem, Result.andThen]) ⟨_, rfl, hj, avS_same _ _ _, rfl⟩
      · have v3 : a'.eval (.tmp 14) = .agg #[.int .i64 r, .int .i64 e0, .string t] := hd ⟨3, .data⟩ (by simp) rfl (by intro j _ hc; revert hc; unfold avCons; simp; try omega); have u3 := ev_get v3
        exact iv_val (v := .slice (some ⟨wk.heap.size, 0, none⟩) 1 1) (w' := wk.alloc (.cells #[.int .i64 r, .int .i64 e0, .string t] 52)) (by simp [execOp, u3, go_sem, Result.andThen]) ⟨_, rfl, hj.alloc hj.size _, avS_gr _ _ _ (by decide) ((Below.refl _ _).alloc (Nat.le_refl _) _), (show isLitV _ _ _ _ from ⟨_, rfl, hj.size, heap_alloc_new _ _⟩)⟩
      · have e2 : isOwnV W0.heap.size ([] ++ xs) (a'.eval (.tmp 13)) wk := hd ⟨2, .data⟩ (by simp) rfl (by intro j _ hc; revert hc; unfold avCons; simp; try omega)
        have e4 : isLitV W0.heap.size ⟨r, e0, t⟩ (a'.eval (.tmp 15)) wk := hd ⟨4, .data⟩ (by simp) rfl (by intro j _ hc; revert hc; unfold avCons; simp; try omega)
        obtain ⟨b4, v4, hb4, hh4⟩ := e4
        obtain ⟨i0, hi0, hz0, hz1, hz2⟩ := info_parts info_ver'
        refine wp_cat (enc := encV) wk (.tmp 13) (.tmp 15) 57 rfl W0.heap.size 52 i0 _ 3 32 Try.underlying57 hi0 hz0 hz1 hz2 rfl (by decide) (a'.eval (.tmp 13)) (.slice (some ⟨b4, 0, none⟩) 1 1) ([] ++ xs) [⟨r, e0, t⟩] rfl v4 e2 _ (lit_rd hh4) (by simp [Value.oneCell']) (by simp; omega) (by decide) hj.size ?_
        intro v' w' ho hg hg'
        exact ⟨_, rfl, hj.grown hg hj.size (fun g hg1 => (e2.lt g hg1).1), avS_cat5, (show isOwnV _ _ _ _ from ho)⟩
      · have e5 : isOwnV W0.heap.size ([] ++ xs ++ [⟨r, e0, t⟩]) (a'.eval (.tmp 16)) wk := hd ⟨5, .data⟩ (by simp) rfl (by intro j _ hc; revert hc; unfold avCons; simp; try omega)
        exact iv_val (v := a'.eval (.tmp 16)) (by simp [execOp]) ⟨_, rfl, hj, avS_same _ _ _, e5⟩
    case fin =>
      intro tm w4 hj hF
      have o6 : OwnV w4 W0.heap.size (tm.getD 6 undef) ([] ++ xs ++ [⟨r, e0, t⟩]) := hF 6 _ rfl (fun j => by unfold avCons; simp)
      rw [List.nil_append] at o6
      clear hF
      simp only [refillL, List.setIfInBounds_toArray, List.set_cons_succ, List.set_cons_zero]
      obtain ⟨sv, hsv⟩ : ∃ sv, tm.getD 6 undef = sv := ⟨_, rfl⟩
      rw [hsv] at o6 ⊢
      have c4 := bl_then0.trans (hj.mono hB0)
      have hy0 : ∀ y ∈ xs ++ [⟨r, e0, t⟩], y.note.size ≤ 1048576 := by
        intro y hy
        rcases List.mem_append.1 hy with hy | hy
        · exact hx0 y hy
        · obtain rfl : y = ⟨r, e0, t⟩ := by simpa using hy
          exact hx1
      obtain ⟨ok, hok2⟩ : ∃ ok, vsOk (xs ++ [⟨r, e0, t⟩]) = ok := ⟨_, rfl⟩
      go_wp2_with fail
      refine (spec_VersionsValid_c _ (xs ++ [⟨r, e0, t⟩]) _ _ (Rd.of_own o6) hy0 (by simp; omega)).mono ?_
      rw [hok2]
      rintro e w' ⟨rfl, rfl⟩
      cases ok
      · have HA := hid (show addV xs ⟨r, e0, t⟩ = xs by unfold addV; rw [hok, hok2]; rfl)
        obtain ⟨i0, hi0, hz0, hz1, hz2⟩ := info_parts info_ver'
        go_wp2_with (at_builtin; refine wpList_cat (enc := encV) (w0 := w4.alloc (.cells #[] 52)) rfl _ _ 57 rfl w4.heap.size w4.heap.size 52 i0 _ 3 32 Try.underlying57 hi0 hz0 hz1 hz2 rfl (by decide) _ _ [] xs (Own.made w4 (Nat.le_refl _)) _ (h.below (c4.alloc c4.size _) (Nat.le_refl _)) (Below.refl _ _) (by simp) (Nat.le_refl _) rfl rfl (by simp [Value.oneCell']) (by simp; omega) (by decide) ?_; intro v' w' hown' hb' hB' hg')
        go_ret2
        exact ⟨_, _, rfl, by rw [HA.out]; exact hown'.less (by have := c4.size; omega), (c4.alloc c4.size _).trans (hb'.mono c4.size)⟩
      · have HA := hid (show addV xs ⟨r, e0, t⟩ = xs ++ [⟨r, e0, t⟩] by unfold addV; rw [hok, hok2]; rfl)
        go_wp2
        go_ret2
        exact ⟨_, _, rfl, by rw [HA.out]; exact o6.less hB0, c4⟩

end Go.Proofs.Ytnedkfmbeeodfaa
