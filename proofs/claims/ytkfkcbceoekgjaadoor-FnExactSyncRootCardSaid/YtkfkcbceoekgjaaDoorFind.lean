/- Walks: where a print is in a store. -/
import Derived.Test.YtkfkcbceoekgjaaDoorStore
namespace Go.Proofs.YtkfkcbceoekgjaaDoor
open Go.RowKit

theorem find_at {l : List Pc} {n : Int} (h : storeOk l = true) (hh : hasP l n = true) : ∃ x : Pc, l[findAt l n]? = some x ∧ getP l n = some x.text ∧ x.print = n := by
  cases hg : l[findAt l n]? with
  | none =>
    exfalso
    have := find_no (l := l) (n := n) (st_asc h) (fun z hz => by rw [hg] at hz; cases hz)
    unfold hasP at hh
    rw [this] at hh
    cases hh
  | some z =>
    by_cases hz : z.print = n
    · exact ⟨z, rfl, find_has (st_asc h) hg hz, hz⟩
    · exfalso
      have := find_no (l := l) (n := n) (st_asc h) (fun z' hz' => by rw [hg] at hz'; rw [← Option.some.inj hz']; exact hz)
      unfold hasP at hh
      rw [this] at hh
      cases hh

def cmpI (x y : Int) : Int := if x < y then -1 else if y < x then 1 else 0

set_option maxHeartbeats 400000 in
theorem cmp_isNaN_c (x : Int) (w : World) :
    Calls Tryd.prog 65 #[.int .i64 x] w fun e w' => e = .returned (.bool false) ∧ w = w' := by
  go_enter Tryd.func65, Tryd.ntmps65
  go_wp2
  go_ret
  exact ⟨by simp, rfl⟩

set_option maxHeartbeats 400000 in
theorem cmp_Compare_c (x y : Int) (w : World) :
    Calls Tryd.prog 52 #[.int .i64 x, .int .i64 y] w fun e w' => e = .returned (.int .i64 (cmpI x y)) ∧ w = w' := by
  by_cases h1 : x < y
  · have HO := hid (show cmpI x y = -1 by unfold cmpI; rw [if_pos h1])
    go_enter Tryd.func52, Tryd.ntmps52
    go_wp2_with (go_at_call 65; refine (cmp_isNaN_c _ _).mono ?_; rintro e w' ⟨rfl, rfl⟩)
    go_ret
    exact ⟨ret_i HO.out.symm, rfl⟩
  · by_cases h2 : y < x
    · have HO := hid (show cmpI x y = 1 by unfold cmpI; rw [if_neg h1, if_pos h2])
      go_enter Tryd.func52, Tryd.ntmps52
      go_wp2_with (go_at_call 65; refine (cmp_isNaN_c _ _).mono ?_; rintro e w' ⟨rfl, rfl⟩)
      go_ret
      exact ⟨ret_i HO.out.symm, rfl⟩
    · have HO := hid (show cmpI x y = 0 by unfold cmpI; rw [if_neg h1, if_neg h2])
      go_enter Tryd.func52, Tryd.ntmps52
      go_wp2_with (go_at_call 65; refine (cmp_isNaN_c _ _).mono ?_; rintro e w' ⟨rfl, rfl⟩)
      go_ret
      exact ⟨ret_i HO.out.symm, rfl⟩

set_option maxHeartbeats 400000 in
theorem impl_findPiece1_c (r : Int) (t : ByteArray) (y z : Int) (hz : cmpI r y = z) (w : World) :
    Calls Tryd.prog 51 #[.agg #[.int .i64 r, .string t], .int .i64 y] w fun e w' => e = .returned (.int .i64 z) ∧ Below w.heap.size w w' := by
  have HZ := hid hz
  clear hz
  go_enter Tryd.func51, Tryd.ntmps51
  go_wp2_with (go_at_call 52; refine (cmp_Compare_c _ _ _).mono ?_; rintro e w' ⟨rfl, rfl⟩)
  go_ret
  exact ⟨ret_i HZ.out, (Below.refl _ _).alloc (Nat.le_refl _) _⟩

set_option maxHeartbeats 2000000 in
set_option maxRecDepth 100000 in
theorem bsearch_c (v : Value) (xs : List Pc) (y : Int) (w : World) (h : Pcs w w.heap.size v xs) (ha : xs.Pairwise (fun a b => a.print < b.print)) (hl : xs.length ≤ 1048576) :
    Calls Tryd.prog 50 #[v, .int .i64 y, .func (.func 51) #[] #[]] w fun e w' => e = .returned (.tuple #[.int .i64 (findAt xs y), .bool (hasP xs y)]) ∧ Below w.heap.size w w' := by
  obtain ⟨n, hn⟩ : ∃ n, xs.length = n := ⟨_, rfl⟩
  obtain ⟨a, c, rfl, h1, h2, h3⟩ := h.pcs hn
  rw [hn] at hl
  have HN := hid hn
  have HA := hid ha
  clear hn ha h
  go_enter Tryd.func50, Tryd.ntmps50
  go_wp2
  go_loopw [9, 10] (fun i j wr => ∃ lo hi : Nat, i = .int .i64 lo ∧ j = .int .i64 hi ∧ lo ≤ hi ∧ hi ≤ n ∧ Hid ((∀ (q : Nat) (x : Pc), q < lo → xs[q]? = some x → x.print < y) ∧ (∀ (q : Nat) (x : Pc), hi ≤ q → xs[q]? = some x → y ≤ x.print)) ∧ Below w.heap.size w wr) (fun i j _ => (intOf j).toNat - (intOf i).toNat)
  case atStart => exact ⟨0, n, rfl, rfl, Nat.zero_le _, Nat.le_refl _, hid ⟨fun q x hq => absurd hq (Nat.not_lt_zero _), fun q x hq hg => absurd (List.getElem?_eq_some_iff.1 hg).1 (by have := HN.out; omega)⟩, Below.refl _ _⟩
  case round =>
    obtain ⟨lo, hi, rfl, rfl, hlh, hin, hinv, hb⟩ := hrel
    by_cases hlt : lo < hi
    · obtain ⟨m, hm⟩ : ∃ m, (lo + hi) / 2 = m := ⟨_, rfl⟩
      have hmi : ((lo : Int) + (hi : Int)) / 2 = (m : Int) := by omega
      have hm1 : lo ≤ m := by omega
      have hm2 : m < hi := by omega
      obtain ⟨b, o, r, t, rfl, hbl, hx, k0, k1⟩ := h3 m (by omega)
      have j0 := (hb.cell (p := ⟨b, o + m * 2, none⟩) hbl).trans k0
      have j1 := (hb.cell (p := ⟨b, o + m * 2 + 1, none⟩) hbl).trans k1
      clear k0 k1 h3 hm
      obtain ⟨z, hz⟩ : ∃ z, cmpI r y = z := ⟨_, rfl⟩
      by_cases hry : r < y
      · have hz1 : z = -1 := by rw [← hz]; unfold cmpI; rw [if_pos hry]
        subst hz1
        have HZ := hid hz
        have HS := hid (show ∀ (q : Nat) (x : Pc), q < m + 1 → xs[q]? = some x → x.print < y by
          intro q x hq hg
          rcases Nat.lt_succ_iff_lt_or_eq.1 hq with h | rfl
          · have := asc_get HA.out hg hx.out h
            simp only at this; omega
          · rw [hx.out] at hg; rw [← Option.some.inj hg]; exact hry)
        clear hz hry
        go_wp2_with fail
        refine (impl_findPiece1_c r t y _ HZ.out _).mono ?_
        rintro e w4 ⟨rfl, b4⟩
        have hb4 := bl_then hb b4
        clear b4
        go_wp2
        go_roundw
        case rel => exact ⟨m + 1, hi, by go_num, rfl, by omega, hin, hid ⟨HS.out, hinv.out.2⟩, hb4⟩
        case measure => simp [intOf]; omega
      · have hz0 : ¬ z < 0 := by rw [← hz]; unfold cmpI; rw [if_neg hry]; split <;> omega
        have hz0' : decide (z < 0) = false := by simp; omega
        have HZ := hid hz
        have HS := hid (show ∀ (q : Nat) (x : Pc), m ≤ q → xs[q]? = some x → y ≤ x.print by
          intro q x hq hg
          rcases Nat.lt_or_eq_of_le hq with h | rfl
          · have := asc_get HA.out hx.out hg h
            simp only at this; omega
          · rw [hx.out] at hg; rw [← Option.some.inj hg]; simp only; omega)
        clear hz hry
        go_wp2_with fail
        refine (impl_findPiece1_c r t y _ HZ.out _).mono ?_
        rintro e w4 ⟨rfl, b4⟩
        have hb4 := bl_then hb b4
        clear b4
        go_wp2
        go_roundw
        case rel => exact ⟨lo, m, rfl, rfl, by omega, by omega, hid ⟨hinv.out.1, HS.out⟩, hb4⟩
        case measure => simp [intOf]; omega
    · obtain rfl : hi = lo := by omega
      have HF := hid (findAt_eq (l := xs) (n := y) (k := hi) (by rw [HN.out]; exact hin) hinv.out.1 (fun x hx => hinv.out.2 _ _ (Nat.le_refl _) hx))
      by_cases hend : hi < n
      · obtain ⟨b, o, r, t, rfl, hbl, hx, k0, k1⟩ := h3 hi hend
        have j0 := (hb.cell (p := ⟨b, o + hi * 2, none⟩) hbl).trans k0
        have j1 := (hb.cell (p := ⟨b, o + hi * 2 + 1, none⟩) hbl).trans k1
        clear k0 k1 h3
        obtain ⟨z, hz⟩ : ∃ z, cmpI r y = z := ⟨_, rfl⟩
        have hry := hinv.out.2 _ _ (Nat.le_refl _) hx.out
        simp only at hry
        have hzb : (z == 0) = hasP xs y := by
          rw [Bool.eq_iff_iff, hasP_iff, beq_iff_eq]
          constructor
          · intro h0
            refine ⟨_, List.mem_of_getElem? hx.out, ?_⟩
            rw [← hz] at h0
            unfold cmpI at h0
            split at h0
            · simp at h0
            · split at h0
              · simp at h0
              · simp only; omega
          · rintro ⟨x, hxm, rfl⟩
            obtain ⟨q, hq, e⟩ := List.getElem_of_mem hxm
            have hg : xs[q]? = some x := by rw [List.getElem?_eq_getElem hq, e]
            have hqi : q = hi := by
              rcases Nat.lt_trichotomy q hi with h | h | h
              · have := hinv.out.1 _ _ h hg; omega
              · exact h
              · have := asc_get HA.out hx.out hg h; simp only at this; omega
            subst hqi
            rw [hx.out] at hg
            have := Option.some.inj hg
            subst this
            rw [← hz]; unfold cmpI; simp
        have HZ := hid hz
        have HZB := hid hzb
        clear hz hry hzb
        go_wp2_with fail
        refine (impl_findPiece1_c r t y _ HZ.out _).mono ?_
        rintro e w4 ⟨rfl, b4⟩
        have hb4 := bl_then hb b4
        clear b4
        go_wp2
        go_ret2
        exact ⟨by rw [HF.out, ← HZB.out]; rfl, hb4⟩
      · have HH := hid (show hasP xs y = false by
          rw [Bool.eq_false_iff]
          intro hh
          obtain ⟨x, hxm, hxy⟩ := hasP_iff.1 hh
          obtain ⟨q, hq, e⟩ := List.getElem_of_mem hxm
          have hg : xs[q]? = some x := by rw [List.getElem?_eq_getElem hq, e]
          have := hinv.out.1 _ _ (by have := HN.out; omega) hg
          omega)
        clear h3
        go_wp2
        go_ret2
        exact ⟨by rw [HF.out, HH.out]; rfl, hb⟩

set_option maxHeartbeats 400000 in
theorem impl_findPiece_c (v : Value) (xs : List Pc) (y : Int) (w : World) (h : Pcs w w.heap.size v xs) (ho : storeOk xs = true) :
    Calls Tryd.prog 29 #[v, .int .i64 y] w fun e w' => e = .returned (.tuple #[.int .i64 (findAt xs y), .bool (hasP xs y)]) ∧ Below w.heap.size w w' := by
  obtain ⟨n, hn⟩ : ∃ n, xs.length = n := ⟨_, rfl⟩
  obtain ⟨a, c, rfl, h1, h2, h3⟩ := h.pcs hn
  have h40 := (st_in ho).1
  have HO := hid ho
  clear h3
  go_enter Tryd.func29, Tryd.ntmps29
  go_wp2_with fail
  refine (bsearch_c _ xs y _ h (st_asc HO.out) (by omega)).mono ?_
  rintro e w1 ⟨rfl, b1⟩
  go_wp2
  go_ret2
  exact ⟨rfl, b1⟩

set_option maxHeartbeats 400000 in
theorem impl_textOf_c (v : Value) (xs : List Pc) (y : Int) (w : World) (h : Pcs w w.heap.size v xs) (ho : storeOk xs = true) :
    Calls Tryd.prog 56 #[v, .int .i64 y] w fun e w' => e = .returned (.tuple #[.string ((getP xs y).getD ByteArray.empty), .bool (hasP xs y)]) ∧ Below w.heap.size w w' := by
  obtain ⟨n, hn⟩ : ∃ n, xs.length = n := ⟨_, rfl⟩
  obtain ⟨a, c, rfl, h1, h2, h3⟩ := h.pcs hn
  have HN := hid hn
  have HO := hid ho
  clear hn ho
  obtain ⟨q, hq⟩ : ∃ q, findAt xs y = q := ⟨_, rfl⟩
  have HQ := hid hq
  cases hh : hasP xs y
  · have HG := hid (show getP xs y = none by unfold hasP at hh; simpa using hh)
    have HH := hid hh
    clear hh hq h3
    go_enter Tryd.func56, Tryd.ntmps56
    go_wp2_with fail
    refine (impl_findPiece_c _ xs y _ h HO.out).mono ?_
    rw [HQ.out, HH.out]
    rintro e w1 ⟨rfl, b1⟩
    go_wp2
    go_ret2
    exact ⟨by rw [HG.out]; rfl, b1⟩
  · have hex : ∃ x, xs[q]? = some x ∧ x.print = y := by
      obtain ⟨x, hxm, hxy⟩ := hasP_iff.1 hh
      cases hg : xs[q]? with
      | none =>
        exfalso
        have := find_no (l := xs) (n := y) (st_asc HO.out) (fun z hz => by rw [hq, hg] at hz; cases hz)
        unfold hasP at hh
        rw [this] at hh
        cases hh
      | some z =>
        by_cases hz : z.print = y
        · exact ⟨z, rfl, hz⟩
        · exfalso
          have := find_no (l := xs) (n := y) (st_asc HO.out) (fun z' hz' => by rw [hq, hg] at hz'; rw [← Option.some.inj hz']; exact hz)
          unfold hasP at hh
          rw [this] at hh
          cases hh
    obtain ⟨x, hx1, hx2⟩ := hex
    have hqn : q < n := by have := (List.getElem?_eq_some_iff.1 hx1).1; have := HN.out; omega
    have hgt := find_has (l := xs) (n := y) (x := x) (st_asc HO.out) (by rw [hq]; exact hx1) hx2
    obtain ⟨b, o, r, t, rfl, hbl, hx, k0, k1⟩ := h3 q hqn
    have hxr : x = ⟨r, t⟩ := by have := hx1.symm.trans hx.out; simpa using this
    subst hxr
    have HG := hid hgt
    have HH := hid hh
    clear hh hq h3 hgt hx1 hx2 k0
    go_enter Tryd.func56, Tryd.ntmps56
    go_wp2_with fail
    refine (impl_findPiece_c _ xs y _ h HO.out).mono ?_
    rw [HQ.out, HH.out]
    rintro e w1 ⟨rfl, b1⟩
    have j1 := (b1.cell (p := ⟨b, o + q * 2 + 1, none⟩) hbl).trans k1
    have hqn' : (q : Int) < n := by omega
    go_wp2
    go_ret2
    exact ⟨by rw [HG.out]; rfl, b1⟩

end Go.Proofs.YtkfkcbceoekgjaaDoor
