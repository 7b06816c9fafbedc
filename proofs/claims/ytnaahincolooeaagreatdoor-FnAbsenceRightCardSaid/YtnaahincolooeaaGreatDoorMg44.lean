/- Walks and plain facts, joined: DrawPf. -/
import Derived.Test.YtnaahincolooeaaGreatDoorMg40
import Derived.Test.YtnaahincolooeaaGreatDoorMg43
set_option linter.unusedVariables false
set_option linter.unusedSimpArgs false

/- Walks: drawn proofs. -/
namespace Go.Proofs.YtnaahincolooeaaGreatDoor
open Go.RowKit

theorem gb_two {w w1 w2 : World} {g : Nat} (hd : Below w.heap.size w w1) (hg : w1.grownBy w2 (some g)) (h : w.heap.size ≤ g) : Below w.heap.size w w2 := hd.grown hg hd.size (fun b hb => by simp at hb; omega)
theorem own_setS {w : World} {B g n c j : Nat} {xs : List ByteArray} {s : ByteArray} (h : OwnS w B (.slice (some ⟨g, 0, none⟩) n c) xs) (hn : xs.length = n) (hj : j < n) : OwnS (w.setCell ⟨g, j, none⟩ (.string s)) B (.slice (some ⟨g, 0, none⟩) n c) (xs.set j s) := by
  have hf : ∀ l : List ByteArray, l.flatMap encS = l.map Value.string := fun l => by
    induction l with
    | nil => rfl
    | cons x r ih => rw [List.flatMap_cons, ih]; rfl
  rcases h.2 with ⟨hv, _⟩ | ⟨g', cap, cur, hv, hb, hh, hnc, hcm, hcs, hct⟩
  · simp at hv
  · simp only [Value.slice.injEq, Option.some.injEq, Addr.mk.injEq, and_true] at hv
    obtain ⟨rfl, hv2, rfl⟩ := hv
    rw [hf, hn] at hct
    refine ⟨by rw [hf]; simp, .inr ⟨g, c, cur.setIfInBounds j (.string s), by rw [List.length_set, hn], hb, setCell_heap hh, by rw [List.length_set]; exact hnc, hcm, by rw [Array.size_setIfInBounds]; exact hcs, ?_⟩⟩
    rw [hf, List.length_set, hn, Array.toList_setIfInBounds, List.map_set, ← hct, List.take_set]
theorem own_cellS {w : World} {B g n c j : Nat} {xs : List ByteArray} (h : OwnS w B (.slice (some ⟨g, 0, none⟩) n c) xs) (hn : xs.length = n) (hj : j < n) : (∃ u, w.cell? ⟨g, j, none⟩ = some u) ∧ w.frozen? ⟨g, j, none⟩ = false := by
  rcases h.2 with ⟨hv, _⟩ | ⟨g', cap, cur, hv, hb, hh, hnc, hcm, hcs, hct⟩
  · simp at hv
  · simp only [Value.slice.injEq, Option.some.injEq, Addr.mk.injEq, and_true] at hv
    obtain ⟨rfl, hv2, rfl⟩ := hv
    refine ⟨⟨cur[j]'(by omega), ?_⟩, frozen_of_row _ _ _ _ _ hh⟩
    simp only [World.cell?, hh]
    simp <;> omega
/-- A drawn root, a path and a proof. -/
def ProofB (w : World) (e : Ending) (w' : World) : Prop := ∃ (root : Int) (path : ByteArray) (tv : Value) (proof : List ByteArray), e = .returned (.tuple #[.int .i64 root, .string path, tv]) ∧ OwnS w' w.heap.size tv proof ∧ (∀ t ∈ proof, t.size ≤ 1000000) ∧ proof.length ≤ 5 ∧ path.size ≤ 40 ∧ Below w.heap.size w w'

set_option maxHeartbeats 2000000 in
set_option maxRecDepth 100000 in
theorem spec_l20Proof_c (v : Value) (l0 : List Int) (w : World) (h : Rd encU 1 w w.heap.size v l0) (hl : ∀ x ∈ l0, 0 ≤ x ∧ x ≤ 255) :
    Calls Tryz.prog 91 #[v] w (ProofB w) := by
  unfold ProofB
  have HV := hid h
  have HL0 := hid hl
  go_enter Tryz.func91, Tryz.ntmps91
  go_wp2_with fail
  refine (spec_l20Where_c v l0 w h hl).mono ?_
  rintro e w1 ⟨sv, xs, root, path, rfl, o1, hd, hps, b1⟩
  have S1 := hid (Rd.of_own o1)
  have HD := hid hd
  clear o1 hd h hl
  go_wp2_with fail
  refine (spec_l20Open_c v l0 w1 (HV.out.on b1) HL0.out).mono ?_
  rintro e w2 ⟨l, rfl, r2, b2⟩
  obtain ⟨g, hg⟩ : ∃ g, w1.heap.size = g := ⟨_, rfl⟩
  rw [hg] at r2
  rw [hg]
  have R2 := hid r2
  have S2 := hid (S1.out.on b2)
  have D2 := hid (bl_then b1 b2)
  have hgw : w.heap.size ≤ g := by rw [← hg]; exact b1.size
  have hg2 : g < w2.heap.size := r2.lt
  clear r2 b1 b2 S1 hg
  obtain ⟨T, hT⟩ : ∃ T, pathProof xs root (bs path) = T := ⟨_, rfl⟩
  have HT := hid hT
  obtain ⟨q, hq⟩ : ∃ q, T.length = q := ⟨_, rfl⟩
  have HQ := hid hq
  have HTS := hid (show ∀ t ∈ T, t.size ≤ 1000000 from fun t ht => by rw [← hT] at ht; have := pathProof_small t ht; omega)
  have hq4 : q ≤ 4 := by rw [← hq, ← hT]; exact pathProof_len
  clear hT hq
  go_wp2_with fail
  refine (spec_PathProof_c _ xs root path _ T HT.out S2.out HD.out.sizes2.1 HD.out.sizes2.2 (by omega)).mono ?_
  rintro e w3 ⟨tv, rfl, o3, b3⟩
  obtain ⟨ta, tc, rfl, _, _, _⟩ := (Rd.of_own o3).strs HQ.out
  have R3 := hid (R2.out.on b3)
  have D3 := hid (bl_then D2.out b3)
  have O3 := hid (o3.less (show g + 1 ≤ w2.heap.size by omega))
  have S3 := hid (S2.out.on b3)
  clear o3 b3 R2 D2 S2
  by_cases hq0 : q = 0
  · have hqd : ((q : Int) == 0) = true := by simp [hq0]
    clear hq0
    obtain ⟨T, hT⟩ : ∃ T, absProof xs root (bs path) = T := ⟨_, rfl⟩
    have HT := hid hT
    obtain ⟨q, hq⟩ : ∃ q, T.length = q := ⟨_, rfl⟩
    have HQ := hid hq
    have HTS := hid (show ∀ t ∈ T, t.size ≤ 1000000 from fun t ht => by rw [← hT] at ht; have := absProof_small t ht; omega)
    have hq4 : q ≤ 4 := by rw [← hq, ← hT]; exact absProof_len
    clear hT hq
    go_wp2_with fail
    refine (spec_AbsenceProof_c _ xs root path _ T HT.out S3.out HD.out.sizes2.1 HD.out.sizes2.2 (by omega)).mono ?_
    rintro e w4 ⟨tv, rfl, o4, b4⟩
    obtain ⟨ta, tc, rfl, _, _, _⟩ := (Rd.of_own o4).strs HQ.out
    have R := hid (R3.out.on b4)
    have D := hid (bl_then D3.out b4)
    have O := hid (o4.less (show g + 1 ≤ w3.heap.size by have := R3.out.lt; omega))
    clear o4 b4 R3 D3 S3 O3
    go_wp2_with fail
    refine (spec_pick_c g 0 l 8 _ R.out (by omega)).mono ?_
    rintro e w5 ⟨x, rfl, x0, x3, _, r5, g5⟩
    have R5 := hid r5
    have O5 := hid (O.out.far g5 (fun b hb => by simp at hb; omega))
    have D5 := hid (gb_two D.out g5 hgw)
    clear r5 g5 R O D
    by_cases h0 : x = 0
    · subst h0
      go_wp2_with fail
      refine (spec_l20Print_c g _ l 3 _ R5.out (by omega) (by omega) (by omega)).mono ?_
      rintro e w6 ⟨rx, p6, rfl, hp6, r6, g6⟩
      have O6 := hid (O5.out.far g6 (fun b hb => by simp at hb; omega))
      have d6 := gb_two D5.out g6 hgw
      clear r6 g6
      go_wp2
      go_ret3
      exact ⟨_, _, _, _, rfl, O6.out.less (by omega), HTS.out, by rw [HQ.out]; omega, hps, d6⟩
    have h0' : (x == 0) = false := by simp [h0]
    by_cases h1 : x = 1
    · subst h1
      go_wp2_with fail
      refine (spec_l20Path_c g _ l 3 _ R5.out (by omega) (by omega) (by omega)).mono ?_
      rintro e w6 ⟨s6, p6, rfl, hs6, _, hp6, r6, g6⟩
      have O6 := hid (O5.out.far g6 (fun b hb => by simp at hb; omega))
      have d6 := gb_two D5.out g6 hgw
      clear r6 g6
      go_wp2
      go_ret3
      exact ⟨_, _, _, _, rfl, O6.out.less (by omega), HTS.out, by rw [HQ.out]; omega, by omega, d6⟩
    have h1' : (x == 1) = false := by simp [h1]
    by_cases h2 : x = 2
    · subst h2
      go_wp2_with fail
      refine (spec_pick_c g _ l 3 _ (R5.out.alloc _) (by omega)).mono ?_
      rintro e w6 ⟨y, rfl, y0, y3, _, r6, g6⟩
      have hh := (g6.block w5.heap.size (by simp) (some_ne (by have := R5.out.lt; omega))).trans (heap_alloc_new w5 _)
      have y3' := y3 (by omega)
      obtain ⟨j, rfl⟩ : ∃ j : Nat, y = j := ⟨y.toNat, by omega⟩
      have hj : j < 3 := by omega
      obtain ⟨s, hs, hs0⟩ := strP_cell (p := sizeS) (t := 9) (cs := #[.string ⟨#[102, 104, 105]⟩, .string ⟨#[100]⟩, .string ⟨#[]⟩]) (by rfl) hj
      have hc := hs0 _ _ hh
      have hs12 := of_decide_eq_true hs
      have O6 := hid ((O5.out.alloc _).far g6 (fun b hb => by simp at hb; omega))
      have D6 := hid (gb_two D5.out (gb_unalloc g6) hgw)
      have HB6 := hid (show g + 1 ≤ w6.heap.size from r6.lt)
      clear hs0 hh r6 g6 y3 x3
      go_wp2_with (at_builtin; refine push_str (w0 := w) rfl _ _ rfl (g + 1) w.heap.size _ T s O6.out D6.out HB6.out (by omega) rfl rfl (by have := HQ.out; omega) ?_; intro v7 w7 o7 b7 _ _)
      go_ret3
      exact ⟨_, _, _, _, rfl, o7.less (by omega), (fun t ht => (List.mem_append.1 ht).elim (HTS.out t) (fun h => by simp only [List.mem_singleton] at h; rw [h]; omega)), by simp only [List.length_append, List.length_singleton]; have := HQ.out; omega, hps, b7⟩
    have h2' : (x == 2) = false := by simp [h2]
    by_cases h3 : x = 3
    · subst h3
      by_cases hqz : q = 0
      · subst hqz
        have hqz' : ¬ ((0 : Int) < ((0 : Nat) : Int)) := by omega
        go_wp2
        go_ret3
        exact ⟨_, _, _, _, rfl, O5.out.less (by omega), HTS.out, by rw [HQ.out]; omega, hps, D5.out⟩
      · have hqz' : (0 : Int) < q := by omega
        obtain ⟨tg, rfl⟩ : ∃ tg, ta = some ⟨tg, 0, none⟩ := by
          rcases O5.out.2 with ⟨e1, e2⟩ | ⟨g', cap, cur, hv, _⟩
          · simp only [Value.slice.injEq] at e1; omega
          · simp only [Value.slice.injEq] at hv; exact ⟨g', hv.1⟩
        go_wp2_with fail
        refine (spec_pick_c g _ l q _ R5.out (by omega)).mono ?_
        rintro e w6 ⟨y, rfl, y0, y3, _, r6, g6⟩
        have y3' := y3 (by omega)
        obtain ⟨i, rfl⟩ : ∃ i : Nat, y = i := ⟨y.toNat, by omega⟩
        have hiq : i < q := by omega
        have hiq' : (i : Int) < q := by omega
        have R6 := hid r6
        have O6 := hid (O5.out.far g6 (fun b hb => by simp at hb; omega))
        have D6 := hid (gb_two D5.out g6 hgw)
        clear r6 g6 y3 R5 O5 D5
        go_wp2_with fail
        refine (spec_pick_c g _ l 3 _ (R6.out.alloc _) (by omega)).mono ?_
        rintro e w7 ⟨y, rfl, z0, z3, _, r7, g7⟩
        have hh := (g7.block w6.heap.size (by simp) (some_ne (by have := R6.out.lt; omega))).trans (heap_alloc_new w6 _)
        have z3' := z3 (by omega)
        obtain ⟨j, rfl⟩ : ∃ j : Nat, y = j := ⟨y.toNat, by omega⟩
        have hj : j < 3 := by omega
        obtain ⟨s, hs, hs0⟩ := strP_cell (p := sizeS) (t := 9) (cs := #[.string ⟨#[102, 104, 111]⟩, .string ⟨#[100]⟩, .string ⟨#[10]⟩]) (by rfl) hj
        have hc := hs0 _ _ hh
        have hs12 := of_decide_eq_true hs
        have O7 := hid ((O6.out.alloc _).far g7 (fun b hb => by simp at hb; omega))
        have D7 := hid (gb_two D6.out (gb_unalloc g7) hgw)
        obtain ⟨hcs, hfz⟩ : (∃ u, w7.cell? ⟨tg, i, none⟩ = some u) ∧ w7.frozen? ⟨tg, i, none⟩ = false := own_cellS O7.out HQ.out hiq
        obtain ⟨u0, hu0⟩ := hcs
        clear hs0 hh r7 g7 z3 x3 R6 O6 D6
        go_wp2
        go_ret3
        refine ⟨_, _, _, _, rfl, (own_setS O7.out HQ.out hiq).less (by omega), (fun t ht => ?_), by rw [List.length_set, HQ.out]; omega, hps, ?_⟩
        · rcases List.mem_or_eq_of_mem_set ht with h | h
          · exact HTS.out t h
          · rw [h]; omega
        · exact D7.out.setCell (show w.heap.size ≤ tg by have := (O7.out.lt tg rfl).1; omega) _
    have h3' : (x == 3) = false := by simp [h3]
    go_wp2
    go_ret3
    exact ⟨_, _, _, _, rfl, O5.out.less (by omega), HTS.out, by rw [HQ.out]; omega, hps, D5.out⟩
  · have hqd : ((q : Int) == 0) = false := by simp [hq0]
    have R := R3
    have D := D3
    have O := O3
    clear hq0 R3 D3 O3 S3
    go_wp2_with fail
    refine (spec_pick_c g 0 l 8 _ R.out (by omega)).mono ?_
    rintro e w5 ⟨x, rfl, x0, x3, _, r5, g5⟩
    have R5 := hid r5
    have O5 := hid (O.out.far g5 (fun b hb => by simp at hb; omega))
    have D5 := hid (gb_two D.out g5 hgw)
    clear r5 g5 R O D
    by_cases h0 : x = 0
    · subst h0
      go_wp2_with fail
      refine (spec_l20Print_c g _ l 3 _ R5.out (by omega) (by omega) (by omega)).mono ?_
      rintro e w6 ⟨rx, p6, rfl, hp6, r6, g6⟩
      have O6 := hid (O5.out.far g6 (fun b hb => by simp at hb; omega))
      have d6 := gb_two D5.out g6 hgw
      clear r6 g6
      go_wp2
      go_ret3
      exact ⟨_, _, _, _, rfl, O6.out.less (by omega), HTS.out, by rw [HQ.out]; omega, hps, d6⟩
    have h0' : (x == 0) = false := by simp [h0]
    by_cases h1 : x = 1
    · subst h1
      go_wp2_with fail
      refine (spec_l20Path_c g _ l 3 _ R5.out (by omega) (by omega) (by omega)).mono ?_
      rintro e w6 ⟨s6, p6, rfl, hs6, _, hp6, r6, g6⟩
      have O6 := hid (O5.out.far g6 (fun b hb => by simp at hb; omega))
      have d6 := gb_two D5.out g6 hgw
      clear r6 g6
      go_wp2
      go_ret3
      exact ⟨_, _, _, _, rfl, O6.out.less (by omega), HTS.out, by rw [HQ.out]; omega, by omega, d6⟩
    have h1' : (x == 1) = false := by simp [h1]
    by_cases h2 : x = 2
    · subst h2
      go_wp2_with fail
      refine (spec_pick_c g _ l 3 _ (R5.out.alloc _) (by omega)).mono ?_
      rintro e w6 ⟨y, rfl, y0, y3, _, r6, g6⟩
      have hh := (g6.block w5.heap.size (by simp) (some_ne (by have := R5.out.lt; omega))).trans (heap_alloc_new w5 _)
      have y3' := y3 (by omega)
      obtain ⟨j, rfl⟩ : ∃ j : Nat, y = j := ⟨y.toNat, by omega⟩
      have hj : j < 3 := by omega
      obtain ⟨s, hs, hs0⟩ := strP_cell (p := sizeS) (t := 9) (cs := #[.string ⟨#[102, 104, 105]⟩, .string ⟨#[100]⟩, .string ⟨#[]⟩]) (by rfl) hj
      have hc := hs0 _ _ hh
      have hs12 := of_decide_eq_true hs
      have O6 := hid ((O5.out.alloc _).far g6 (fun b hb => by simp at hb; omega))
      have D6 := hid (gb_two D5.out (gb_unalloc g6) hgw)
      have HB6 := hid (show g + 1 ≤ w6.heap.size from r6.lt)
      clear hs0 hh r6 g6 y3 x3
      go_wp2_with (at_builtin; refine push_str (w0 := w) rfl _ _ rfl (g + 1) w.heap.size _ T s O6.out D6.out HB6.out (by omega) rfl rfl (by have := HQ.out; omega) ?_; intro v7 w7 o7 b7 _ _)
      go_ret3
      exact ⟨_, _, _, _, rfl, o7.less (by omega), (fun t ht => (List.mem_append.1 ht).elim (HTS.out t) (fun h => by simp only [List.mem_singleton] at h; rw [h]; omega)), by simp only [List.length_append, List.length_singleton]; have := HQ.out; omega, hps, b7⟩
    have h2' : (x == 2) = false := by simp [h2]
    by_cases h3 : x = 3
    · subst h3
      by_cases hqz : q = 0
      · subst hqz
        have hqz' : ¬ ((0 : Int) < ((0 : Nat) : Int)) := by omega
        go_wp2
        go_ret3
        exact ⟨_, _, _, _, rfl, O5.out.less (by omega), HTS.out, by rw [HQ.out]; omega, hps, D5.out⟩
      · have hqz' : (0 : Int) < q := by omega
        obtain ⟨tg, rfl⟩ : ∃ tg, ta = some ⟨tg, 0, none⟩ := by
          rcases O5.out.2 with ⟨e1, e2⟩ | ⟨g', cap, cur, hv, _⟩
          · simp only [Value.slice.injEq] at e1; omega
          · simp only [Value.slice.injEq] at hv; exact ⟨g', hv.1⟩
        go_wp2_with fail
        refine (spec_pick_c g _ l q _ R5.out (by omega)).mono ?_
        rintro e w6 ⟨y, rfl, y0, y3, _, r6, g6⟩
        have y3' := y3 (by omega)
        obtain ⟨i, rfl⟩ : ∃ i : Nat, y = i := ⟨y.toNat, by omega⟩
        have hiq : i < q := by omega
        have hiq' : (i : Int) < q := by omega
        have R6 := hid r6
        have O6 := hid (O5.out.far g6 (fun b hb => by simp at hb; omega))
        have D6 := hid (gb_two D5.out g6 hgw)
        clear r6 g6 y3 R5 O5 D5
        go_wp2_with fail
        refine (spec_pick_c g _ l 3 _ (R6.out.alloc _) (by omega)).mono ?_
        rintro e w7 ⟨y, rfl, z0, z3, _, r7, g7⟩
        have hh := (g7.block w6.heap.size (by simp) (some_ne (by have := R6.out.lt; omega))).trans (heap_alloc_new w6 _)
        have z3' := z3 (by omega)
        obtain ⟨j, rfl⟩ : ∃ j : Nat, y = j := ⟨y.toNat, by omega⟩
        have hj : j < 3 := by omega
        obtain ⟨s, hs, hs0⟩ := strP_cell (p := sizeS) (t := 9) (cs := #[.string ⟨#[102, 104, 111]⟩, .string ⟨#[100]⟩, .string ⟨#[10]⟩]) (by rfl) hj
        have hc := hs0 _ _ hh
        have hs12 := of_decide_eq_true hs
        have O7 := hid ((O6.out.alloc _).far g7 (fun b hb => by simp at hb; omega))
        have D7 := hid (gb_two D6.out (gb_unalloc g7) hgw)
        obtain ⟨hcs, hfz⟩ : (∃ u, w7.cell? ⟨tg, i, none⟩ = some u) ∧ w7.frozen? ⟨tg, i, none⟩ = false := own_cellS O7.out HQ.out hiq
        obtain ⟨u0, hu0⟩ := hcs
        clear hs0 hh r7 g7 z3 x3 R6 O6 D6
        go_wp2
        go_ret3
        refine ⟨_, _, _, _, rfl, (own_setS O7.out HQ.out hiq).less (by omega), (fun t ht => ?_), by rw [List.length_set, HQ.out]; omega, hps, ?_⟩
        · rcases List.mem_or_eq_of_mem_set ht with h | h
          · exact HTS.out t h
          · rw [h]; omega
        · exact D7.out.setCell (show w.heap.size ≤ tg by have := (O7.out.lt tg rfl).1; omega) _
    have h3' : (x == 3) = false := by simp [h3]
    go_wp2
    go_ret3
    exact ⟨_, _, _, _, rfl, O5.out.less (by omega), HTS.out, by rw [HQ.out]; omega, hps, D5.out⟩

set_option maxHeartbeats 2000000 in
set_option maxRecDepth 100000 in
theorem spec_DrawProofRight_c (v : Value) (l : List Int) (w : World) (h : Rd encU 1 w w.heap.size v l) (hl : ∀ x ∈ l, 0 ≤ x ∧ x ≤ 255) :
    Calls Tryz.prog 43 #[v] w (ProofB w) := by
  go_enter Tryz.func43, Tryz.ntmps43
  go_wp2_with fail
  refine (spec_l20Proof_c v l w h hl).mono ?_
  rintro e w1 ⟨root, path, tv, proof, rfl, o, hs, hn, hp, b⟩
  go_wp2
  go_ret3
  exact ⟨root, path, _, proof, rfl, o, hs, hn, hp, b⟩

set_option maxHeartbeats 2000000 in
set_option maxRecDepth 100000 in
theorem spec_DrawProofContent_c (v : Value) (l : List Int) (w : World) (h : Rd encU 1 w w.heap.size v l) (hl : ∀ x ∈ l, 0 ≤ x ∧ x ≤ 255) :
    Calls Tryz.prog 50 #[v] w (ProofB w) := by
  go_enter Tryz.func50, Tryz.ntmps50
  go_wp2_with fail
  refine (spec_l20Proof_c v l w h hl).mono ?_
  rintro e w1 ⟨root, path, tv, proof, rfl, o, hs, hn, hp, b⟩
  go_wp2
  go_ret3
  exact ⟨root, path, _, proof, rfl, o, hs, hn, hp, b⟩

set_option maxHeartbeats 2000000 in
set_option maxRecDepth 100000 in
theorem spec_DrawAbsenceRight_c (v : Value) (l : List Int) (w : World) (h : Rd encU 1 w w.heap.size v l) (hl : ∀ x ∈ l, 0 ≤ x ∧ x ≤ 255) :
    Calls Tryz.prog 35 #[v] w (ProofB w) := by
  go_enter Tryz.func35, Tryz.ntmps35
  go_wp2_with fail
  refine (spec_l20Proof_c v l w h hl).mono ?_
  rintro e w1 ⟨root, path, tv, proof, rfl, o, hs, hn, hp, b⟩
  go_wp2
  go_ret3
  exact ⟨root, path, _, proof, rfl, o, hs, hn, hp, b⟩

end Go.Proofs.YtnaahincolooeaaGreatDoor
