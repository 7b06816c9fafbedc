/- Walks: the prints that nobody names. -/
import Derived.Test.YtkfkcbceoekgjaaDoorCountS
namespace Go.Proofs.YtkfkcbceoekgjaaDoor
open Go.RowKit

def topF (x : Int × Pc) : List Int := if x.1 = 0 then [x.2.print] else []
noncomputable def topsOf (l : List Pc) : List Int := ((countsOf l).zip l).flatMap topF
theorem zip_at {c : List Int} {l : List Pc} {k : Nat} {z : Int} {x : Pc} (hc : c[k]? = some z) (hx : l[k]? = some x) : ((c.zip l).take (k + 1)).flatMap topF = ((c.zip l).take k).flatMap topF ++ topF (z, x) := by
  have : (c.zip l)[k]? = some (z, x) := List.getElem?_zip_eq_some.2 ⟨hc, hx⟩
  rw [take_snoc' this]; simp
theorem counts_le {l : List Pc} : (countsOf l).length ≤ l.length := by
  cases h : storeOk l
  · rw [countsOf_off h]; simp
  · rw [countsOf_on h, cnt_len]; exact Nat.le_refl _
theorem topsOf_len {l : List Pc} : (topsOf l).length ≤ 40 := by
  have : ∀ (a : List (Int × Pc)), (a.flatMap topF).length ≤ a.length := by
    intro a
    induction a with
    | nil => simp
    | cons x r ih =>
      simp only [List.flatMap_cons, List.length_append, List.length_cons]
      have : (topF x).length ≤ 1 := by unfold topF; split <;> simp
      omega
  have h1 := this ((countsOf l).zip l)
  have h2 := countsOf_len (l := l)
  rw [List.length_zip] at h1
  unfold topsOf
  omega
theorem topF_yes {z : Int} {x : Pc} (h : z = 0) : topF (z, x) = [x.print] := by unfold topF; rw [if_pos h]
theorem topF_no {z : Int} {x : Pc} (h : ¬ z = 0) : topF (z, x) = [] := by unfold topF; rw [if_neg h]

set_option maxHeartbeats 2000000 in
set_option maxRecDepth 100000 in
theorem impl_TopPrints_c (v : Value) (xs : List Pc) (w : World) (h : Pcs w w.heap.size v xs) (hx0 : ∀ x ∈ xs, x.text.size ≤ 1048576) (hl0 : xs.length ≤ 1048576) (hg : Glob w) :
    Calls Tryd.prog 17 #[v] w fun e w' => ∃ v', e = .returned v' ∧ OwnI w' w.heap.size v' (topsOf xs) ∧ Below w.heap.size w w' := by
  obtain ⟨n, hn⟩ : ∃ n, xs.length = n := ⟨_, rfl⟩
  obtain ⟨a, c, rfl, _, _, h3⟩ := h.pcs hn
  have H3 := hid h3
  obtain ⟨cs, hcs⟩ : ∃ cs, countsOf xs = cs := ⟨_, rfl⟩
  obtain ⟨m, hm⟩ : ∃ m, cs.length = m := ⟨_, rfl⟩
  have hmn : m ≤ n := by have := counts_le (l := xs); rw [hcs, hm, hn] at this; exact this
  have hm40 : m ≤ 40 := by have := countsOf_len (l := xs); rw [hcs, hm] at this; exact this
  have HC := hid hcs
  have HM := hid hm
  clear hn h3 hcs
  go_enter Tryd.func17, Tryd.ntmps17
  go_wp2_with fail
  refine (impl_NameCounts_c _ xs _ h hx0 hl0 hg).mono ?_
  rw [HC.out]
  rintro e w1 ⟨cv, rfl, o1, b1⟩
  have hs1 := b1.size
  have hrd := Rd.of_own o1
  obtain ⟨a', c', rfl, _, _, h4⟩ := hrd.ints hm
  clear o1 hrd hm h hx0 hl0 hg
  go_wp2
  go_loopw [3, 9] (fun out i wr => ∃ (k : Nat) (acc : List Int), k ≤ m ∧ i = .int .i64 k ∧ OwnI wr w1.heap.size out acc ∧ Hid (acc = ((cs.zip xs).take k).flatMap topF) ∧ acc.length ≤ k ∧ Below w1.heap.size w1 wr) (fun _ i _ => m - (intOf i).toNat)
  case atStart => exact ⟨0, [], Nat.zero_le _, rfl, Own.nil_, rfl, Nat.zero_le _, Below.refl _ _⟩
  case round =>
    obtain ⟨k, acc, hk, rfl, hown, hacc, hlen, hb⟩ := hrel
    have c1 := bl_then b1 hb
    by_cases hlt : k < m
    · obtain ⟨b, o, z, rfl, hbl, hz, k0⟩ := h4 k hlt
      obtain ⟨b', o', r, t, rfl, hbl', hx, k1, _⟩ := H3.out k (by omega)
      have j0 := (hb.cell (p := ⟨b, o + k, none⟩) hbl).trans k0
      have j1 := (c1.cell (p := ⟨b', o' + k * 2, none⟩) hbl').trans k1
      have HF := hid (zip_at hz.out hx.out)
      clear k0 k1 h4
      have hkn : (k : Int) < n := by omega
      have hB := hb.size
      by_cases hz0 : z = 0
      · have HT := hid (HF.out.trans (by rw [topF_yes hz0, ← hacc.out]))
        have hd1 : (z == 0) = true := by simp [hz0]
        have hd2 : decide (z = 0) = true := by simp [hz0]
        clear hz0
        go_wp2_with (at_builtin; refine push_int (w0 := w1) rfl _ _ rfl _ _ _ _ _ hown hb hB (Nat.le_refl _) rfl rfl (by omega) ?_; intro v' w' hown' hb' hB' _)
        go_roundw
        case rel => exact ⟨k + 1, _, by omega, by go_num, hown', hid HT.out.symm, by simp; omega, hb'⟩
        case measure => simp [intOf]; omega
      · have HT := hid (HF.out.trans (by rw [topF_no hz0, List.append_nil, ← hacc.out]))
        have hd1 : (z == 0) = false := by simp [hz0]
        have hd2 : decide (z = 0) = false := by simp [hz0]
        clear hz0
        go_wp2
        go_roundw
        case rel => exact ⟨k + 1, _, by omega, by go_num, hown, hid HT.out.symm, by omega, hb⟩
        case measure => simp [intOf]; omega
    · have HA := hid (show acc = topsOf xs by unfold topsOf; rw [HC.out, hacc.out, List.take_of_length_le (by rw [List.length_zip, HM.out]; omega)])
      go_wp2
      go_ret
      exact ⟨_, rfl, by rw [← HA.out]; exact hown.less hs1, c1⟩

set_option maxHeartbeats 2000000 in
set_option maxRecDepth 100000 in
theorem spec_TopPrints_c (v : Value) (xs : List Pc) (w : World) (h : Pcs w w.heap.size v xs) (hx0 : ∀ x ∈ xs, x.text.size ≤ 1048576) (hl0 : xs.length ≤ 1048576) :
    Calls Tryd.prog 16 #[v] w fun e w' => ∃ v', e = .returned v' ∧ OwnI w' w.heap.size v' (topsOf xs) ∧ Below w.heap.size w w' := by
  obtain ⟨n, hn⟩ : ∃ n, xs.length = n := ⟨_, rfl⟩
  obtain ⟨a, c, rfl, _, _, h3⟩ := h.pcs hn
  have H3 := hid h3
  have HP : Hid (∀ wx, Below w.heap.size w wx → Pcs wx wx.heap.size (.slice a n c) xs) := fun wx hx' => h.on hx'
  obtain ⟨cs, hcs⟩ : ∃ cs, countsOf xs = cs := ⟨_, rfl⟩
  obtain ⟨m, hm⟩ : ∃ m, cs.length = m := ⟨_, rfl⟩
  have hmn : m ≤ n := by have := counts_le (l := xs); rw [hcs, hm, hn] at this; exact this
  have hm40 : m ≤ 40 := by have := countsOf_len (l := xs); rw [hcs, hm] at this; exact this
  have HC := hid hcs
  have HM := hid hm
  have HX := hid hx0
  have HL := hid hl0
  clear hn h3 hcs h hx0 hl0
  obtain ⟨W1, hW1⟩ : ∃ W1, W1 = w.alloc (.cells #[] 3) := ⟨_, rfl⟩
  have hal : Below w.heap.size w W1 := by rw [hW1]; exact (Below.refl _ _).alloc (Nat.le_refl _) _
  have hown0 : OwnI W1 w.heap.size (.slice (some ⟨w.heap.size, 0, none⟩) 0 0) [] := by rw [hW1]; exact Own.made _ (Nat.le_refl _)
  go_enter Tryd.func16, Tryd.ntmps16
  go_wp2_with fail
  rw [← hW1]
  refine (spec_NameCounts_c _ xs _ (HP.out _ hal) HX.out HL.out).mono ?_
  rw [HC.out]
  rintro e w1 ⟨cv, rfl, o1, b1'⟩
  have b1 := bl_then hal b1'
  have hown1 := hown0.on b1'
  have hs1 := b1.size
  have hlt1 := hid o1.lt
  have hpb : Hid (∀ g, Value.ownBlock (.slice (some ⟨w.heap.size, 0, none⟩) 0 0) = some g → g < W1.heap.size) := hid fun g hg => (hown0.lt g hg).2
  obtain ⟨a', c', rfl, _, _, _⟩ := (Rd.of_own o1).ints hm
  clear hm hal hown0 hW1 b1'
  go_wp2
  go_loopw [3, 5] (fun out i wr => ∃ (k : Nat) (acc : List Int), k ≤ m ∧ i = .int .i64 k ∧ OwnI wr w.heap.size out acc ∧ Hid (acc = ((cs.zip xs).take k).flatMap topF) ∧ acc.length ≤ k ∧ OwnI wr W1.heap.size (.slice a' m c') cs ∧ Hid (∀ g, out.ownBlock = some g → g < W1.heap.size ∨ w1.heap.size ≤ g) ∧ Below w.heap.size w wr ∧ w1.heap.size ≤ wr.heap.size) (fun _ i _ => m - (intOf i).toNat)
  case atStart => exact ⟨0, [], Nat.zero_le _, rfl, hown1, rfl, Nat.zero_le _, o1, hid fun g hg => .inl (hpb.out g hg), b1, Nat.le_refl _⟩
  case round =>
    obtain ⟨k, acc, hk, rfl, hown, hacc, hlen, hol, hpb2, hb, hsz⟩ := hrel
    clear o1 hown1 b1
    by_cases hlt : k < m
    · obtain ⟨_, _, hv, _, _, h4⟩ := (Rd.of_own hol).ints HM.out
      simp only [Value.slice.injEq] at hv
      obtain ⟨e1, _, e2⟩ := hv
      subst e1
      subst e2
      obtain ⟨b, o, z, rfl, hbl, hz, k0⟩ := h4 k hlt
      obtain ⟨b', o', r, t, rfl, hbl', hx, k1, _⟩ := H3.out k (by omega)
      have j1 := (hb.cell (p := ⟨b', o' + k * 2, none⟩) hbl').trans k1
      have HF := hid (zip_at hz.out hx.out)
      clear k1 h4
      have hkn : (k : Int) < n := by omega
      have hB := hb.size
      by_cases hz0 : z = 0
      · have HT := hid (HF.out.trans (by rw [topF_yes hz0, ← hacc.out]))
        have hd1 : (z == 0) = true := by simp [hz0]
        have hd2 : decide (z = 0) = true := by simp [hz0]
        clear hz0
        go_wp2_with (at_builtin; refine push_int (w0 := w) rfl _ _ rfl w.heap.size w.heap.size _ acc r hown hb hB (Nat.le_refl _) rfl rfl (by omega) ?_; intro v' w' hown' hb' hB' hg')
        go_roundw
        case rel =>
          have hne : (Value.slice (some ⟨b, o, none⟩) m c').ownBlock = none ∨ (Value.slice (some ⟨b, o, none⟩) m c').ownBlock ≠ Value.ownBlock _ := .inr (fun e => by
            have h5 := hlt1.out b rfl
            rcases hpb2.out b e.symm with h6 | h6
            · omega
            · omega)
          have hsz3 : w1.heap.size ≤ w'.heap.size := by have := hg'.1.size; omega
          refine ⟨k + 1, _, by omega, by go_num, hown', hid HT.out.symm, by simp; omega, Own.kept hol hg'.1 hne, hid fun g hg => ?_, hb', hsz3⟩
          rcases hg'.2 g hg with h6 | h6
          · exact hpb2.out g h6
          · exact .inr (by omega)
        case measure => simp [intOf]; omega
      · have HT := hid (HF.out.trans (by rw [topF_no hz0, List.append_nil, ← hacc.out]))
        have hd1 : (z == 0) = false := by simp [hz0]
        have hd2 : decide (z = 0) = false := by simp [hz0]
        clear hz0
        go_wp2
        go_roundw
        case rel => exact ⟨k + 1, _, by omega, by go_num, hown, hid HT.out.symm, by omega, hol, hpb2, hb, hsz⟩
        case measure => simp [intOf]; omega
    · have HA := hid (show acc = topsOf xs by unfold topsOf; rw [HC.out, hacc.out, List.take_of_length_le (by rw [List.length_zip, HM.out]; omega)])
      go_wp2
      go_ret
      exact ⟨_, rfl, by rw [← HA.out]; exact hown, hb⟩

end Go.Proofs.YtkfkcbceoekgjaaDoor
