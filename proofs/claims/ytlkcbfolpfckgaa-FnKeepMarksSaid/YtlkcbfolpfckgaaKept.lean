/- Walks: kept days out of marks. -/
import Derived.Test.YtlkcbfolpfckgaaKeep2
namespace Go.Proofs.Ytlkcbfolpfckgaa
open Go.RowKit

set_option maxHeartbeats 400000 in
theorem impl_KeptDays_c (v : Value) (xs : List Int) (now : Int) (w : World) (h : Ints w w.heap.size v xs) (hn0 : xs.length ≤ 1048576) :
    Calls Try.prog 35 #[v, .int .i64 now] w fun e w' => ∃ v', e = .returned v' ∧ OwnI w' w.heap.size v' (keptDays xs now) ∧ Below w.heap.size w w' := by
  obtain ⟨n, hn⟩ : ∃ n, xs.length = n := ⟨_, rfl⟩
  obtain ⟨a, c, rfl, h1, h2, h3⟩ := h.ints hn
  rw [hn] at hn0
  have HN := hid hn
  clear hn
  go_enter Try.func35, Try.ntmps35
  go_wp2_with fail
  refine (impl_KeepMarks_c _ xs now _ h).mono ?_
  rintro e w1 ⟨mv, rfl, om, b1⟩
  obtain ⟨mn, hmn⟩ : ∃ mn, (keepMarks xs now).length = mn := ⟨_, rfl⟩
  have hmn' : Hid (mn ≤ n) := by unfold Hid; rw [← hmn, ← HN.out]; unfold keepMarks; split; rw [kmarks_len]; exact Nat.le_refl _; simp
  have hmn0 := hmn'.out
  obtain ⟨ma, mc, rfl, m1, m2, m3⟩ := (Rd.of_own om).bools hmn
  have HM := hid hmn
  clear hmn h om
  go_wp2
  go_loopw [5, 12] (fun out i wr => ∃ (k : Nat) (acc : List Int), k ≤ mn ∧ i = .int .i64 k ∧ OwnI wr w1.heap.size out acc ∧ Hid (acc = keptBy xs ((keepMarks xs now).take k)) ∧ acc.length ≤ n ∧ Below w1.heap.size w1 wr) (fun _ i _ => mn - (intOf i).toNat)
  case atStart => exact ⟨0, [], Nat.zero_le _, rfl, Own.nil_, by simp [Hid, keptBy_nil], Nat.zero_le _, Below.refl _ _⟩
  case round =>
    obtain ⟨k, acc, hk, rfl, hown, hacc, hlen, hb⟩ := hrel
    have hB := hb.size
    by_cases hlt : k < mn
    · obtain ⟨b, o, x, rfl, hbl, hx, hc⟩ := h3 k (by omega)
      have hc' : wr.cell? ⟨b, o + k, none⟩ = some (.int .i64 x) := (hb.cell (p := ⟨b, o + k, none⟩) (show b < _ from by have := b1.size; omega)).trans ((b1.cell (p := ⟨b, o + k, none⟩) hbl).trans hc)
      obtain ⟨mb, mo, q, rfl, hmb, hq, hqc⟩ := m3 k hlt
      have hqc' : wr.cell? ⟨mb, mo + k, none⟩ = some (.bool q) := (hb.cell (p := ⟨mb, mo + k, none⟩) hmb).trans hqc
      have hsn := hid (keptBy_snoc xs (keepMarks xs now) k x q hx.out hq.out)
      have hkl := hid (keptBy_len xs ((keepMarks xs now).take (k + 1)))
      clear hc hqc h3 m3
      cases q
      · go_wp2
        go_roundw
        case rel => exact ⟨k + 1, _, by omega, by go_num, hown, by unfold Hid; rw [hsn.out, hacc.out]; simp, hlen, hb⟩
        case measure => simp [intOf]; omega
      · go_wp2_with (at_builtin; refine push_int (w0 := w1) rfl _ _ rfl _ _ _ _ _ hown hb hB (Nat.le_refl _) rfl rfl (by omega) ?_; intro v' w' hown' hb' hB' _)
        go_roundw
        case rel => exact ⟨k + 1, _, by omega, by go_num, hown', by unfold Hid; rw [hsn.out, hacc.out]; simp, by have h1 := hkl.out; rw [hsn.out, ← hacc.out, HN.out] at h1; simpa using h1, hb'⟩
        case measure => simp [intOf]; omega
    · have e := take_all HM.out (show mn ≤ k by omega)
      have hacc' := hacc.out
      rw [e] at hacc'
      have HC : Hid (acc = keptDays xs now) := hacc'
      clear e hacc' hacc
      go_wp2
      go_ret
      exact ⟨_, rfl, by rw [← HC.out]; exact hown.less b1.size, bl_then b1 hb⟩

set_option maxHeartbeats 400000 in
theorem spec_KeptDays_c (v : Value) (xs : List Int) (now : Int) (w : World) (h : Ints w w.heap.size v xs) (hn0 : xs.length ≤ 1048576) :
    Calls Try.prog 34 #[v, .int .i64 now] w fun e w' => ∃ v', e = .returned v' ∧ OwnI w' w.heap.size v' (keptDays xs now) ∧ Below w.heap.size w w' := by
  obtain ⟨n, hn⟩ : ∃ n, xs.length = n := ⟨_, rfl⟩
  obtain ⟨a, c, rfl, h1, h2, h3⟩ := h.ints hn
  have hn0' := hn0
  rw [hn] at hn0
  have HN := hid hn
  have HN0 := hid hn0'
  clear hn hn0'
  go_enter Try.func34, Try.ntmps34
  go_wp2_with fail
  have hal : Below w.heap.size w (w.alloc (.cells #[] 3)) := (Below.refl _ _).alloc (Nat.le_refl _) _
  have hown0 : OwnI (w.alloc (.cells #[] 3)) w.heap.size (.slice (some ⟨w.heap.size, 0, none⟩) 0 0) [] := Own.made _ (Nat.le_refl _)
  refine (spec_KeepMarks_c _ xs now _ (h.on hal) HN0.out).mono ?_
  rintro e w1 ⟨mv, rfl, om, b1⟩
  have hown1 := hown0.on b1
  have c1 := bl_then hal b1
  obtain ⟨mn, hmn⟩ : ∃ mn, (keepMarks xs now).length = mn := ⟨_, rfl⟩
  have hmn' : Hid (mn ≤ n) := by unfold Hid; rw [← hmn, ← HN.out]; unfold keepMarks; split; rw [kmarks_len]; exact Nat.le_refl _; simp
  have hmn0 := hmn'.out
  obtain ⟨ma, mc, rfl, m1, m2, m3⟩ := (Rd.of_own om).bools hmn
  have HM := hid hmn
  have hsz1 := c1.size
  clear hmn h hal hown0 b1
  have hmlt : ∀ k, k < mn → ∃ mb mo q, ma = some ⟨mb, mo, none⟩ ∧ w.heap.size + 1 ≤ mb ∧ mb < w1.heap.size ∧ Hid ((keepMarks xs now)[k]? = some q) ∧ w1.cell? ⟨mb, mo + k, none⟩ = some (.bool q) := by
    intro k hk
    obtain ⟨mb, mo, q, hma, hmb, hq, hqc⟩ := m3 k hk
    have := om.lt mb (by rw [hma]; rfl)
    exact ⟨mb, mo, q, hma, by simpa using this.1, hmb, hq, hqc⟩
  clear m3 om
  go_wp2
  go_loopw [5, 7] (fun out i wr => ∃ (k : Nat) (acc : List Int), k ≤ mn ∧ i = .int .i64 k ∧ OwnI wr w.heap.size out acc ∧ (∀ g, out.ownBlock = some g → g = w.heap.size ∨ w1.heap.size ≤ g) ∧ Hid (acc = keptBy xs ((keepMarks xs now).take k)) ∧ acc.length ≤ n ∧ Below w.heap.size w wr ∧ w1.grownBy wr (some w.heap.size)) (fun _ i _ => mn - (intOf i).toNat)
  case atStart => exact ⟨0, [], Nat.zero_le _, rfl, hown1, fun g hg => .inl (by simpa [Value.ownBlock] using hg.symm), by simp [Hid, keptBy_nil], Nat.zero_le _, c1, World.grownBy.refl _ _⟩
  case round =>
    obtain ⟨k, acc, hk, rfl, hown, hblk, hacc, hlen, hb, hgr⟩ := hrel
    have hB := hb.size
    have hB1 := hgr.size
    by_cases hlt : k < mn
    · obtain ⟨b, o, x, rfl, hbl, hx, hc⟩ := h3 k (by omega)
      have hc' : wr.cell? ⟨b, o + k, none⟩ = some (.int .i64 x) := (hb.cell (p := ⟨b, o + k, none⟩) hbl).trans hc
      obtain ⟨mb, mo, q, rfl, hmb1, hmb, hq, hqc⟩ := hmlt k hlt
      have hqc' : wr.cell? ⟨mb, mo + k, none⟩ = some (.bool q) := hgr.cell hqc (by simp; omega)
      have hsn := hid (keptBy_snoc xs (keepMarks xs now) k x q hx.out hq.out)
      have hkl := hid (keptBy_len xs ((keepMarks xs now).take (k + 1)))
      have HBLK := hid hblk
      have HGR := hid hgr
      clear hc hqc h3 hmlt hblk hgr
      cases q
      · go_wp2
        go_roundw
        case rel => exact ⟨k + 1, _, by omega, by go_num, hown, HBLK.out, by unfold Hid; rw [hsn.out, hacc.out]; simp, hlen, hb, HGR.out⟩
        case measure => simp [intOf]; omega
      · go_wp2_with (at_builtin; refine push_int (w0 := w) rfl _ _ rfl _ _ _ _ _ hown hb hB (Nat.le_refl _) rfl rfl (by omega) ?_; intro v' w' hown' hb' hB' hg')
        go_roundw
        case rel => exact ⟨k + 1, _, by omega, by go_num, hown', fun g hg => (hg'.2 g hg).elim (fun e => HBLK.out g e) (fun e => .inr (Nat.le_trans hB1 e)), by unfold Hid; rw [hsn.out, hacc.out]; simp, by have h1 := hkl.out; rw [hsn.out, ← hacc.out, HN.out] at h1; simpa using h1, hb', gb_out HGR.out hg'.1 HBLK.out⟩
        case measure => simp [intOf]; omega
    · have e := take_all HM.out (show mn ≤ k by omega)
      have hacc' := hacc.out
      rw [e] at hacc'
      have HC : Hid (acc = keptDays xs now) := hacc'
      clear e hacc' hacc
      go_wp2
      go_ret
      exact ⟨_, rfl, by rw [← HC.out]; exact hown, hb⟩

end Go.Proofs.Ytlkcbfolpfckgaa
