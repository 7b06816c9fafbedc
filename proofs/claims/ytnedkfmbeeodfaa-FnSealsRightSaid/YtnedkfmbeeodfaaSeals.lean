/- Walks: seals of versions. -/
import Derived.Test.YtnedkfmbeeodfaaVers
namespace Go.Proofs.Ytnedkfmbeeodfaa
open Go.RowKit

theorem vs_in {xs : List Ver} (h : vsOk xs = true) : xs.length ≤ 12 ∧ vsFrom 0 xs = true := by simpa [vsOk] using h
theorem fold_pv {xs : List Ver} (h : vsOk xs = true) {k : Nat} : pv (sealFold 11 (xs.take k)) = true := by
  obtain ⟨h1, h2⟩ := vs_in h
  refine sealFold_in _ _ 0 (by decide) ?_ ?_
  · clear h1 h
    have : ∀ (l : List Ver) (i : Int) (k : Nat), vsFrom i l = true → vsFrom i (l.take k) = true := by
      intro l
      induction l with
      | nil => intro i k _; simp [vsFrom]
      | cons v r ih =>
        intro i k hv
        cases k with
        | zero => rfl
        | succ k =>
          simp only [vsFrom, Bool.and_eq_true, List.take_succ_cons] at hv ⊢
          exact ⟨hv.1, ih _ k hv.2⟩
    exact this xs 0 k h2
  · have : (xs.take k).length ≤ 12 := by simp; omega
    omega

set_option maxHeartbeats 2000000 in
theorem impl_SealsOf_c (v : Value) (xs : List Ver) (w : World) (h : Vers w w.heap.size v xs) :
    Calls Try.prog 41 #[v] w fun e w' => ∃ v', e = .returned v' ∧ OwnI w' w.heap.size v' (sealsOf xs) ∧ Below w.heap.size w w' := by
  obtain ⟨n, hn⟩ : ∃ n, xs.length = n := ⟨_, rfl⟩
  obtain ⟨a, c, rfl, h1, h2, h3⟩ := h.vers hn
  have HN := hid hn
  clear hn
  cases hok : vsOk xs
  · have HO := hid (seals_off hok)
    go_enter Try.func41, Try.ntmps41
    go_wp2_with fail
    refine (impl_VersionsValid_c _ xs _ h).mono ?_
    rw [hok]
    rintro e w1 ⟨rfl, b1⟩
    go_wp2
    go_ret
    exact ⟨_, rfl, by rw [HO.out]; exact Own.nil_, b1⟩
  · have HO := hid (seals_on hok)
    have h12 := (vs_in hok).1
    rw [HN.out] at h12
    go_enter Try.func41, Try.ntmps41
    go_wp2_with fail
    refine (impl_VersionsValid_c _ xs _ h).mono ?_
    rw [hok]
    rintro e w1 ⟨rfl, b1⟩
    clear hok h
    have hs1 := b1.size
    go_wp2
    go_loopw [3, 4, 12] (fun out s i wr => ∃ (k : Nat) (acc : List Int) (x : Int), k ≤ n ∧ i = .int .i64 k ∧ s = .int .i64 x ∧ OwnI wr w1.heap.size out acc ∧ Hid (acc = sealsFrom 11 (xs.take k) ∧ x = sealFold 11 (xs.take k)) ∧ acc.length ≤ 12 ∧ Below w1.heap.size w1 wr) (fun _ _ i _ => n - (intOf i).toNat)
    case atStart => exact ⟨0, [], 11, Nat.zero_le _, rfl, rfl, Own.nil_, ⟨rfl, rfl⟩, Nat.zero_le _, Below.refl _ _⟩
    case round =>
      obtain ⟨k, acc, x, hk, rfl, rfl, hown, hacc, hlen, hb⟩ := hrel
      by_cases hlt : k < n
      · obtain ⟨b, o, r, e, t, rfl, hbl, hx, k0, k1, k2⟩ := h3 k hlt
        have c1 := bl_then b1 (hb.mono (Nat.le_refl _))
        have j0 := (c1.cell (p := ⟨b, o + k * 3, none⟩) hbl).trans k0
        have j1 := (c1.cell (p := ⟨b, o + k * 3 + 1, none⟩) hbl).trans k1
        have j2 := (c1.cell (p := ⟨b, o + k * 3 + 2, none⟩) hbl).trans k2
        have hal : Below w1.heap.size w1 (wr.alloc (.cells #[.int .i64 r, .int .i64 e, .string t] 52)) := hb.alloc hb.size _
        have hown2 := hown.alloc (.cells #[.int .i64 r, .int .i64 e, .string t] 52)
        have ha1 := hid (sealsFrom_succ 11 xs k _ hx.out)
        have ha2 := hid (sealFold_succ (s := 11) hx.out)
        have hk11 : k ≤ 11 := by omega
        have hlk : Hid (acc.length = k) := by unfold Hid; rw [hacc.out.1, sealsFrom_len]; have := HN.out; simp; omega
        clear k0 k1 k2 h3 c1
        go_wp2_with fail
        refine (impl_SealNext_c x ⟨r, e, t⟩ _).mono ?_
        rintro q w4 ⟨rfl, b4⟩
        have hown3 := hown2.on b4
        have hb3 := hal.trans (b4.mono hal.size)
        have hB3 := hb3.size
        clear b4 hown2 hown hal hb
        go_wp2_with (at_builtin; refine push_int (w0 := w1) rfl _ _ rfl _ _ _ _ _ hown3 hb3 hB3 (Nat.le_refl _) rfl rfl (by omega) ?_; intro v' w' hown' hb' hB' _)
        go_roundw
        case rel => exact ⟨k + 1, _, _, by omega, by go_num, rfl, hown', ⟨by rw [ha1.out, ← hacc.out.1, ← hacc.out.2], by rw [ha2.out, ← hacc.out.2]⟩, by have := hlk.out; simp; omega, hb'⟩
        case measure => simp [intOf]; omega
      · have HA := hid (show acc = sealsOf xs by rw [HO.out, hacc.out.1, take_all HN.out (show n ≤ k by omega)])
        go_wp2
        go_ret
        exact ⟨_, rfl, by rw [← HA.out]; exact hown.less hs1, bl_then b1 hb⟩

set_option maxHeartbeats 2000000 in
theorem spec_SealsOf_c (v : Value) (xs : List Ver) (w : World) (h : Vers w w.heap.size v xs) (hx0 : ∀ x ∈ xs, x.note.size ≤ 1048576) (hl : xs.length ≤ 1048576) :
    Calls Try.prog 42 #[v] w fun e w' => ∃ v', e = .returned v' ∧ OwnI w' w.heap.size v' (sealsOf xs) ∧ Below w.heap.size w w' := by
  obtain ⟨n, hn⟩ : ∃ n, xs.length = n := ⟨_, rfl⟩
  obtain ⟨a, c, rfl, h1, h2, h3⟩ := h.vers hn
  have hln := hl
  rw [hn] at hln
  have HN := hid hn
  have HX := hid hx0
  have HL := hid hl
  have HH := hid h
  clear hn hx0 hl h
  have hal : Below w.heap.size w (w.alloc (.cells #[] 3)) := (Below.refl _ _).alloc (Nat.le_refl _) _
  have hown0 : OwnI (w.alloc (.cells #[] 3)) w.heap.size (.slice (some ⟨w.heap.size, 0, none⟩) 0 0) [] := Own.made _ (Nat.le_refl _)
  cases hok : vsOk xs
  · have HO := hid (seals_off hok)
    by_cases h0 : 0 < n
    · go_enter Try.func42, Try.ntmps42
      go_wp2
      refine wp_loop_rounds 1 ?_
      rw [rounds_succ]
      go_wp2_with (go_at_call 72; refine (spec_VersionsValid_c _ xs _ _ (HH.out.on hal) HX.out HL.out).mono ?_; rw [hok]; rintro e w' ⟨rfl, rfl⟩)
      go_ret
      exact ⟨_, rfl, by rw [HO.out]; exact hown0, hal⟩
    · go_enter Try.func42, Try.ntmps42
      go_wp2
      refine wp_loop_rounds 1 ?_
      rw [rounds_succ]
      go_wp2
      go_ret
      exact ⟨_, rfl, by rw [HO.out]; exact hown0, hal⟩
  · have HO := hid (seals_on hok)
    have HK := hid hok
    have h12 := (vs_in hok).1
    rw [HN.out] at h12
    clear hok
    go_enter Try.func42, Try.ntmps42
    go_wp2
    go_loopw [3, 4, 5] (fun out s i wr => ∃ (k : Nat) (acc : List Int) (x : Int), k ≤ n ∧ i = .int .i64 k ∧ s = .int .i64 x ∧ OwnI wr w.heap.size out acc ∧ Hid (acc = sealsFrom 11 (xs.take k) ∧ x = sealFold 11 (xs.take k)) ∧ acc.length ≤ 12 ∧ Below w.heap.size w wr) (fun _ _ i _ => n - (intOf i).toNat)
    case atStart => exact ⟨0, [], 11, Nat.zero_le _, rfl, rfl, hown0, ⟨rfl, rfl⟩, Nat.zero_le _, hal⟩
    case round =>
      obtain ⟨k, acc, x, hk, rfl, rfl, hown, hacc, hlen, hb⟩ := hrel
      clear hown0 hal
      by_cases hlt : k < n
      · obtain ⟨b, o, r, e, t, rfl, hbl, hx, k0, k1, k2⟩ := h3 k hlt
        have j0 := (hb.cell (p := ⟨b, o + k * 3, none⟩) hbl).trans k0
        have j1 := (hb.cell (p := ⟨b, o + k * 3 + 1, none⟩) hbl).trans k1
        have j2 := (hb.cell (p := ⟨b, o + k * 3 + 2, none⟩) hbl).trans k2
        have ht : t.size ≤ 4611686018427387904 := Nat.le_trans (HX.out _ (List.mem_of_getElem? hx.out)) (by omega)
        have ha1 := hid (sealsFrom_succ 11 xs k _ hx.out)
        have ha2 := hid (sealFold_succ (s := 11) hx.out)
        have hk11 : k ≤ 11 := by omega
        have hlk : Hid (acc.length = k) := by unfold Hid; rw [hacc.out.1, sealsFrom_len]; have := HN.out; simp; omega
        clear k0 k1 k2 h3
        go_wp2_with fail
        refine (spec_VersionsValid_c _ xs _ _ (HH.out.on hb) HX.out HL.out).mono ?_
        rw [HK.out]
        rintro q w' ⟨rfl, rfl⟩
        go_wp2_with fail
        refine (spec_SealNext_c x ⟨r, e, t⟩ _ ht).mono ?_
        rintro q w4 ⟨rfl, b4⟩
        have hown3 := hown.on b4
        have hb3 := hb.trans (b4.mono hb.size)
        have hB3 := hb3.size
        clear b4 hown hb
        go_wp2_with (at_builtin; refine push_int (w0 := w) rfl _ _ rfl _ _ _ _ _ hown3 hb3 hB3 (Nat.le_refl _) rfl rfl (by omega) ?_; intro v' w' hown' hb' hB' _)
        go_roundw
        case rel => exact ⟨k + 1, _, _, by omega, by go_num, rfl, hown', ⟨by rw [ha1.out, ← hacc.out.1, ← hacc.out.2], by rw [ha2.out, ← hacc.out.2]⟩, by have := hlk.out; simp; omega, hb'⟩
        case measure => simp [intOf]; omega
      · have HA := hid (show acc = sealsOf xs by rw [HO.out, hacc.out.1, take_all HN.out (show n ≤ k by omega)])
        go_wp2
        go_ret
        exact ⟨_, rfl, by rw [← HA.out]; exact hown, hb⟩

end Go.Proofs.Ytnedkfmbeeodfaa
