/- Walks: prints that are wanted, texts to send. -/
import Derived.Test.YtkfkcbceoekgjaaDoorFind
import Derived.Test.YtkfkcbceoekgjaaDoorExS
namespace Go.Proofs.YtkfkcbceoekgjaaDoor
open Go.RowKit

set_option maxHeartbeats 2000000 in
set_option maxRecDepth 100000 in
theorem impl_WantedOf_c (v u : Value) (xs : List Pc) (ns : List Int) (w : World) (h : Pcs w w.heap.size v xs) (h' : Ints w w.heap.size u ns) (hl : ns.length ≤ 1048576) :
    Calls Tryd.prog 39 #[v, u] w fun e w' => ∃ v', e = .returned v' ∧ OwnI w' w.heap.size v' (wantedOf xs ns) ∧ Below w.heap.size w w' := by
  obtain ⟨n, hn⟩ : ∃ n, xs.length = n := ⟨_, rfl⟩
  obtain ⟨a, c, rfl, _, _, _⟩ := h.pcs hn
  obtain ⟨m, hm⟩ : ∃ m, ns.length = m := ⟨_, rfl⟩
  obtain ⟨a', c', rfl, h1, h2, h3⟩ := h'.ints hm
  rw [hm] at hl
  have HM := hid hm
  have HP : Hid (∀ wx, Below w.heap.size w wx → Pcs wx wx.heap.size (.slice a n c) xs) := fun wx hx' => h.on hx'
  clear hn hm h'
  cases hok : storeOk xs
  · have HO := hid (show wantedOf xs ns = [] by unfold wantedOf; rw [hok]; rfl)
    clear h3
    go_enter Tryd.func39, Tryd.ntmps39
    go_wp2_with fail
    refine (impl_StoreValid_c _ xs _ h).mono ?_
    rw [hok]
    rintro e w1 ⟨rfl, b1⟩
    go_wp2
    go_ret
    exact ⟨_, rfl, by rw [HO.out]; exact Own.nil_, b1⟩
  · have HO := hid (show wantedOf xs ns = wantFrom xs ns by unfold wantedOf; rw [hok]; rfl)
    have HK := hid hok
    go_enter Tryd.func39, Tryd.ntmps39
    go_wp2_with fail
    refine (impl_StoreValid_c _ xs _ h).mono ?_
    rw [hok]
    rintro e w1 ⟨rfl, b1⟩
    clear hok h
    have hs1 := b1.size
    go_wp2
    go_loopw [5, 15] (fun out i wr => ∃ (k : Nat) (acc : List Int), k ≤ m ∧ i = .int .i64 k ∧ OwnI wr w1.heap.size out acc ∧ Hid (acc = wantFrom xs (ns.take k)) ∧ acc.length ≤ k ∧ Below w1.heap.size w1 wr) (fun _ i _ => m - (intOf i).toNat)
    case atStart => exact ⟨0, [], Nat.zero_le _, rfl, Own.nil_, rfl, Nat.zero_le _, Below.refl _ _⟩
    case round =>
      obtain ⟨k, acc, hk, rfl, hown, hacc, hlen, hb⟩ := hrel
      have c1 := bl_then b1 hb
      by_cases hlt : k < m
      · obtain ⟨b, o, x, rfl, hbl, hx, k0⟩ := h3 k hlt
        have j0 := (c1.cell (p := ⟨b, o + k, none⟩) hbl).trans k0
        have HF := hid ((wantFrom_succ (l := xs) hx.out).trans (by rw [← hacc.out]))
        clear k0 h3
        obtain ⟨y, hy⟩ : ∃ y, hasP xs x = y := ⟨_, rfl⟩
        have HY := hid hy
        clear hy
        go_wp2_with fail
        refine (impl_findPiece_c _ xs x _ (HP.out _ c1) HK.out).mono ?_
        rw [HY.out]
        rintro e w4 ⟨rfl, b4⟩
        have hown4 := hown.on b4
        have hb4 := hb.trans (b4.mono hb.size)
        have hB4 := hb4.size
        clear b4 hown hb
        cases y
        · obtain ⟨z, hz⟩ : ∃ z, hasI acc x = z := ⟨_, rfl⟩
          have HZ := hid hz
          clear hz
          go_wp2_with fail
          refine (slices_Contains_c _ acc x _ _ (Rd.of_own hown4)).mono ?_
          rw [HZ.out]
          rintro e w5 ⟨rfl, rfl⟩
          cases z
          · have HS := hid (show wantStep xs acc x = acc ++ [x] by unfold wantStep; rw [HY.out, HZ.out]; rfl)
            go_wp2_with (at_builtin; refine push_int (w0 := w1) rfl _ _ rfl _ _ _ _ _ hown4 hb4 hB4 (Nat.le_refl _) rfl rfl (by omega) ?_; intro v' w' hown' hb' hB' _)
            go_roundw
            case rel => exact ⟨k + 1, _, by omega, by go_num, hown', hid (HF.out.trans HS.out).symm, by simp; omega, hb'⟩
            case measure => simp [intOf]; omega
          · have HS := hid (show wantStep xs acc x = acc by unfold wantStep; rw [HY.out, HZ.out]; rfl)
            go_wp2
            go_roundw
            case rel => exact ⟨k + 1, _, by omega, by go_num, hown4, hid (HF.out.trans HS.out).symm, by omega, hb4⟩
            case measure => simp [intOf]; omega
        · have HS := hid (show wantStep xs acc x = acc by unfold wantStep; rw [HY.out]; rfl)
          go_wp2
          go_roundw
          case rel => exact ⟨k + 1, _, by omega, by go_num, hown4, hid (HF.out.trans HS.out).symm, by omega, hb4⟩
          case measure => simp [intOf]; omega
      · have HA := hid (show acc = wantedOf xs ns by rw [HO.out, hacc.out, take_all HM.out (show m ≤ k by omega)])
        go_wp2
        go_ret
        exact ⟨_, rfl, by rw [← HA.out]; exact hown.less hs1, c1⟩

set_option maxHeartbeats 2000000 in
set_option maxRecDepth 100000 in
theorem spec_WantedOf_c (v u : Value) (xs : List Pc) (ns : List Int) (w : World) (h : Pcs w w.heap.size v xs) (h' : Ints w w.heap.size u ns) (hx0 : ∀ x ∈ xs, x.text.size ≤ 1048576) (hl0 : xs.length ≤ 1048576) (hl : ns.length ≤ 1048576) :
    Calls Tryd.prog 35 #[v, u] w fun e w' => ∃ v', e = .returned v' ∧ OwnI w' w.heap.size v' (wantedOf xs ns) ∧ Below w.heap.size w w' := by
  obtain ⟨n, hn⟩ : ∃ n, xs.length = n := ⟨_, rfl⟩
  obtain ⟨a, c, rfl, _, _, _⟩ := h.pcs hn
  obtain ⟨m, hm⟩ : ∃ m, ns.length = m := ⟨_, rfl⟩
  obtain ⟨a', c', rfl, h1, h2, h3⟩ := h'.ints hm
  rw [hm] at hl
  have HM := hid hm
  have HX := hid hx0
  have HL := hid hl0
  have HP : Hid (∀ wx, Below w.heap.size w wx → Pcs wx wx.heap.size (.slice a n c) xs) := fun wx hx' => h.on hx'
  clear hn hm h' h hx0 hl0
  have hal : Below w.heap.size w (w.alloc (.cells #[] 3)) := (Below.refl _ _).alloc (Nat.le_refl _) _
  have hown0 : OwnI (w.alloc (.cells #[] 3)) w.heap.size (.slice (some ⟨w.heap.size, 0, none⟩) 0 0) [] := Own.made _ (Nat.le_refl _)
  cases hok : storeOk xs
  · have HO := hid (show wantedOf xs ns = [] by unfold wantedOf; rw [hok]; rfl)
    have HK := hid hok
    clear hok
    by_cases h0 : 0 < m
    · go_enter Tryd.func35, Tryd.ntmps35
      go_wp2
      refine wp_loop_rounds 1 ?_
      rw [rounds_succ]
      go_wp2_with (go_at_call 24; refine (spec_StoreValid_c _ xs _ _ (HP.out _ hal) HX.out HL.out).mono ?_; rw [HK.out]; rintro e w' ⟨rfl, q, rfl⟩)
      go_ret
      exact ⟨_, rfl, by rw [HO.out]; exact hown0.drewN q, bl_drewN hal q⟩
    · go_enter Tryd.func35, Tryd.ntmps35
      go_wp2
      refine wp_loop_rounds 1 ?_
      rw [rounds_succ]
      go_wp2
      go_ret
      exact ⟨_, rfl, by rw [HO.out]; exact hown0, hal⟩
  · have HO := hid (show wantedOf xs ns = wantFrom xs ns by unfold wantedOf; rw [hok]; rfl)
    have HK := hid hok
    clear hok
    go_enter Tryd.func35, Tryd.ntmps35
    go_wp2
    go_loopw [5, 6] (fun out i wr => ∃ (k : Nat) (acc : List Int), k ≤ m ∧ i = .int .i64 k ∧ OwnI wr w.heap.size out acc ∧ Hid (acc = wantFrom xs (ns.take k)) ∧ acc.length ≤ k ∧ Below w.heap.size w wr) (fun _ i _ => m - (intOf i).toNat)
    case atStart => exact ⟨0, [], Nat.zero_le _, rfl, hown0, rfl, Nat.zero_le _, hal⟩
    case round =>
      obtain ⟨k, acc, hk, rfl, hown, hacc, hlen, hb⟩ := hrel
      clear hown0 hal
      by_cases hlt : k < m
      · obtain ⟨b, o, x, rfl, hbl, hx, k0⟩ := h3 k hlt
        have j0 := (hb.cell (p := ⟨b, o + k, none⟩) hbl).trans k0
        have HF := hid ((wantFrom_succ (l := xs) hx.out).trans (by rw [← hacc.out]))
        clear k0 h3
        obtain ⟨y, hy⟩ : ∃ y, hasP xs x = y := ⟨_, rfl⟩
        have HY := hid hy
        clear hy
        go_wp2_with fail
        refine (spec_StoreValid_c _ xs _ _ (HP.out _ hb) HX.out HL.out).mono ?_
        rw [HK.out]
        rintro e w3 ⟨rfl, q, rfl⟩
        have hb3 := bl_drewN hb q
        have hown3 := hown.drewN q
        clear hown hb
        go_wp2_with fail
        refine (spec_l4Get_c _ xs x _ _ (HP.out _ hb3)).mono ?_
        rw [HY.out]
        rintro e w4 ⟨rfl, rfl⟩
        have hB3 := hb3.size
        cases y
        · obtain ⟨z, hz⟩ : ∃ z, hasI acc x = z := ⟨_, rfl⟩
          have HZ := hid hz
          clear hz
          go_wp2_with fail
          refine (spec_l19Has_c _ acc x _ _ (Rd.of_own hown3)).mono ?_
          rw [HZ.out]
          rintro e w5 ⟨rfl, rfl⟩
          cases z
          · have HS := hid (show wantStep xs acc x = acc ++ [x] by unfold wantStep; rw [HY.out, HZ.out]; rfl)
            go_wp2_with (at_builtin; refine push_int (w0 := w) rfl _ _ rfl _ _ _ _ _ hown3 hb3 hB3 (Nat.le_refl _) rfl rfl (by omega) ?_; intro v' w' hown' hb' hB' _)
            go_roundw
            case rel => exact ⟨k + 1, _, by omega, by go_num, hown', hid (HF.out.trans HS.out).symm, by simp; omega, hb'⟩
            case measure => simp [intOf]; omega
          · have HS := hid (show wantStep xs acc x = acc by unfold wantStep; rw [HY.out, HZ.out]; rfl)
            go_wp2
            go_roundw
            case rel => exact ⟨k + 1, _, by omega, by go_num, hown3, hid (HF.out.trans HS.out).symm, by omega, hb3⟩
            case measure => simp [intOf]; omega
        · have HS := hid (show wantStep xs acc x = acc by unfold wantStep; rw [HY.out]; rfl)
          go_wp2
          go_roundw
          case rel => exact ⟨k + 1, _, by omega, by go_num, hown3, hid (HF.out.trans HS.out).symm, by omega, hb3⟩
          case measure => simp [intOf]; omega
      · have HA := hid (show acc = wantedOf xs ns by rw [HO.out, hacc.out, take_all HM.out (show m ≤ k by omega)])
        go_wp2
        go_ret
        exact ⟨_, rfl, by rw [← HA.out]; exact hown, hb⟩

set_option maxHeartbeats 2000000 in
set_option maxRecDepth 100000 in
theorem impl_SendTexts_c (v u : Value) (xs : List Pc) (ns : List Int) (w : World) (h : Pcs w w.heap.size v xs) (h' : Ints w w.heap.size u ns) (hl : ns.length ≤ 1048576) :
    Calls Tryd.prog 41 #[v, u] w fun e w' => ∃ v', e = .returned v' ∧ OwnS w' w.heap.size v' (sendTexts xs ns) ∧ Below w.heap.size w w' := by
  obtain ⟨n, hn⟩ : ∃ n, xs.length = n := ⟨_, rfl⟩
  obtain ⟨a, c, rfl, _, _, _⟩ := h.pcs hn
  obtain ⟨m, hm⟩ : ∃ m, ns.length = m := ⟨_, rfl⟩
  obtain ⟨a', c', rfl, h1, h2, h3⟩ := h'.ints hm
  rw [hm] at hl
  have HM := hid hm
  have HP : Hid (∀ wx, Below w.heap.size w wx → Pcs wx wx.heap.size (.slice a n c) xs) := fun wx hx' => h.on hx'
  clear hn hm h'
  cases hok : storeOk xs
  · have HO := hid (show sendTexts xs ns = [] by unfold sendTexts; rw [hok]; rfl)
    clear h3
    go_enter Tryd.func41, Tryd.ntmps41
    go_wp2_with fail
    refine (impl_StoreValid_c _ xs _ h).mono ?_
    rw [hok]
    rintro e w1 ⟨rfl, b1⟩
    go_wp2
    go_ret
    exact ⟨_, rfl, by rw [HO.out]; exact Own.nil_, b1⟩
  · have HO := hid (show sendTexts xs ns = sendFrom xs ns by unfold sendTexts; rw [hok]; rfl)
    have HK := hid hok
    go_enter Tryd.func41, Tryd.ntmps41
    go_wp2_with fail
    refine (impl_StoreValid_c _ xs _ h).mono ?_
    rw [hok]
    rintro e w1 ⟨rfl, b1⟩
    clear hok h
    have hs1 := b1.size
    go_wp2
    go_loopw [5, 15] (fun out i wr => ∃ (k : Nat) (acc : List ByteArray), k ≤ m ∧ i = .int .i64 k ∧ OwnS wr w1.heap.size out acc ∧ Hid (acc = sendFrom xs (ns.take k)) ∧ acc.length ≤ k ∧ Below w1.heap.size w1 wr) (fun _ i _ => m - (intOf i).toNat)
    case atStart => exact ⟨0, [], Nat.zero_le _, rfl, Own.nil_, rfl, Nat.zero_le _, Below.refl _ _⟩
    case round =>
      obtain ⟨k, acc, hk, rfl, hown, hacc, hlen, hb⟩ := hrel
      have c1 := bl_then b1 hb
      by_cases hlt : k < m
      · obtain ⟨b, o, x, rfl, hbl, hx, k0⟩ := h3 k hlt
        have j0 := (c1.cell (p := ⟨b, o + k, none⟩) hbl).trans k0
        have HF := hid ((sendFrom_succ (l := xs) hx.out).trans (by rw [← hacc.out]))
        clear k0 h3
        obtain ⟨y, hy⟩ : ∃ y, hasP xs x = y := ⟨_, rfl⟩
        have HY := hid hy
        clear hy
        go_wp2_with fail
        refine (impl_textOf_c _ xs x _ (HP.out _ c1) HK.out).mono ?_
        rw [HY.out]
        rintro e w4 ⟨rfl, b4⟩
        have hown4 := hown.on b4
        have hb4 := hb.trans (b4.mono hb.size)
        have hB4 := hb4.size
        clear b4 hown hb
        cases y
        · have HS := hid (show sendStep xs acc x = acc by have := HY.out; unfold hasP at this; have hg : getP xs x = none := by simpa using this
                                                          unfold sendStep; rw [hg])
          go_wp2
          go_roundw
          case rel => exact ⟨k + 1, _, by omega, by go_num, hown4, hid (HF.out.trans HS.out).symm, by omega, hb4⟩
          case measure => simp [intOf]; omega
        · obtain ⟨t, ht⟩ := Option.isSome_iff_exists.1 HY.out
          have HS := hid (show sendStep xs acc x = acc ++ [t] by unfold sendStep; rw [ht])
          have hgd : (getP xs x).getD ByteArray.empty = t := by rw [ht]; rfl
          clear ht
          rw [hgd]
          clear hgd
          go_wp2_with (at_builtin; refine push_str (w0 := w1) rfl _ _ rfl _ _ _ _ _ hown4 hb4 hB4 (Nat.le_refl _) rfl rfl (by omega) ?_; intro v' w' hown' hb' hB' _)
          go_roundw
          case rel => exact ⟨k + 1, _, by omega, by go_num, hown', hid (HF.out.trans HS.out).symm, by simp; omega, hb'⟩
          case measure => simp [intOf]; omega
      · have HA := hid (show acc = sendTexts xs ns by rw [HO.out, hacc.out, take_all HM.out (show m ≤ k by omega)])
        go_wp2
        go_ret
        exact ⟨_, rfl, by rw [← HA.out]; exact hown.less hs1, c1⟩

set_option maxHeartbeats 2000000 in
set_option maxRecDepth 100000 in
theorem spec_SendTexts_c (v u : Value) (xs : List Pc) (ns : List Int) (w : World) (h : Pcs w w.heap.size v xs) (h' : Ints w w.heap.size u ns) (hx0 : ∀ x ∈ xs, x.text.size ≤ 1048576) (hl0 : xs.length ≤ 1048576) (hl : ns.length ≤ 1048576) :
    Calls Tryd.prog 37 #[v, u] w fun e w' => ∃ v', e = .returned v' ∧ OwnS w' w.heap.size v' (sendTexts xs ns) ∧ Below w.heap.size w w' := by
  obtain ⟨n, hn⟩ : ∃ n, xs.length = n := ⟨_, rfl⟩
  obtain ⟨a, c, rfl, _, _, _⟩ := h.pcs hn
  obtain ⟨m, hm⟩ : ∃ m, ns.length = m := ⟨_, rfl⟩
  obtain ⟨a', c', rfl, h1, h2, h3⟩ := h'.ints hm
  rw [hm] at hl
  have HM := hid hm
  have HX := hid hx0
  have HL := hid hl0
  have HP : Hid (∀ wx, Below w.heap.size w wx → Pcs wx wx.heap.size (.slice a n c) xs) := fun wx hx' => h.on hx'
  clear hn hm h' h hx0 hl0
  have hal : Below w.heap.size w (w.alloc (.cells #[] 9)) := (Below.refl _ _).alloc (Nat.le_refl _) _
  have hown0 : OwnS (w.alloc (.cells #[] 9)) w.heap.size (.slice (some ⟨w.heap.size, 0, none⟩) 0 0) [] := Own.made _ (Nat.le_refl _)
  cases hok : storeOk xs
  · have HO := hid (show sendTexts xs ns = [] by unfold sendTexts; rw [hok]; rfl)
    have HK := hid hok
    clear hok
    by_cases h0 : 0 < m
    · go_enter Tryd.func37, Tryd.ntmps37
      go_wp2
      refine wp_loop_rounds 1 ?_
      rw [rounds_succ]
      go_wp2_with (go_at_call 24; refine (spec_StoreValid_c _ xs _ _ (HP.out _ hal) HX.out HL.out).mono ?_; rw [HK.out]; rintro e w' ⟨rfl, q, rfl⟩)
      go_ret
      exact ⟨_, rfl, by rw [HO.out]; exact hown0.drewN q, bl_drewN hal q⟩
    · go_enter Tryd.func37, Tryd.ntmps37
      go_wp2
      refine wp_loop_rounds 1 ?_
      rw [rounds_succ]
      go_wp2
      go_ret
      exact ⟨_, rfl, by rw [HO.out]; exact hown0, hal⟩
  · have HO := hid (show sendTexts xs ns = sendFrom xs ns by unfold sendTexts; rw [hok]; rfl)
    have HK := hid hok
    clear hok
    go_enter Tryd.func37, Tryd.ntmps37
    go_wp2
    go_loopw [5, 6] (fun out i wr => ∃ (k : Nat) (acc : List ByteArray), k ≤ m ∧ i = .int .i64 k ∧ OwnS wr w.heap.size out acc ∧ Hid (acc = sendFrom xs (ns.take k)) ∧ acc.length ≤ k ∧ Below w.heap.size w wr) (fun _ i _ => m - (intOf i).toNat)
    case atStart => exact ⟨0, [], Nat.zero_le _, rfl, hown0, rfl, Nat.zero_le _, hal⟩
    case round =>
      obtain ⟨k, acc, hk, rfl, hown, hacc, hlen, hb⟩ := hrel
      clear hown0 hal
      by_cases hlt : k < m
      · obtain ⟨b, o, x, rfl, hbl, hx, k0⟩ := h3 k hlt
        have j0 := (hb.cell (p := ⟨b, o + k, none⟩) hbl).trans k0
        have HF := hid ((sendFrom_succ (l := xs) hx.out).trans (by rw [← hacc.out]))
        clear k0 h3
        obtain ⟨y, hy⟩ : ∃ y, hasP xs x = y := ⟨_, rfl⟩
        have HY := hid hy
        clear hy
        go_wp2_with fail
        refine (spec_StoreValid_c _ xs _ _ (HP.out _ hb) HX.out HL.out).mono ?_
        rw [HK.out]
        rintro e w3 ⟨rfl, q, rfl⟩
        have hb3 := bl_drewN hb q
        have hown3 := hown.drewN q
        clear hown hb
        go_wp2_with fail
        refine (spec_l4Get_c _ xs x _ _ (HP.out _ hb3)).mono ?_
        rw [HY.out]
        rintro e w4 ⟨rfl, rfl⟩
        have hB3 := hb3.size
        cases y
        · have HS := hid (show sendStep xs acc x = acc by have := HY.out; unfold hasP at this; have hg : getP xs x = none := by simpa using this
                                                          unfold sendStep; rw [hg])
          go_wp2
          go_roundw
          case rel => exact ⟨k + 1, _, by omega, by go_num, hown3, hid (HF.out.trans HS.out).symm, by omega, hb3⟩
          case measure => simp [intOf]; omega
        · obtain ⟨t, ht⟩ := Option.isSome_iff_exists.1 HY.out
          have HS := hid (show sendStep xs acc x = acc ++ [t] by unfold sendStep; rw [ht])
          have hgd : (getP xs x).getD ByteArray.empty = t := by rw [ht]; rfl
          clear ht
          rw [hgd]
          clear hgd
          go_wp2_with (at_builtin; refine push_str (w0 := w) rfl _ _ rfl _ _ _ _ _ hown3 hb3 hB3 (Nat.le_refl _) rfl rfl (by omega) ?_; intro v' w' hown' hb' hB' _)
          go_roundw
          case rel => exact ⟨k + 1, _, by omega, by go_num, hown', hid (HF.out.trans HS.out).symm, by simp; omega, hb'⟩
          case measure => simp [intOf]; omega
      · have HA := hid (show acc = sendTexts xs ns by rw [HO.out, hacc.out, take_all HM.out (show m ≤ k by omega)])
        go_wp2
        go_ret
        exact ⟨_, rfl, by rw [← HA.out]; exact hown, hb⟩

end Go.Proofs.YtkfkcbceoekgjaaDoor
