/- Walks and plain facts, joined: Want', WriteP', Fold', Same', Take', SplP', WayP', Named'. -/
import Derived.Test.YtachfmlfmpaddaaGreatDoorMg2
import Derived.Test.YtachfmlfmpaddaaGreatDoorMg3
import Derived.Test.YtachfmlfmpaddaaGreatDoorMg4
import Derived.Test.YtachfmlfmpaddaaGreatDoorMg5
import Derived.Test.YtachfmlfmpaddaaGreatDoorMg7
import Derived.Test.YtachfmlfmpaddaaGreatDoorMg8
import Derived.Test.YtachfmlfmpaddaaGreatDoorMg9
import Derived.Test.YtachfmlfmpaddaaGreatDoorMg10
import Derived.Test.YtachfmlfmpaddaaGreatDoorMg11
import Derived.Test.YtachfmlfmpaddaaGreatDoorMg12
import Derived.Test.YtachfmlfmpaddaaGreatDoorMg13
import Derived.Test.YtachfmlfmpaddaaGreatDoorMg14
import Derived.Test.YtachfmlfmpaddaaGreatDoorMg15
import Derived.Test.YtachfmlfmpaddaaGreatDoorMg16
import Derived.Lib.Split
import Derived.Lib.IndexBytes
import Derived.Lib.Join
set_option linter.unusedVariables false
set_option linter.unusedSimpArgs false

/- Walks: prints that are wanted, texts to send. -/
namespace Go.Proofs.YtachfmlfmpaddaaGreatDoor
open Go.RowKit

set_option maxHeartbeats 2000000 in
set_option maxRecDepth 100000 in
theorem impl_WantedOf_c (v u : Value) (xs : List Pc) (ns : List Int) (w : World) (h : Pcs w w.heap.size v xs) (h' : Ints w w.heap.size u ns) (hl : ns.length ≤ 1048576) :
    Calls Tryz.prog 111 #[v, u] w fun e w' => ∃ v', e = .returned v' ∧ OwnI w' w.heap.size v' (wantedOf xs ns) ∧ Below w.heap.size w w' := by
  obtain ⟨n, hn⟩ : ∃ n, xs.length = n := ⟨_, rfl⟩
  obtain ⟨a, c, rfl, _, _, _⟩ := h.pcs hn
  obtain ⟨m, hm⟩ : ∃ m, ns.length = m := ⟨_, rfl⟩
  obtain ⟨a', c', rfl, h1, h2, h3⟩ := h'.ints hm
  rw [hm] at hl
  have HM := hid hm
  have HP : Hid (∀ wx, Below w.heap.size w wx → Pcs wx wx.heap.size (.slice a n c) xs) := fun wx hx' => h.on hx'
  clear hn hm h'
  cases hok : storeOk xs
  · have HO := hid (show wantedOf xs ns = [] by unfold wantedOf; rw [hok]; rfl)
    clear h3
    go_enter Tryz.func111, Tryz.ntmps111
    go_wp2_with fail
    refine (impl_StoreValid_c _ xs _ h).mono ?_
    rw [hok]
    rintro e w1 ⟨rfl, b1⟩
    go_wp2
    go_ret
    exact ⟨_, rfl, by rw [HO.out]; exact Own.nil_, b1⟩
  · have HO := hid (show wantedOf xs ns = wantFrom xs ns by unfold wantedOf; rw [hok]; rfl)
    have HK := hid hok
    go_enter Tryz.func111, Tryz.ntmps111
    go_wp2_with fail
    refine (impl_StoreValid_c _ xs _ h).mono ?_
    rw [hok]
    rintro e w1 ⟨rfl, b1⟩
    clear hok h
    have hs1 := b1.size
    go_wp2
    go_loopw [5, 15] (fun out i wr => ∃ (k : Nat) (acc : List Int), k ≤ m ∧ i = .int .i64 k ∧ OwnI wr w1.heap.size out acc ∧ Hid (acc = wantFrom xs (ns.take k)) ∧ acc.length ≤ k ∧ Below w1.heap.size w1 wr) (fun _ i _ => m - (intOf i).toNat)
    case atStart => exact ⟨0, [], Nat.zero_le _, rfl, Own.nil_, rfl, Nat.zero_le _, Below.refl _ _⟩
    case round =>
      obtain ⟨k, acc, hk, rfl, hown, hacc, hlen, hb⟩ := hrel
      have c1 := bl_then b1 hb
      by_cases hlt : k < m
      · obtain ⟨b, o, x, rfl, hbl, hx, k0⟩ := h3 k hlt
        have j0 := (c1.cell (p := ⟨b, o + k, none⟩) hbl).trans k0
        have HF := hid ((wantFrom_succ (l := xs) hx.out).trans (by rw [← hacc.out]))
        clear k0 h3
        obtain ⟨y, hy⟩ : ∃ y, hasP xs x = y := ⟨_, rfl⟩
        have HY := hid hy
        clear hy
        go_wp2_with fail
        refine (impl_findPiece_c _ xs x _ (HP.out _ c1) HK.out).mono ?_
        rw [HY.out]
        rintro e w4 ⟨rfl, b4⟩
        have hown4 := hown.on b4
        have hb4 := hb.trans (b4.mono hb.size)
        have hB4 := hb4.size
        clear b4 hown hb
        cases y
        · obtain ⟨z, hz⟩ : ∃ z, hasI acc x = z := ⟨_, rfl⟩
          have HZ := hid hz
          clear hz
          go_wp2_with fail
          refine (slices_Contains_c _ acc x _ _ (Rd.of_own hown4)).mono ?_
          rw [HZ.out]
          rintro e w5 ⟨rfl, rfl⟩
          cases z
          · have HS := hid (show wantStep xs acc x = acc ++ [x] by unfold wantStep; rw [HY.out, HZ.out]; rfl)
            go_wp2_with (at_builtin; refine push_int (w0 := w1) rfl _ _ rfl _ _ _ _ _ hown4 hb4 hB4 (Nat.le_refl _) rfl rfl (by omega) ?_; intro v' w' hown' hb' hB' _)
            go_roundw
            case rel => exact ⟨k + 1, _, by omega, by go_num, hown', hid (HF.out.trans HS.out).symm, by simp; omega, hb'⟩
            case measure => simp [intOf]; omega
          · have HS := hid (show wantStep xs acc x = acc by unfold wantStep; rw [HY.out, HZ.out]; rfl)
            go_wp2
            go_roundw
            case rel => exact ⟨k + 1, _, by omega, by go_num, hown4, hid (HF.out.trans HS.out).symm, by omega, hb4⟩
            case measure => simp [intOf]; omega
        · have HS := hid (show wantStep xs acc x = acc by unfold wantStep; rw [HY.out]; rfl)
          go_wp2
          go_roundw
          case rel => exact ⟨k + 1, _, by omega, by go_num, hown4, hid (HF.out.trans HS.out).symm, by omega, hb4⟩
          case measure => simp [intOf]; omega
      · have HA := hid (show acc = wantedOf xs ns by rw [HO.out, hacc.out, take_all HM.out (show m ≤ k by omega)])
        go_wp2
        go_ret
        exact ⟨_, rfl, by rw [← HA.out]; exact hown.less hs1, c1⟩

set_option maxHeartbeats 2000000 in
set_option maxRecDepth 100000 in
theorem spec_WantedOf_c (v u : Value) (xs : List Pc) (ns : List Int) (w : World) (h : Pcs w w.heap.size v xs) (h' : Ints w w.heap.size u ns) (hx0 : ∀ x ∈ xs, x.text.size ≤ 1048576) (hl0 : xs.length ≤ 1048576) (hl : ns.length ≤ 1048576) :
    Calls Tryz.prog 115 #[v, u] w fun e w' => ∃ v', e = .returned v' ∧ OwnI w' w.heap.size v' (wantedOf xs ns) ∧ Below w.heap.size w w' := by
  obtain ⟨n, hn⟩ : ∃ n, xs.length = n := ⟨_, rfl⟩
  obtain ⟨a, c, rfl, _, _, _⟩ := h.pcs hn
  obtain ⟨m, hm⟩ : ∃ m, ns.length = m := ⟨_, rfl⟩
  obtain ⟨a', c', rfl, h1, h2, h3⟩ := h'.ints hm
  rw [hm] at hl
  have HM := hid hm
  have HX := hid hx0
  have HL := hid hl0
  have HP : Hid (∀ wx, Below w.heap.size w wx → Pcs wx wx.heap.size (.slice a n c) xs) := fun wx hx' => h.on hx'
  clear hn hm h' h hx0 hl0
  have hal : Below w.heap.size w (w.alloc (.cells #[] 3)) := (Below.refl _ _).alloc (Nat.le_refl _) _
  have hown0 : OwnI (w.alloc (.cells #[] 3)) w.heap.size (.slice (some ⟨w.heap.size, 0, none⟩) 0 0) [] := Own.made _ (Nat.le_refl _)
  cases hok : storeOk xs
  · have HO := hid (show wantedOf xs ns = [] by unfold wantedOf; rw [hok]; rfl)
    have HK := hid hok
    clear hok
    by_cases h0 : 0 < m
    · go_enter Tryz.func115, Tryz.ntmps115
      go_wp2
      refine wp_loop_rounds 1 ?_
      rw [rounds_succ]
      go_wp2_with (go_at_call 74; refine (spec_StoreValid_c _ xs _ _ (HP.out _ hal) HX.out HL.out).mono ?_; rw [HK.out]; rintro e w' ⟨rfl, q, rfl⟩)
      go_ret
      exact ⟨_, rfl, by rw [HO.out]; exact hown0.drewN q, bl_drewN hal q⟩
    · go_enter Tryz.func115, Tryz.ntmps115
      go_wp2
      refine wp_loop_rounds 1 ?_
      rw [rounds_succ]
      go_wp2
      go_ret
      exact ⟨_, rfl, by rw [HO.out]; exact hown0, hal⟩
  · have HO := hid (show wantedOf xs ns = wantFrom xs ns by unfold wantedOf; rw [hok]; rfl)
    have HK := hid hok
    clear hok
    go_enter Tryz.func115, Tryz.ntmps115
    go_wp2
    go_loopw [5, 6] (fun out i wr => ∃ (k : Nat) (acc : List Int), k ≤ m ∧ i = .int .i64 k ∧ OwnI wr w.heap.size out acc ∧ Hid (acc = wantFrom xs (ns.take k)) ∧ acc.length ≤ k ∧ Below w.heap.size w wr) (fun _ i _ => m - (intOf i).toNat)
    case atStart => exact ⟨0, [], Nat.zero_le _, rfl, hown0, rfl, Nat.zero_le _, hal⟩
    case round =>
      obtain ⟨k, acc, hk, rfl, hown, hacc, hlen, hb⟩ := hrel
      clear hown0 hal
      by_cases hlt : k < m
      · obtain ⟨b, o, x, rfl, hbl, hx, k0⟩ := h3 k hlt
        have j0 := (hb.cell (p := ⟨b, o + k, none⟩) hbl).trans k0
        have HF := hid ((wantFrom_succ (l := xs) hx.out).trans (by rw [← hacc.out]))
        clear k0 h3
        obtain ⟨y, hy⟩ : ∃ y, hasP xs x = y := ⟨_, rfl⟩
        have HY := hid hy
        clear hy
        go_wp2_with fail
        refine (spec_StoreValid_c _ xs _ _ (HP.out _ hb) HX.out HL.out).mono ?_
        rw [HK.out]
        rintro e w3 ⟨rfl, q, rfl⟩
        have hb3 := bl_drewN hb q
        have hown3 := hown.drewN q
        clear hown hb
        go_wp2_with fail
        refine (spec_l4Get_c _ xs x _ _ (HP.out _ hb3)).mono ?_
        rw [HY.out]
        rintro e w4 ⟨rfl, rfl⟩
        have hB3 := hb3.size
        cases y
        · obtain ⟨z, hz⟩ : ∃ z, hasI acc x = z := ⟨_, rfl⟩
          have HZ := hid hz
          clear hz
          go_wp2_with fail
          refine (spec_l19Has_c _ acc x _ _ (Rd.of_own hown3)).mono ?_
          rw [HZ.out]
          rintro e w5 ⟨rfl, rfl⟩
          cases z
          · have HS := hid (show wantStep xs acc x = acc ++ [x] by unfold wantStep; rw [HY.out, HZ.out]; rfl)
            go_wp2_with (at_builtin; refine push_int (w0 := w) rfl _ _ rfl _ _ _ _ _ hown3 hb3 hB3 (Nat.le_refl _) rfl rfl (by omega) ?_; intro v' w' hown' hb' hB' _)
            go_roundw
            case rel => exact ⟨k + 1, _, by omega, by go_num, hown', hid (HF.out.trans HS.out).symm, by simp; omega, hb'⟩
            case measure => simp [intOf]; omega
          · have HS := hid (show wantStep xs acc x = acc by unfold wantStep; rw [HY.out, HZ.out]; rfl)
            go_wp2
            go_roundw
            case rel => exact ⟨k + 1, _, by omega, by go_num, hown3, hid (HF.out.trans HS.out).symm, by omega, hb3⟩
            case measure => simp [intOf]; omega
        · have HS := hid (show wantStep xs acc x = acc by unfold wantStep; rw [HY.out]; rfl)
          go_wp2
          go_roundw
          case rel => exact ⟨k + 1, _, by omega, by go_num, hown3, hid (HF.out.trans HS.out).symm, by omega, hb3⟩
          case measure => simp [intOf]; omega
      · have HA := hid (show acc = wantedOf xs ns by rw [HO.out, hacc.out, take_all HM.out (show m ≤ k by omega)])
        go_wp2
        go_ret
        exact ⟨_, rfl, by rw [← HA.out]; exact hown, hb⟩

set_option maxHeartbeats 2000000 in
set_option maxRecDepth 100000 in
theorem impl_SendTexts_c (v u : Value) (xs : List Pc) (ns : List Int) (w : World) (h : Pcs w w.heap.size v xs) (h' : Ints w w.heap.size u ns) (hl : ns.length ≤ 1048576) :
    Calls Tryz.prog 113 #[v, u] w fun e w' => ∃ v', e = .returned v' ∧ OwnS w' w.heap.size v' (sendTexts xs ns) ∧ Below w.heap.size w w' := by
  obtain ⟨n, hn⟩ : ∃ n, xs.length = n := ⟨_, rfl⟩
  obtain ⟨a, c, rfl, _, _, _⟩ := h.pcs hn
  obtain ⟨m, hm⟩ : ∃ m, ns.length = m := ⟨_, rfl⟩
  obtain ⟨a', c', rfl, h1, h2, h3⟩ := h'.ints hm
  rw [hm] at hl
  have HM := hid hm
  have HP : Hid (∀ wx, Below w.heap.size w wx → Pcs wx wx.heap.size (.slice a n c) xs) := fun wx hx' => h.on hx'
  clear hn hm h'
  cases hok : storeOk xs
  · have HO := hid (show sendTexts xs ns = [] by unfold sendTexts; rw [hok]; rfl)
    clear h3
    go_enter Tryz.func113, Tryz.ntmps113
    go_wp2_with fail
    refine (impl_StoreValid_c _ xs _ h).mono ?_
    rw [hok]
    rintro e w1 ⟨rfl, b1⟩
    go_wp2
    go_ret
    exact ⟨_, rfl, by rw [HO.out]; exact Own.nil_, b1⟩
  · have HO := hid (show sendTexts xs ns = sendFrom xs ns by unfold sendTexts; rw [hok]; rfl)
    have HK := hid hok
    go_enter Tryz.func113, Tryz.ntmps113
    go_wp2_with fail
    refine (impl_StoreValid_c _ xs _ h).mono ?_
    rw [hok]
    rintro e w1 ⟨rfl, b1⟩
    clear hok h
    have hs1 := b1.size
    go_wp2
    go_loopw [5, 15] (fun out i wr => ∃ (k : Nat) (acc : List ByteArray), k ≤ m ∧ i = .int .i64 k ∧ OwnS wr w1.heap.size out acc ∧ Hid (acc = sendFrom xs (ns.take k)) ∧ acc.length ≤ k ∧ Below w1.heap.size w1 wr) (fun _ i _ => m - (intOf i).toNat)
    case atStart => exact ⟨0, [], Nat.zero_le _, rfl, Own.nil_, rfl, Nat.zero_le _, Below.refl _ _⟩
    case round =>
      obtain ⟨k, acc, hk, rfl, hown, hacc, hlen, hb⟩ := hrel
      have c1 := bl_then b1 hb
      by_cases hlt : k < m
      · obtain ⟨b, o, x, rfl, hbl, hx, k0⟩ := h3 k hlt
        have j0 := (c1.cell (p := ⟨b, o + k, none⟩) hbl).trans k0
        have HF := hid ((sendFrom_succ (l := xs) hx.out).trans (by rw [← hacc.out]))
        clear k0 h3
        obtain ⟨y, hy⟩ : ∃ y, hasP xs x = y := ⟨_, rfl⟩
        have HY := hid hy
        clear hy
        go_wp2_with fail
        refine (impl_textOf_c _ xs x _ (HP.out _ c1) HK.out).mono ?_
        rw [HY.out]
        rintro e w4 ⟨rfl, b4⟩
        have hown4 := hown.on b4
        have hb4 := hb.trans (b4.mono hb.size)
        have hB4 := hb4.size
        clear b4 hown hb
        cases y
        · have HS := hid (show sendStep xs acc x = acc by have := HY.out; unfold hasP at this; have hg : getP xs x = none := by simpa using this
                                                          unfold sendStep; rw [hg])
          go_wp2
          go_roundw
          case rel => exact ⟨k + 1, _, by omega, by go_num, hown4, hid (HF.out.trans HS.out).symm, by omega, hb4⟩
          case measure => simp [intOf]; omega
        · obtain ⟨t, ht⟩ := Option.isSome_iff_exists.1 HY.out
          have HS := hid (show sendStep xs acc x = acc ++ [t] by unfold sendStep; rw [ht])
          have hgd : (getP xs x).getD ByteArray.empty = t := by rw [ht]; rfl
          clear ht
          rw [hgd]
          clear hgd
          go_wp2_with (at_builtin; refine push_str (w0 := w1) rfl _ _ rfl _ _ _ _ _ hown4 hb4 hB4 (Nat.le_refl _) rfl rfl (by omega) ?_; intro v' w' hown' hb' hB' _)
          go_roundw
          case rel => exact ⟨k + 1, _, by omega, by go_num, hown', hid (HF.out.trans HS.out).symm, by simp; omega, hb'⟩
          case measure => simp [intOf]; omega
      · have HA := hid (show acc = sendTexts xs ns by rw [HO.out, hacc.out, take_all HM.out (show m ≤ k by omega)])
        go_wp2
        go_ret
        exact ⟨_, rfl, by rw [← HA.out]; exact hown.less hs1, c1⟩

set_option maxHeartbeats 2000000 in
set_option maxRecDepth 100000 in
theorem spec_SendTexts_c (v u : Value) (xs : List Pc) (ns : List Int) (w : World) (h : Pcs w w.heap.size v xs) (h' : Ints w w.heap.size u ns) (hx0 : ∀ x ∈ xs, x.text.size ≤ 1048576) (hl0 : xs.length ≤ 1048576) (hl : ns.length ≤ 1048576) :
    Calls Tryz.prog 117 #[v, u] w fun e w' => ∃ v', e = .returned v' ∧ OwnS w' w.heap.size v' (sendTexts xs ns) ∧ Below w.heap.size w w' := by
  obtain ⟨n, hn⟩ : ∃ n, xs.length = n := ⟨_, rfl⟩
  obtain ⟨a, c, rfl, _, _, _⟩ := h.pcs hn
  obtain ⟨m, hm⟩ : ∃ m, ns.length = m := ⟨_, rfl⟩
  obtain ⟨a', c', rfl, h1, h2, h3⟩ := h'.ints hm
  rw [hm] at hl
  have HM := hid hm
  have HX := hid hx0
  have HL := hid hl0
  have HP : Hid (∀ wx, Below w.heap.size w wx → Pcs wx wx.heap.size (.slice a n c) xs) := fun wx hx' => h.on hx'
  clear hn hm h' h hx0 hl0
  have hal : Below w.heap.size w (w.alloc (.cells #[] 9)) := (Below.refl _ _).alloc (Nat.le_refl _) _
  have hown0 : OwnS (w.alloc (.cells #[] 9)) w.heap.size (.slice (some ⟨w.heap.size, 0, none⟩) 0 0) [] := Own.made _ (Nat.le_refl _)
  cases hok : storeOk xs
  · have HO := hid (show sendTexts xs ns = [] by unfold sendTexts; rw [hok]; rfl)
    have HK := hid hok
    clear hok
    by_cases h0 : 0 < m
    · go_enter Tryz.func117, Tryz.ntmps117
      go_wp2
      refine wp_loop_rounds 1 ?_
      rw [rounds_succ]
      go_wp2_with (go_at_call 74; refine (spec_StoreValid_c _ xs _ _ (HP.out _ hal) HX.out HL.out).mono ?_; rw [HK.out]; rintro e w' ⟨rfl, q, rfl⟩)
      go_ret
      exact ⟨_, rfl, by rw [HO.out]; exact hown0.drewN q, bl_drewN hal q⟩
    · go_enter Tryz.func117, Tryz.ntmps117
      go_wp2
      refine wp_loop_rounds 1 ?_
      rw [rounds_succ]
      go_wp2
      go_ret
      exact ⟨_, rfl, by rw [HO.out]; exact hown0, hal⟩
  · have HO := hid (show sendTexts xs ns = sendFrom xs ns by unfold sendTexts; rw [hok]; rfl)
    have HK := hid hok
    clear hok
    go_enter Tryz.func117, Tryz.ntmps117
    go_wp2
    go_loopw [5, 6] (fun out i wr => ∃ (k : Nat) (acc : List ByteArray), k ≤ m ∧ i = .int .i64 k ∧ OwnS wr w.heap.size out acc ∧ Hid (acc = sendFrom xs (ns.take k)) ∧ acc.length ≤ k ∧ Below w.heap.size w wr) (fun _ i _ => m - (intOf i).toNat)
    case atStart => exact ⟨0, [], Nat.zero_le _, rfl, hown0, rfl, Nat.zero_le _, hal⟩
    case round =>
      obtain ⟨k, acc, hk, rfl, hown, hacc, hlen, hb⟩ := hrel
      clear hown0 hal
      by_cases hlt : k < m
      · obtain ⟨b, o, x, rfl, hbl, hx, k0⟩ := h3 k hlt
        have j0 := (hb.cell (p := ⟨b, o + k, none⟩) hbl).trans k0
        have HF := hid ((sendFrom_succ (l := xs) hx.out).trans (by rw [← hacc.out]))
        clear k0 h3
        obtain ⟨y, hy⟩ : ∃ y, hasP xs x = y := ⟨_, rfl⟩
        have HY := hid hy
        clear hy
        go_wp2_with fail
        refine (spec_StoreValid_c _ xs _ _ (HP.out _ hb) HX.out HL.out).mono ?_
        rw [HK.out]
        rintro e w3 ⟨rfl, q, rfl⟩
        have hb3 := bl_drewN hb q
        have hown3 := hown.drewN q
        clear hown hb
        go_wp2_with fail
        refine (spec_l4Get_c _ xs x _ _ (HP.out _ hb3)).mono ?_
        rw [HY.out]
        rintro e w4 ⟨rfl, rfl⟩
        have hB3 := hb3.size
        cases y
        · have HS := hid (show sendStep xs acc x = acc by have := HY.out; unfold hasP at this; have hg : getP xs x = none := by simpa using this
                                                          unfold sendStep; rw [hg])
          go_wp2
          go_roundw
          case rel => exact ⟨k + 1, _, by omega, by go_num, hown3, hid (HF.out.trans HS.out).symm, by omega, hb3⟩
          case measure => simp [intOf]; omega
        · obtain ⟨t, ht⟩ := Option.isSome_iff_exists.1 HY.out
          have HS := hid (show sendStep xs acc x = acc ++ [t] by unfold sendStep; rw [ht])
          have hgd : (getP xs x).getD ByteArray.empty = t := by rw [ht]; rfl
          clear ht
          rw [hgd]
          clear hgd
          go_wp2_with (at_builtin; refine push_str (w0 := w) rfl _ _ rfl _ _ _ _ _ hown3 hb3 hB3 (Nat.le_refl _) rfl rfl (by omega) ?_; intro v' w' hown' hb' hB' _)
          go_roundw
          case rel => exact ⟨k + 1, _, by omega, by go_num, hown', hid (HF.out.trans HS.out).symm, by simp; omega, hb'⟩
          case measure => simp [intOf]; omega
      · have HA := hid (show acc = sendTexts xs ns by rw [HO.out, hacc.out, take_all HM.out (show m ≤ k by omega)])
        go_wp2
        go_ret
        exact ⟨_, rfl, by rw [← HA.out]; exact hown, hb⟩

end Go.Proofs.YtachfmlfmpaddaaGreatDoor

/- Plain facts on files, folders and paths that are written. No program in sight. -/
namespace Go.Proofs.YtachfmlfmpaddaaGreatDoor
open Go.RowKit

/-! ### Entries -/
theorem putEnt_len {l : List Ent} {e : Ent} : (putEnt l e).1.length ≤ 3 := by
  unfold putEnt
  split
  · rename_i h
    split
    · rename_i h2
      exact (ents_in h2).1
    · exact (ents_in h).1
  · simp
/-! ### Paths -/
/-! ### Stores -/
/-! ### What is put stays a store -/
end Go.Proofs.YtachfmlfmpaddaaGreatDoor

/- Walks: the texts of folders. -/
namespace Go.Proofs.YtachfmlfmpaddaaGreatDoor
open Go.RowKit

theorem entsText_len : ∀ {l : List Ent}, (∀ e ∈ l, entOk e = true) → (entsText l).length ≤ 16 * l.length
  | [], _ => by simp [entsText]
  | e :: r, h => by
    have h1 := entText_len (h e (by simp))
    have h2 := entsText_len (l := r) (fun x hx => h x (by simp [hx]))
    simp only [entsText, List.flatMap_cons, List.length_append, List.length_cons] at h2 ⊢
    omega
end Go.Proofs.YtachfmlfmpaddaaGreatDoor

/- Walks: the laws' comparing of equal rows; the text with a print. -/
namespace Go.Proofs.YtachfmlfmpaddaaGreatDoor
open Go.RowKit


set_option maxHeartbeats 400000 in
theorem laws_sameTexts_s (v u : Value) (xs : List ByteArray) (B B' : Nat) (w : World) (h : Strs w B v xs) (h' : Strs w B' u xs) :
    Calls Tryz.prog 28 #[v, u] w fun e w' => e = .returned (.bool true) ∧ ∃ m, w' = w.drewN m := by
  obtain ⟨n, hn⟩ : ∃ n, xs.length = n := ⟨_, rfl⟩
  obtain ⟨a, c, rfl, h1, h2, h3⟩ := h.strs hn
  obtain ⟨a', c', rfl, h1', h2', h3'⟩ := h'.strs hn
  clear hn h h'
  go_enter Tryz.func28, Tryz.ntmps28
  go_wp2
  go_loopw [5] (fun i wr => ∃ k m : Nat, k ≤ n ∧ i = .int .i64 k ∧ wr = w.drewN m) (fun i _ => n - (intOf i).toNat)
  case atStart => exact ⟨0, 0, Nat.zero_le _, rfl, rfl⟩
  case round =>
    obtain ⟨k, m, hk, rfl, rfl⟩ := hrel
    by_cases hlt : k < n
    · obtain ⟨b, o, x, rfl, hbl, hx, k0⟩ := h3 k hlt
      obtain ⟨b', o', x', rfl, hbl', hx', k0'⟩ := h3' k hlt
      obtain rfl : x = x' := Option.some.inj (hx.out.symm.trans hx'.out)
      have hkn : (k : Int) < n := by omega
      clear h3 h3'
      go_wp2
      go_quiet (fail)
      go_wp2
      go_roundw
      case rel => exact ⟨k + 1, _, by omega, by go_num, rfl⟩
      case measure => simp [intOf]; omega
    · clear h3 h3'
      go_wp2
      go_ret
      exact ⟨rfl, _, rfl⟩

/-- The text with a print in a store that is valid. -/
def getText (l : List Pc) (n : Int) : ByteArray × Bool := if storeOk l then ((getP l n).getD ByteArray.empty, hasP l n) else (ByteArray.empty, false)
theorem getText_on {l : List Pc} (h : storeOk l = true) (n : Int) : getText l n = ((getP l n).getD ByteArray.empty, hasP l n) := by unfold getText; rw [h]; rfl
theorem getText_off {l : List Pc} (h : storeOk l = false) (n : Int) : getText l n = (ByteArray.empty, false) := by unfold getText; rw [h]; rfl

set_option maxHeartbeats 400000 in
theorem impl_GetText_c (v : Value) (xs : List Pc) (y : Int) (w : World) (h : Pcs w w.heap.size v xs) :
    Calls Tryz.prog 58 #[v, .int .i64 y] w fun e w' => e = .returned (.tuple #[.string (getText xs y).1, .bool (getText xs y).2]) ∧ Below w.heap.size w w' := by
  have HH := hid h
  clear h
  cases hok : storeOk xs
  · have HO := hid (getText_off hok y)
    have HK := hid hok
    clear hok
    rw [HO.out]
    go_enter Tryz.func58, Tryz.ntmps58
    go_wp2_with fail
    refine (impl_StoreValid_c _ xs _ HH.out).mono ?_
    rw [HK.out]
    rintro e w1 ⟨rfl, b1⟩
    go_wp2
    go_ret2
    exact ⟨rfl, b1⟩
  · have HO := hid (getText_on hok y)
    have HK := hid hok
    clear hok
    rw [HO.out]
    go_enter Tryz.func58, Tryz.ntmps58
    go_wp2_with fail
    refine (impl_StoreValid_c _ xs _ HH.out).mono ?_
    rw [HK.out]
    rintro e w1 ⟨rfl, b1⟩
    go_wp2_with fail
    refine (impl_textOf_c _ xs y _ (HH.out.on b1) HK.out).mono ?_
    rintro e w2 ⟨rfl, b2⟩
    have d2 := bl_then b1 b2
    clear b1 b2
    go_wp2
    go_ret2
    exact ⟨rfl, d2⟩

end Go.Proofs.YtachfmlfmpaddaaGreatDoor

/- Walks: texts that are taken. -/
namespace Go.Proofs.YtachfmlfmpaddaaGreatDoor
open Go.RowKit

theorem take_bad {ps : List Int} {l : List Pc} {b : Nat} {t : ByteArray} (h : storeOk l = true) (ht : textOk (bs t) = false) : takeStep ps (l, b) t = (l, b + 1) := by unfold takeStep; simp only; rw [put_bad h ht]; rfl
theorem take_unasked {ps : List Int} {l : List Pc} {b : Nat} {t : ByteArray} (hh : hasI ps (printOf (bs t)) = false) : takeStep ps (l, b) t = (l, b + 1) := by
  unfold takeStep
  simp only
  cases hp : (putS l t).2.2
  · rfl
  · rw [(put_print hp).2, hh]; rfl
theorem take_no {ps : List Int} {l : List Pc} {b : Nat} {t : ByteArray} (h : (putS l t).2.2 = false) : takeStep ps (l, b) t = (l, b + 1) := by unfold takeStep; simp only; rw [h]; rfl
theorem take_yes {ps : List Int} {l : List Pc} {b : Nat} {t : ByteArray} (h : (putS l t).2.2 = true) (hh : hasI ps (putS l t).2.1 = true) : takeStep ps (l, b) t = ((putS l t).1, b) := by unfold takeStep; simp only; rw [h, hh]; rfl
theorem take_out {ps : List Int} {l : List Pc} {b : Nat} {t : ByteArray} (hh : hasI ps (putS l t).2.1 = false) : takeStep ps (l, b) t = (l, b + 1) := by unfold takeStep; simp only; rw [hh, Bool.and_false]; rfl
theorem st_small {l : List Pc} (h : storeOk l = true) : (∀ x ∈ l, x.text.size ≤ 1048576) ∧ l.length ≤ 1048576 := ⟨fun x hx => by have := st_text h hx; omega, by have := (st_in h).1; omega⟩

set_option maxHeartbeats 2000000 in
set_option maxRecDepth 100000 in
theorem impl_TakeTexts_c (v u s : Value) (xs : List Pc) (ns : List Int) (ts : List ByteArray) (w : World) (h : Pcs w w.heap.size v xs) (h' : Ints w w.heap.size u ns) (h'' : Strs w w.heap.size s ts) (hl : ts.length ≤ 1048576) :
    Calls Tryz.prog 114 #[v, u, s] w fun e w' => ∃ v', e = .returned (.tuple #[v', .int .i64 (takeTexts xs ns ts).2]) ∧ OwnP w' w.heap.size v' (takeTexts xs ns ts).1 ∧ Below w.heap.size w w' := by
  obtain ⟨n, hn⟩ : ∃ n, xs.length = n := ⟨_, rfl⟩
  obtain ⟨a, c, rfl, _, _, _⟩ := h.pcs hn
  obtain ⟨j, hj⟩ : ∃ j, ns.length = j := ⟨_, rfl⟩
  obtain ⟨a', c', rfl, _, _, _⟩ := h'.ints hj
  obtain ⟨m, hm⟩ : ∃ m, ts.length = m := ⟨_, rfl⟩
  obtain ⟨a'', c'', rfl, h1, h2, h3⟩ := h''.strs hm
  rw [hm] at hl
  have HM := hid hm
  have HP : Hid (∀ wx, Below w.heap.size w wx → Pcs wx wx.heap.size (.slice a n c) xs) := fun wx hx' => h.on hx'
  have HS : Hid (∀ wx, Below w.heap.size w wx → Ints wx wx.heap.size (.slice a' j c') ns) := fun wx hx' => h'.on hx'
  clear hn hm hj h' h''
  cases hok : storeOk xs
  · have HO := hid (show takeTexts xs ns ts = ([], -1) by unfold takeTexts; rw [hok]; rfl)
    clear h3
    go_enter Tryz.func114, Tryz.ntmps114
    go_wp2_with fail
    refine (impl_StoreValid_c _ xs _ h).mono ?_
    rw [hok]
    rintro e w1 ⟨rfl, b1⟩
    go_wp2
    go_ret2
    exact ⟨_, by rw [HO.out]; rfl, by rw [HO.out]; exact Own.nil_, b1⟩
  · have HO := hid (show takeTexts xs ns ts = ((takeFrom xs ns ts).1, ((takeFrom xs ns ts).2 : Int)) by unfold takeTexts; rw [hok]; rfl)
    have HK := hid hok
    have HL := hid (show xs.length ≤ 1000000 by have := (st_in hok).1; omega)
    go_enter Tryz.func114, Tryz.ntmps114
    go_wp2_with fail
    refine (impl_StoreValid_c _ xs _ h).mono ?_
    rw [hok]
    rintro e w1 ⟨rfl, b1⟩
    clear hok h
    have hs1 := b1.size
    go_wp2_with fail
    refine (cloneP_c _ xs _ (HP.out _ b1) HL.out).mono ?_
    rintro e w2 ⟨v2, rfl, o2, b2⟩
    go_wp2
    go_loopw [8, 9, 22] (fun sv lf i wr => ∃ (k b : Nat) (cur : List Pc), k ≤ m ∧ i = .int .i64 k ∧ lf = .int .i64 b ∧ b ≤ k ∧ OwnP wr w1.heap.size sv cur ∧ Hid (storeOk cur = true ∧ (cur, b) = takeFrom xs ns (ts.take k)) ∧ Below w1.heap.size w1 wr) (fun _ _ i _ => m - (intOf i).toNat)
    case atStart => exact ⟨0, 0, xs, Nat.zero_le _, rfl, rfl, Nat.le_refl _, o2, hid ⟨HK.out, rfl⟩, b2⟩
    case round =>
      obtain ⟨k, b, cur, hk, rfl, rfl, hbk, hown, hacc, hb⟩ := hrel
      have c1 := bl_then b1 hb
      clear o2 b2
      by_cases hlt : k < m
      · obtain ⟨bb, o, t, rfl, hbl, hx, k0⟩ := h3 k hlt
        have j0 := (c1.cell (p := ⟨bb, o + k, none⟩) hbl).trans k0
        have HF := hid ((takeFrom_succ (l := xs) (ps := ns) hx.out).trans (by rw [← hacc.out.2]))
        clear k0 h3
        cases ht : textOk (bs t)
        · have HT := hid ht
          have HW := hid (HF.out.trans (take_bad hacc.out.1 ht))
          clear ht
          go_wp2_with fail
          refine (impl_TextValid_e _ _ HT.out).mono ?_
          rintro e w3 ⟨rfl, rfl⟩
          go_wp2
          go_roundw
          case rel => exact ⟨k + 1, b + 1, cur, by omega, by go_num, by go_num, by omega, hown, hid ⟨hacc.out.1, HW.out.symm⟩, hb⟩
          case measure => simp [intOf]; omega
        · have HT := hid ht
          clear ht
          obtain ⟨p, hp⟩ : ∃ p, printOf (bs t) = p := ⟨_, rfl⟩
          have HZ := hid hp
          clear hp
          obtain ⟨y, hy⟩ : ∃ y, hasI ns p = y := ⟨_, rfl⟩
          have HY := hid hy
          clear hy
          go_wp2_with fail
          refine (impl_TextValid_e _ _ HT.out).mono ?_
          rintro e w3 ⟨rfl, rfl⟩
          go_wp2_with fail
          refine (impl_PrintOf_e _ _ HZ.out).mono ?_
          rintro e w3 ⟨rfl, rfl⟩
          go_wp2_with fail
          refine (slices_Contains_c _ ns p _ _ (HS.out _ c1)).mono ?_
          rw [HY.out]
          rintro e w3 ⟨rfl, rfl⟩
          cases y
          · have HW := hid (HF.out.trans (take_unasked (by rw [HZ.out]; exact HY.out)))
            go_wp2
            go_roundw
            case rel => exact ⟨k + 1, b + 1, cur, by omega, by go_num, by go_num, by omega, hown, hid ⟨hacc.out.1, HW.out.symm⟩, hb⟩
            case measure => simp [intOf]; omega
          · obtain ⟨z, hz⟩ : ∃ z, (putS cur t).2.2 = z := ⟨_, rfl⟩
            have HZ2 := hid hz
            clear hz
            go_wp2_with fail
            refine (impl_PutText_c _ cur t _ (Rd.of_own hown)).mono ?_
            rw [HZ2.out]
            rintro e w4 ⟨v4, rfl, o4, b4⟩
            have s4 := hb.size
            have hown4 := hown.on b4
            have hb4 := bl_then hb b4
            cases z
            · have HW := hid (HF.out.trans (take_no HZ2.out))
              go_wp2
              go_roundw
              case rel => exact ⟨k + 1, b + 1, cur, by omega, by go_num, by go_num, by omega, hown4, hid ⟨hacc.out.1, HW.out.symm⟩, hb4⟩
              case measure => simp [intOf]; omega
            · have HW := hid (HF.out.trans (take_yes HZ2.out (by rw [(put_print HZ2.out).2, HZ.out]; exact HY.out)))
              go_wp2
              go_roundw
              case rel => exact ⟨k + 1, b, (putS cur t).1, by omega, by go_num, rfl, by omega, o4.less s4, hid ⟨put_ok hacc.out.1, HW.out.symm⟩, hb4⟩
              case measure => simp [intOf]; omega
      · have HA := hid (show (cur, b) = takeFrom xs ns ts by rw [hacc.out.2, take_all HM.out (show m ≤ k by omega)])
        have HB := hid (show takeTexts xs ns ts = (cur, (b : Int)) by rw [HO.out, ← HA.out])
        go_wp2
        go_ret2
        exact ⟨_, by rw [HB.out]; rfl, by rw [HB.out]; exact hown.less hs1, c1⟩

set_option maxHeartbeats 2000000 in
set_option maxRecDepth 100000 in
theorem spec_TakeTexts_c (v u s : Value) (xs : List Pc) (ns : List Int) (ts : List ByteArray) (w : World) (h : Pcs w w.heap.size v xs) (h' : Ints w w.heap.size u ns) (h'' : Strs w w.heap.size s ts) (hx0 : ∀ x ∈ xs, x.text.size ≤ 1048576) (hl0 : xs.length ≤ 1048576) (hl : ts.length ≤ 1048576) (ht0 : ∀ t ∈ ts, t.size ≤ 1048576) :
    Calls Tryz.prog 118 #[v, u, s] w fun e w' => ∃ v', e = .returned (.tuple #[v', .int .i64 (takeTexts xs ns ts).2]) ∧ OwnP w' w.heap.size v' (takeTexts xs ns ts).1 ∧ Below w.heap.size w w' := by
  obtain ⟨n, hn⟩ : ∃ n, xs.length = n := ⟨_, rfl⟩
  obtain ⟨a, c, rfl, _, _, _⟩ := h.pcs hn
  obtain ⟨j, hj⟩ : ∃ j, ns.length = j := ⟨_, rfl⟩
  obtain ⟨a', c', rfl, _, _, _⟩ := h'.ints hj
  obtain ⟨m, hm⟩ : ∃ m, ts.length = m := ⟨_, rfl⟩
  obtain ⟨a'', c'', rfl, h1, h2, h3⟩ := h''.strs hm
  rw [hm] at hl
  have HM := hid hm
  have HT0 := hid ht0
  have HP : Hid (∀ wx, Below w.heap.size w wx → Pcs wx wx.heap.size (.slice a n c) xs) := fun wx hx' => h.on hx'
  have HS : Hid (∀ wx, Below w.heap.size w wx → Ints wx wx.heap.size (.slice a' j c') ns) := fun wx hx' => h'.on hx'
  clear hn hm hj h' h'' ht0
  obtain ⟨i0, hi0, hz0, hz1, hz2⟩ := info_parts info_pcO
  cases hok : storeOk xs
  · have HO := hid (show takeTexts xs ns ts = ([], -1) by unfold takeTexts; rw [hok]; rfl)
    clear h3
    go_enter Tryz.func118, Tryz.ntmps118
    go_wp2_with fail
    refine (spec_StoreValid_c _ xs _ _ h hx0 hl0).mono ?_
    rw [hok]
    rintro e w1 ⟨rfl, z, rfl⟩
    go_wp2
    go_ret2
    exact ⟨_, by rw [HO.out]; rfl, by rw [HO.out]; exact Own.made _ (Nat.le_refl _), (bl_drewN (Below.refl _ _) z).alloc (Nat.le_refl _) _⟩
  · have HO := hid (show takeTexts xs ns ts = ((takeFrom xs ns ts).1, ((takeFrom xs ns ts).2 : Int)) by unfold takeTexts; rw [hok]; rfl)
    have HK := hid hok
    have HL := hid (show xs.length ≤ 1000000 by have := (st_in hok).1; omega)
    go_enter Tryz.func118, Tryz.ntmps118
    go_wp2_with fail
    refine (spec_StoreValid_c _ xs _ _ h hx0 hl0).mono ?_
    rw [hok]
    rintro e w1 ⟨rfl, z, rfl⟩
    obtain ⟨W0, hW0⟩ : ∃ W0, W0 = w.drewN z := ⟨_, rfl⟩
    have b1 : Below w.heap.size w W0 := by rw [hW0]; exact bl_drewN (Below.refl _ _) z
    rw [← hW0]
    have hs1 := b1.size
    have hal : Below W0.heap.size W0 (W0.alloc (.cells #[] 60)) := (Below.refl _ _).alloc (Nat.le_refl _) _
    clear hok h hx0 hl0 hW0
    go_wp2_with (at_builtin; refine wpList_cat (enc := encP) (w0 := W0.alloc (.cells #[] 60)) rfl _ _ 23 rfl W0.heap.size W0.heap.size 60 i0 _ 2 24 Tryz.underlying23 hi0 hz0 hz1 hz2 rfl (by decide) _ _ [] xs (Own.made W0 (Nat.le_refl _)) _ ((HP.out _ b1).below hal (Nat.le_refl _)) (Below.refl _ _) (by simp) (Nat.le_refl _) rfl rfl encP_one (by have := HL.out; simp; omega) (by decide) ?_; intro v2 w2 o2 b2 hB2 _)
    have b2' := hal.trans b2
    rw [List.nil_append] at o2
    clear b2 hal
    go_loopw [0, 8, 9] (fun sv lf i wr => ∃ (k b : Nat) (cur : List Pc), k ≤ m ∧ i = .int .i64 k ∧ lf = .int .i64 b ∧ b ≤ k ∧ OwnP wr W0.heap.size sv cur ∧ Hid (storeOk cur = true ∧ (cur, b) = takeFrom xs ns (ts.take k)) ∧ Below W0.heap.size W0 wr) (fun _ _ i _ => m - (intOf i).toNat)
    case atStart => exact ⟨0, 0, xs, Nat.zero_le _, rfl, rfl, Nat.le_refl _, o2, hid ⟨HK.out, rfl⟩, b2'⟩
    case round =>
      obtain ⟨k, b, cur, hk, rfl, rfl, hbk, hown, hacc, hb⟩ := hrel
      have c1 := bl_then b1 hb
      clear o2 b2'
      by_cases hlt : k < m
      · obtain ⟨bb, o, t, rfl, hbl, hx, k0⟩ := h3 k hlt
        have j0 := (c1.cell (p := ⟨bb, o + k, none⟩) hbl).trans k0
        have HF := hid ((takeFrom_succ (l := xs) (ps := ns) hx.out).trans (by rw [← hacc.out.2]))
        have HTT := hid (show t.size ≤ 4611686018427387904 by have := HT0.out t (List.mem_of_getElem? hx.out); omega)
        clear k0 h3
        obtain ⟨z, hz⟩ : ∃ z, (putS cur t).2.2 = z := ⟨_, rfl⟩
        have HZ2 := hid hz
        clear hz
        obtain ⟨p, hp⟩ : ∃ p, (putS cur t).2.1 = p := ⟨_, rfl⟩
        have HZ := hid hp
        clear hp
        obtain ⟨y, hy⟩ : ∃ y, hasI ns p = y := ⟨_, rfl⟩
        have HY := hid hy
        clear hy
        have s4 := hb.size
        go_wp2_with fail
        refine (spec_PutText_c _ cur t _ (Rd.of_own hown) (st_small hacc.out.1).1 (st_small hacc.out.1).2 HTT.out).mono ?_
        rw [HZ2.out, HZ.out]
        rintro e w4 ⟨v4, rfl, o4, b4⟩
        have hown4 := hown.on b4
        have hb4 := bl_then hb b4
        have c4 := bl_then b1 hb4
        cases z
        · have HW := hid (HF.out.trans (take_no HZ2.out))
          go_wp2
          go_roundw
          case rel => exact ⟨k + 1, b + 1, cur, by omega, by go_num, by go_num, by omega, hown4, hid ⟨hacc.out.1, HW.out.symm⟩, hb4⟩
          case measure => simp [intOf]; omega
        · go_wp2_with fail
          refine (spec_l19Has_c _ ns p _ _ (HS.out _ c4)).mono ?_
          rw [HY.out]
          rintro e w5 ⟨rfl, rfl⟩
          cases y
          · have HW := hid (HF.out.trans (take_out (by rw [HZ.out]; exact HY.out)))
            go_wp2
            go_roundw
            case rel => exact ⟨k + 1, b + 1, cur, by omega, by go_num, by go_num, by omega, hown4, hid ⟨hacc.out.1, HW.out.symm⟩, hb4⟩
            case measure => simp [intOf]; omega
          · have HW := hid (HF.out.trans (take_yes HZ2.out (by rw [HZ.out]; exact HY.out)))
            go_wp2
            go_roundw
            case rel => exact ⟨k + 1, b, (putS cur t).1, by omega, by go_num, rfl, by omega, o4.less s4, hid ⟨put_ok hacc.out.1, HW.out.symm⟩, hb4⟩
            case measure => simp [intOf]; omega
      · have HA := hid (show (cur, b) = takeFrom xs ns ts by rw [hacc.out.2, take_all HM.out (show m ≤ k by omega)])
        have HB := hid (show takeTexts xs ns ts = (cur, (b : Int)) by rw [HO.out, ← HA.out])
        go_wp2
        go_ret2
        exact ⟨_, by rw [HB.out]; rfl, by rw [HB.out]; exact hown.less hs1, c1⟩

end Go.Proofs.YtachfmlfmpaddaaGreatDoor

/- Paths' words, in plain Lean: what Go's library splits and joins. No program in sight. -/
namespace Go.Proofs.YtachfmlfmpaddaaGreatDoor
open Go.RowKit

theorem parts_one : pathParts [47] = some [] := rfl
end Go.Proofs.YtachfmlfmpaddaaGreatDoor

/- Ways of names through folders, and what is put on the way back: the program's order of writing and the reference's come to the same. No program in sight. -/
namespace Go.Proofs.YtachfmlfmpaddaaGreatDoor
open Go.RowKit

/-! ### Names in order -/
/-! ### The print that a name has -/
theorem first_no {l : List Ent} {nm : ByteArray} (h : firstOf l nm = none) : ∀ e ∈ l, e.name ≠ nm := by
  intro e he hn
  unfold firstOf at h
  rw [Option.map_eq_none_iff, List.find?_eq_none] at h
  exact h e he (by simpa using hn)

/-! ### Folders -/
/-! ### Ways -/
theorem way_ok : ∀ (parts : List ByteArray) (s : List Pc) (q : Option Int) (F : List (List Ent)) (z : Option Int), wayW s q parts = some (F, z) → ∀ es ∈ F, entsOk es = true
  | [], s, q, F, z, h => by simp [wayW] at h; rw [h.1]; simp
  | nm :: r, s, q, F, z, h => by
    unfold wayW at h
    split at h
    · cases h
    · rename_i es hes
      split at h
      · cases h
      · rename_i F' z' hw
        simp only [Option.some.injEq, Prod.mk.injEq] at h
        rw [← h.1]
        intro x hx
        rcases List.mem_cons.1 hx with rfl | hx
        · exact folderQ_ok hes
        · exact way_ok r s _ F' z' hw x hx
end Go.Proofs.YtachfmlfmpaddaaGreatDoor

/- Walks: the prints that folders name; those that are missing. -/
namespace Go.Proofs.YtachfmlfmpaddaaGreatDoor
open Go.RowKit

theorem named_succ {l : List Pc} {k : Nat} {x : Pc} (h : l[k]? = some x) : named (l.take (k + 1)) = named (l.take k) ++ prs x := by
  unfold named; rw [take_snoc' h]; simp
theorem named_len : ∀ l : List Pc, (named l).length ≤ 3 * l.length
  | [] => by simp [named]
  | p :: r => by
    have h1 := named_len r
    have h2 := entsOf_len (bs p.text)
    unfold named at h1 ⊢
    simp only [List.flatMap_cons, List.length_append, List.length_cons]
    simp only [prs, List.length_map]
    omega
noncomputable def missingOf (l : List Pc) : List Int := wantedOf l (named l)

set_option maxHeartbeats 2000000 in
set_option maxRecDepth 100000 in
theorem impl_namedPrints_c (v : Value) (xs : List Pc) (w : World) (h : Pcs w w.heap.size v xs) (hx0 : ∀ x ∈ xs, x.text.size ≤ 1000000) (hl : xs.length ≤ 1048576) (hg : Glob w) :
    Calls Tryz.prog 88 #[v] w fun e w' => ∃ v', e = .returned v' ∧ OwnI w' w.heap.size v' (named xs) ∧ Below w.heap.size w w' := by
  obtain ⟨n, hn⟩ : ∃ n, xs.length = n := ⟨_, rfl⟩
  obtain ⟨a, c, rfl, h1, h2, h3⟩ := h.pcs hn
  rw [hn] at hl
  have HN := hid hn
  have HX := hid hx0
  have HG := hid hg
  clear hn h hx0 hg
  go_enter Tryz.func88, Tryz.ntmps88
  go_wp2
  go_loopw [3, 12] (fun pv i wr => ∃ (k : Nat) (acc : List Int), k ≤ n ∧ i = .int .i64 k ∧ OwnI wr w.heap.size pv acc ∧ Hid (acc = named (xs.take k)) ∧ acc.length ≤ 3 * k ∧ Below w.heap.size w wr) (fun _ i _ => n - (intOf i).toNat)
  case atStart => exact ⟨0, [], Nat.zero_le _, rfl, Own.nil_, rfl, by simp, Below.refl _ _⟩
  case round =>
    obtain ⟨k, acc, hk, rfl, hown, hacc, hlen, hb⟩ := hrel
    by_cases hlt : k < n
    · obtain ⟨b, o, r, t, rfl, hbl, hx, k0, k1⟩ := h3 k hlt
      have j0 := (hb.cell (p := ⟨b, o + k * 2, none⟩) hbl).trans k0
      have j1 := (hb.cell (p := ⟨b, o + k * 2 + 1, none⟩) hbl).trans k1
      have HT := hid (HX.out _ (List.mem_of_getElem? hx.out))
      have HA := hid (named_succ hx.out)
      obtain ⟨W1, hW1⟩ : ∃ W1, W1 = wr.alloc (.cells #[.int .i64 r, .string t] 60) := ⟨_, rfl⟩
      have hb1 : Below w.heap.size w W1 := by rw [hW1]; exact hb.alloc hb.size _
      have hown1 : OwnI W1 w.heap.size u3 acc := by rw [hW1]; exact hown.alloc _
      obtain ⟨es, hes⟩ : ∃ es, entsOf (bs t) = es := ⟨_, rfl⟩
      have HES := hid hes
      have hm3 := entsOf_len (bs t)
      rw [hes] at hm3
      obtain ⟨m, hm⟩ : ∃ m, es.length = m := ⟨_, rfl⟩
      have HM := hid hm
      have hm4 : m ≤ 3 := by omega
      clear k0 k1 h3 hes hm3
      go_wp2_with fail
      rw [← hW1]
      refine (impl_ReadFolder_c t _ (Nat.le_trans HT.out (by omega)) (HG.out.on hb1)).mono ?_
      rw [HES.out]
      rintro e w4 ⟨lv, rfl, o4, b4⟩
      have hown4 := hown1.on b4
      have hb4 := bl_then hb1 b4
      have hlt4 := hid o4.lt
      have hpb : Hid (∀ g, Value.ownBlock u3 = some g → g < W1.heap.size) := hid fun g hg => (hown1.lt g hg).2
      have hsz4 := b4.size
      obtain ⟨la, lc, rfl, _, _, _⟩ := (Rd.of_own o4).ents hm
      clear hW1 b4 hm
      go_wp2
      go_loopw [3, 24] (fun pv i wr2 => ∃ (j : Nat) (acc2 : List Int), j ≤ m ∧ i = .int .i64 j ∧ OwnI wr2 w.heap.size pv acc2 ∧ Hid (acc2 = acc ++ (es.map (·.print)).take j) ∧ acc2.length ≤ 3 * k + j ∧ OwnE wr2 W1.heap.size (.slice la m lc) es ∧ Hid (∀ g, pv.ownBlock = some g → g < W1.heap.size ∨ w4.heap.size ≤ g) ∧ Below w.heap.size w wr2 ∧ w4.heap.size ≤ wr2.heap.size) (fun _ i _ => m - (intOf i).toNat)
      case atStart => exact ⟨0, acc, Nat.zero_le _, rfl, hown4, by simp [Hid], by omega, o4, hid fun g hg => .inl (hpb.out g hg), hb4, Nat.le_refl _⟩
      case round =>
        obtain ⟨j, acc2, hj, rfl, hown2, hacc2, hlen2, hol, hpb2, hb2, hsz2⟩ := hrel
        clear o4 hown4 hb4
        by_cases hjm : j < m
        · obtain ⟨_, _, hv, _, _, hcs⟩ := (Rd.of_own hol).ents HM.out
          simp only [Value.slice.injEq] at hv
          obtain ⟨e1, _, e2⟩ := hv
          subst e1
          subst e2
          obtain ⟨eb, eo, nm, pr, rfl, hebl, hex, c0, c1⟩ := hcs j hjm
          have HA2 := hid (show (es.map (·.print)).take (j + 1) = (es.map (·.print)).take j ++ [pr] by rw [take_snoc' (x := pr) (by rw [List.getElem?_map, hex.out]; rfl)])
          have hal2 : Below w.heap.size w (wr.alloc (.cells #[.string nm, .int .i64 pr] 81)) := hb2.alloc hb2.size _
          have hown3 := hown2.alloc (.cells #[.string nm, .int .i64 pr] 81)
          have hol3 := hol.alloc (.cells #[.string nm, .int .i64 pr] 81)
          have hB3 := hal2.size
          clear hcs hown2 hb2 hol
          go_wp2_with (at_builtin; refine push_int (w0 := w) rfl _ _ rfl w.heap.size w.heap.size _ acc2 pr hown3 hal2 hB3 (Nat.le_refl _) rfl (by simp [Act.eval]) (by omega) ?_; intro v' w' hown' hb' hB' hg')
          go_roundw
          case rel =>
            have hne : (Value.slice (some ⟨eb, eo, none⟩) m lc).ownBlock = none ∨ (Value.slice (some ⟨eb, eo, none⟩) m lc).ownBlock ≠ Value.ownBlock _ := .inr (fun e => by
              have h5 := hlt4.out eb rfl
              rcases hpb2.out eb e.symm with h6 | h6
              · omega
              · omega)
            have hsz3 : w4.heap.size ≤ w'.heap.size := by have := hg'.1.size; simp at this; omega
            refine ⟨j + 1, _, by omega, by go_num, hown', by unfold Hid; rw [HA2.out, hacc2.out, List.append_assoc], by simp; omega, Own.kept hol3 hg'.1 hne, hid fun g hg => ?_, hb', hsz3⟩
            rcases hg'.2 g hg with h6 | h6
            · exact hpb2.out g h6
            · exact .inr (by simp at h6; omega)
          case measure => simp [intOf]; omega
        · have HF := hid (show acc2 = named (xs.take (k + 1)) by
            have e9 : (es.map (·.print)).take j = es.map (·.print) := List.take_of_length_le (by rw [List.length_map, HM.out]; omega)
            rw [hacc2.out, HA.out, hacc.out, e9]; unfold prs; rw [HES.out])
          go_wp2
          go_roundw
          case rel => exact ⟨k + 1, acc2, by omega, by go_num, hown2, HF, by omega, hb2⟩
          case measure => simp [intOf]; omega
    · have HA := hid (show acc = named xs by rw [hacc.out, take_all HN.out (show n ≤ k by omega)])
      go_wp2
      go_ret
      exact ⟨_, rfl, by rw [← HA.out]; exact hown, hb⟩

end Go.Proofs.YtachfmlfmpaddaaGreatDoor
