/- Walks: the law on names. -/
import Derived.Test.YtachfmlfmpaddaaGreatDoorMg13
import Derived.Test.YtachfmlfmpaddaaGreatDoorMg17
import Derived.Test.YtachfmlfmpaddaaGreatDoorMg40
import Derived.Test.YtachfmlfmpaddaaGreatDoorMg41
namespace Go.Proofs.YtachfmlfmpaddaaGreatDoor
open Go.RowKit

theorem impl_WordValid_y (s : ByteArray) (w : World) (h : wordOk (bs s) = true) :
    Calls Tryz.prog 63 #[.string s] w fun e w' => e = .returned (.bool true) ∧ w = w' := h ▸ impl_WordValid_c s w

set_option maxHeartbeats 2000000 in
set_option maxRecDepth 100000 in
theorem laws_FnNamesAt_c (v : Value) (l : List Int) (w : World) (h : Rd encU 1 w w.heap.size v l) (hl : ∀ x ∈ l, 0 ≤ x ∧ x ≤ 255) (hg : Glob w) (hm : Mx w) :
    Calls Tryz.prog 15 #[v] w fun e w' => e = .returned (.bool true) ∧ Below w.heap.size w w' := by
  obtain ⟨n0, hn0⟩ : ∃ n, l.length = n := ⟨_, rfl⟩
  obtain ⟨a, c, rfl, _, _, _⟩ := Rd.openN h (fun _ => rfl) hn0
  have HG0 := hid hg
  have HM0 := hid hm
  clear hg hm
  by_cases hbig : 1048576 < n0
  · go_enter Tryz.func15, Tryz.ntmps15
    go_wp2
    go_ret
    exact ⟨rfl, Below.refl _ _⟩
  go_enter Tryz.func15, Tryz.ntmps15
  go_wp2_with fail
  refine (spec_DrawNamesAt_c _ l w h hl).mono ?_
  rintro e w1 ⟨sv, xs, root, path, rfl, o1, hd, hps, b1⟩
  have HP : Hid (∀ wx, Below w1.heap.size w1 wx → Pcs wx wx.heap.size sv xs) := hid fun wx hx => (Rd.of_own o1).on hx
  have HG : Hid (∀ wx, Below w1.heap.size w1 wx → Glob wx) := hid fun wx hx => (HG0.out.on b1).on hx
  have HM : Hid (∀ wx, Below w1.heap.size w1 wx → Mx wx) := hid fun wx hx => (HM0.out.on b1).on hx
  have HD := hid hd
  have r0 : Below w1.heap.size w1 w1 := Below.refl _ _
  clear h hl hn0 o1 hd
  obtain ⟨⟨L, ok⟩, hL⟩ : ∃ R, namesAt xs root (bs path) = R := ⟨_, rfl⟩
  have HL := hid hL
  obtain ⟨n, hn⟩ : ∃ n, L.length = n := ⟨_, rfl⟩
  have HN := hid hn
  clear hL hn
  go_wp2_with fail
  refine (impl_NamesAt_c _ xs root path _ L ok HL.out (HP.out _ r0) (by omega) (HG.out _ r0) (HM.out _ r0)).mono ?_
  rintro e w2 ⟨xv, rfl, o2, b2⟩
  obtain ⟨fa, fc, rfl, _, _, _⟩ := (Rd.of_own o2).strs HN.out
  have X2 := hid (Rd.of_own o2)
  clear o2
  go_wp2_with fail
  refine (spec_NamesAt_c _ xs root path _ L ok HL.out (HP.out _ b2) HD.out.sizes2.1 HD.out.sizes2.2 (by omega)).mono ?_
  rintro e w3 ⟨yv, rfl, o3, b3⟩
  have d3 := bl_then b2 b3
  have X3 := hid (X2.out.on b3)
  have Y3 := hid (Rd.of_own o3)
  clear o3 b2 b3 X2
  go_wp2_with fail
  refine (laws_sameTexts_s _ _ L _ _ _ X3.out Y3.out).mono ?_
  rintro e w4 ⟨rfl, z4, rfl⟩
  obtain ⟨W4, hW4⟩ : ∃ W4, W4 = w3.drewN z4 := ⟨_, rfl⟩
  have D4 : Hid (Below w1.heap.size w1 W4) := hid (by rw [hW4]; exact bl_drewN d3 z4)
  have h3 : ∀ i, i < n → ∃ b o x, fa = some ⟨b, o, none⟩ ∧ b < W4.heap.size ∧ Hid (L[i]? = some x) ∧ W4.cell? ⟨b, o + i, none⟩ = some (.string x) := by
    intro i hi
    obtain ⟨a', c', hv', _, _, h'⟩ := (show Strs W4 W4.heap.size _ L by rw [hW4]; exact X3.out.drewN z4).strs HN.out
    simp only [Value.slice.injEq] at hv'
    obtain ⟨rfl, _, rfl⟩ := hv'
    exact h' i hi
  have H3 := hid h3
  have d14 := bl_then b1 D4.out
  rw [← hW4]
  clear d3 X3 Y3 h3 hW4
  cases ok
  · have hL0 := names_off HL.out
    obtain rfl : n = 0 := by rw [← HN.out, hL0]; rfl
    clear hL0
    go_wp2_with (go_at_call 21; refine (laws_alive_c _).mono ?_; rintro e w99 ⟨rfl, rfl⟩)
    go_ret
    exact ⟨rfl, d14⟩
  · obtain ⟨hl3, hwd, hasc, hrd⟩ := names_facts HL.out
    have hn3 : n ≤ 3 := by rw [← HN.out]; exact hl3
    have HWD := hid hwd
    have HAS := hid hasc
    obtain ⟨⟨C, fk⟩, hA⟩ : ∃ R, readAt xs root (bs path) = R := ⟨_, rfl⟩
    rw [hA] at hrd
    obtain rfl : fk = false := hrd
    have HA := hid hA
    clear hl3 hwd hasc hA
    go_wp2_with fail
    refine (impl_ReadAt_e _ xs root path _ _ _ HA.out (HP.out _ D4.out) (by omega) (HG.out _ D4.out) (HM.out _ D4.out)).mono ?_
    rintro e w5 ⟨rfl, b5⟩
    have d5 := bl_then d14 b5
    have HB5 := hid b5
    clear b5
    go_wp2
    go_loopw [12] (fun kv wr => ∃ k z : Nat, k ≤ n ∧ kv = .int .i64 k ∧ wr = w5.drewN z) (fun kv _ => n - (intOf kv).toNat)
    case atStart => exact ⟨0, 0, Nat.zero_le _, rfl, rfl⟩
    case round =>
      obtain ⟨k, z, hk, rfl, rfl⟩ := hrel
      by_cases hlt : k < n
      · obtain ⟨b, o, t, rfl, hbl, hx, k0'⟩ := H3.out k hlt
        have k0 := (HB5.out.cell (p := ⟨b, o + k, none⟩) hbl).trans k0'
        have hkn : (k : Int) < n := by omega
        have HWT := hid (HWD.out t (List.mem_of_getElem? hx.out))
        by_cases hk0 : k = 0
        · have hd0 : decide (0 < k) = false := by simp; omega
          clear k0' hk0
          go_wp2
          go_quiet (first | (go_at_call 63; exact qsame (impl_WordValid_y _ _ HWT.out)) | fail)
          go_wp2
          go_roundw
          case rel => exact ⟨k + 1, _, by omega, by go_num, rfl⟩
          case measure => simp [intOf]; omega
        · obtain ⟨j, hj⟩ : ∃ j, k = j + 1 := ⟨k - 1, by omega⟩
          obtain ⟨b', o', t', hbo, hbl', hx', j0'⟩ := H3.out j (by omega)
          simp only [Option.some.injEq, Addr.mk.injEq, and_true] at hbo
          obtain ⟨rfl, rfl⟩ := hbo
          have j0 := (HB5.out.cell (p := ⟨b, o + j, none⟩) hbl).trans j0'
          have hd0 : decide (0 < k) = true := by simp; omega
          have hkj : (k : Int) - 1 = (j : Int) := by omega
          have hw1 : IntKind.i64.wrap (j : Int) = (j : Int) := IntWalk.i64_in _ (by omega)
          have hjn : (j : Int) < n := by omega
          have hlast : ltN t' t = true := by
            obtain ⟨h1, e1⟩ := List.getElem?_eq_some_iff.1 hx'.out
            obtain ⟨h2, e2⟩ := List.getElem?_eq_some_iff.1 hx.out
            have := List.pairwise_iff_getElem.1 HAS.out j k h1 h2 (by omega)
            rw [e1, e2] at this
            exact this
          have hd1 : (Go.Op.bytesLess t.toList t'.toList || t.toList == t'.toList) = false := by rw [ltN_total, hlast]; rfl
          clear hlast hx' hj k0' j0' hk0
          go_wp2
          go_quiet (first | (go_at_call 63; exact qsame (impl_WordValid_y _ _ HWT.out)) | fail)
          go_wp2
          go_roundw
          case rel => exact ⟨k + 1, _, by omega, by go_num, rfl⟩
          case measure => simp [intOf]; omega
      · have hn3' : (n : Int) ≤ 3 := by omega
        have d6 := bl_drewN d5 z
        go_wp2
        go_ret
        exact ⟨rfl, d6⟩

end Go.Proofs.YtachfmlfmpaddaaGreatDoor
