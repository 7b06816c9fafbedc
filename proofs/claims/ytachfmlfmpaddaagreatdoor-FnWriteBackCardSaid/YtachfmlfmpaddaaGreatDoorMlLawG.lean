/- Walks: the laws on writes and drops. -/
import Derived.Test.YtachfmlfmpaddaaGreatDoorMg32
import Derived.Test.YtachfmlfmpaddaaGreatDoorMg39
import Derived.Test.YtachfmlfmpaddaaGreatDoorMg40
import Derived.Test.YtachfmlfmpaddaaGreatDoorMg42
import Derived.Test.YtachfmlfmpaddaaGreatDoorMg43
namespace Go.Proofs.YtachfmlfmpaddaaGreatDoor
open Go.RowKit

theorem drop_keep {xs : List Pc} {root : Int} {path : List UInt8} {R : List Pc × Int × Bool} (h : dropAt xs root path = R) (hf : R.2.2 = false) : R = (xs, root, false) ∨ R = ([], -1, false) := by
  cases hs : storeOk xs
  · rw [drop_off (.inl hs)] at h; exact .inr h.symm
  cases hp : pathParts path with
  | none => rw [drop_off (.inr (.inl hp))] at h; exact .inr h.symm
  | some ws =>
    by_cases h0 : ws = []
    · rw [drop_off (.inr (.inr (by rw [hp, h0])))] at h; exact .inr h.symm
    · cases hw : (walkAt xs root (ws.map strL)).2
      · unfold dropAt at h
        rw [hp] at h
        simp only [] at h
        rw [if_neg (by rw [hs]; simp [h0]), if_pos hw] at h
        exact .inl h.symm
      · rw [dropAt_eq hs hp h0 hw] at h
        cases hd : dropOff xs root (ws.map strL) with
        | none => rw [hd] at h; exact .inl h.symm
        | some sp => rw [hd] at h; rw [← h] at hf; cases hf
theorem drop_done {xs x : List Pc} {root p : Int} {path : List UInt8} (h : dropAt xs root path = (x, p, true)) : storeOk xs = true ∧ ∃ ws, pathParts path = some ws ∧ ws ≠ [] ∧ (walkAt xs root (ws.map strL)).2 = true ∧ dropOff xs root (ws.map strL) = some (x, p) := by
  cases hs : storeOk xs
  · rw [drop_off (.inl hs)] at h; simp at h
  cases hp : pathParts path with
  | none => rw [drop_off (.inr (.inl hp))] at h; simp at h
  | some ws =>
    by_cases h0 : ws = []
    · rw [drop_off (.inr (.inr (by rw [hp, h0])))] at h; simp at h
    · cases hw : (walkAt xs root (ws.map strL)).2
      · unfold dropAt at h
        rw [hp] at h
        simp only [] at h
        rw [if_neg (by rw [hs]; simp [h0]), if_pos hw] at h
        simp at h
      · rw [dropAt_eq hs hp h0 hw] at h
        cases hd : dropOff xs root (ws.map strL) with
        | none => rw [hd] at h; simp at h
        | some sp =>
          obtain ⟨s', p'⟩ := sp
          rw [hd] at h
          simp only [Prod.mk.injEq, and_true] at h
          obtain ⟨rfl, rfl⟩ := h
          exact ⟨rfl, ws, rfl, h0, hw, hd⟩
theorem write_done {xs x : List Pc} {root p : Int} {path content : List UInt8} (h : writeAt xs root path content = (x, p, true)) : storeOk xs = true ∧ contOk content = true ∧ ∃ ws, pathParts path = some ws ∧ ws ≠ [] ∧ writeTo xs root (ws.map strL) content = some (x, p) := by
  cases hs : storeOk xs
  · rw [write_off (.inl hs)] at h; simp at h
  cases hp : pathParts path with
  | none => rw [write_off (.inr (.inl hp))] at h; simp at h
  | some ws =>
    by_cases h0 : ws = []
    · rw [write_off (.inr (.inr (.inl (by rw [hp, h0]))))] at h; simp at h
    · cases hc : contOk content
      · rw [write_off (.inr (.inr (.inr hc)))] at h; simp at h
      · rw [writeAt_eq hs hp h0 hc] at h
        cases hd : writeTo xs root (ws.map strL) content with
        | none => rw [hd] at h; simp at h
        | some sp =>
          obtain ⟨s', p'⟩ := sp
          rw [hd] at h
          simp only [Prod.mk.injEq, and_true] at h
          obtain ⟨rfl, rfl⟩ := h
          exact ⟨rfl, rfl, ws, rfl, h0, hd⟩
theorem write_keep {xs : List Pc} {root : Int} {path content : List UInt8} {R : List Pc × Int × Bool} (h : writeAt xs root path content = R) (hf : R.2.2 = false) : R = (xs, root, false) ∨ R = ([], -1, false) := by
  cases hs : storeOk xs
  · rw [write_off (.inl hs)] at h; exact .inr h.symm
  cases hp : pathParts path with
  | none => rw [write_off (.inr (.inl hp))] at h; exact .inr h.symm
  | some ws =>
    by_cases h0 : ws = []
    · rw [write_off (.inr (.inr (.inl (by rw [hp, h0]))))] at h; exact .inr h.symm
    · cases hc : contOk content
      · rw [write_off (.inr (.inr (.inr hc)))] at h; exact .inr h.symm
      · rw [writeAt_eq hs hp h0 hc] at h
        cases hd : writeTo xs root (ws.map strL) content with
        | none => rw [hd] at h; exact .inl h.symm
        | some sp => rw [hd] at h; rw [← h] at hf; cases hf
theorem sizes_ok {x : List Pc} (h : storeOk x = true) : (∀ y ∈ x, y.text.size ≤ 1048576) ∧ x.length ≤ 1048576 := ⟨fun y hy => by have := st_text h hy; omega, by have := (st_in h).1; omega⟩
theorem writeTo_again {x x2 : List Pc} {root p : Int} {path content : List UInt8} {ws : List (List UInt8)} (hx : storeOk x = true) (hp : pathParts path = some ws) (h0 : ws ≠ []) (hc : contOk content = true) (h : writeTo x root (ws.map strL) content = some (x2, p)) : writeAt x root path content = (x2, p, true) := by rw [writeAt_eq hx hp h0 hc, h]


set_option maxHeartbeats 2000000 in
set_option maxRecDepth 100000 in
theorem laws_FnWriteBack_c (v : Value) (l : List Int) (w : World) (h : Rd encU 1 w w.heap.size v l) (hl : ∀ x ∈ l, 0 ≤ x ∧ x ≤ 255) (hg : Glob w) (hm : Mx w) :
    Calls Tryz.prog 9 #[v] w fun e w' => e = .returned (.bool true) ∧ Below w.heap.size w w' := by
  obtain ⟨n0, hn0⟩ : ∃ n, l.length = n := ⟨_, rfl⟩
  obtain ⟨a, c, rfl, _, _, _⟩ := Rd.openN h (fun _ => rfl) hn0
  have HG0 := hid hg
  have HM0 := hid hm
  clear hg hm
  by_cases hbig : 1048576 < n0
  · go_enter Tryz.func9, Tryz.ntmps9
    go_wp2
    go_ret
    exact ⟨rfl, Below.refl _ _⟩
  go_enter Tryz.func9, Tryz.ntmps9
  go_wp2_with fail
  refine (spec_DrawDropAt_c _ l w h hl).mono ?_
  rintro e w1 ⟨sv, xs, root, path, rfl, o1, hd, hps, b1⟩
  have HP : Hid (∀ wx, Below w1.heap.size w1 wx → Pcs wx wx.heap.size sv xs) := hid fun wx hx => (Rd.of_own o1).on hx
  have HD := hid hd
  have HG : Hid (∀ wx, Below w1.heap.size w1 wx → Glob wx) := hid fun wx hx => (HG0.out.on b1).on hx
  have HM : Hid (∀ wx, Below w1.heap.size w1 wx → Mx wx) := hid fun wx hx => (HM0.out.on b1).on hx
  have r0 : Below w1.heap.size w1 w1 := Below.refl _ _
  clear h hl hn0 o1 hd
  obtain ⟨⟨C, fl⟩, hC⟩ : ∃ R, readAt xs root (bs path) = R := ⟨_, rfl⟩
  have HC := hid hC
  obtain ⟨⟨X, p, ok⟩, hR⟩ : ∃ R, dropAt xs root (bs path) = R := ⟨_, rfl⟩
  have HR := hid hR
  have HCS := hid (show (strL C).size ≤ 1000000 by rw [strL_size]; have := read_small hC; omega)
  clear hC hR
  go_wp2_with fail
  refine (impl_ReadAt_e _ xs root path _ _ _ HC.out (HP.out _ r0) (by omega) (HG.out _ r0) (HM.out _ r0)).mono ?_
  rintro e w2 ⟨rfl, b2⟩
  go_wp2_with fail
  refine (impl_DropAt_c _ xs root path _ _ HR.out (HP.out _ b2) (by omega) (HG.out _ b2) (HM.out _ b2)).mono ?_
  rintro e w3 ⟨xv, rfl, X3, b3⟩
  have HX3 := hid X3
  have d3 := bl_then b2 b3
  have d13 := bl_then b1 d3
  clear X3 b2 b3
  cases fl
  · go_wp2_with (go_at_call 21; refine (laws_alive_c _).mono ?_; rintro e w99 ⟨rfl, rfl⟩)
    go_ret
    exact ⟨rfl, d13⟩
  cases ok
  · go_wp2_with (go_at_call 21; refine (laws_alive_c _).mono ?_; rintro e w99 ⟨rfl, rfl⟩)
    go_ret
    exact ⟨rfl, d13⟩
  obtain ⟨⟨X5, b, good⟩, hW⟩ : ∃ W, writeAt X p (bs path) C = W := ⟨_, rfl⟩
  have HW := hid (show writeAt X p (bs path) (bs (strL C)) = (X5, b, good) by rw [bs_strL]; exact hW)
  have HB := hid (show good = true → b = root from fun e => by
    subst e
    obtain ⟨hs, ws, hp, h0, hw, hdo⟩ := drop_done HR.out
    obtain ⟨hx, hc, ws', hp', h0', hwt⟩ := write_done hW
    obtain rfl := Option.some.inj (hp.symm.trans hp')
    obtain ⟨n, hwn, hft, _, _⟩ := read_pos HC.out
    rw [walk_on hs hp] at hwn
    exact lw_back hs (by simpa using h0) hwn hft hdo hwt)
  clear hW
  go_wp2_with fail
  refine (impl_WriteAt_c _ X p path (strL C) _ _ HW.out HX3.out (by omega) HCS.out (HG.out _ d3) (HM.out _ d3)).mono ?_
  rintro e w5 ⟨zv, rfl, Z5, b5⟩
  have d5 := bl_then d13 b5
  clear Z5 b5
  cases good
  · go_wp2
    go_ret
    exact ⟨rfl, d5⟩
  · obtain rfl := HB.out rfl
    go_wp2
    go_ret
    exact ⟨rfl, d5⟩

set_option maxHeartbeats 2000000 in
set_option maxRecDepth 100000 in
theorem laws_FnWriteAt_c (v : Value) (l : List Int) (w : World) (h : Rd encU 1 w w.heap.size v l) (hl : ∀ x ∈ l, 0 ≤ x ∧ x ≤ 255) (hg : Glob w) (hm : Mx w) :
    Calls Tryz.prog 10 #[v] w fun e w' => e = .returned (.bool true) ∧ Below w.heap.size w w' := by
  obtain ⟨n0, hn0⟩ : ∃ n, l.length = n := ⟨_, rfl⟩
  obtain ⟨a, c, rfl, _, _, _⟩ := Rd.openN h (fun _ => rfl) hn0
  have HG0 := hid hg
  have HM0 := hid hm
  clear hg hm
  by_cases hbig : 1048576 < n0
  · go_enter Tryz.func10, Tryz.ntmps10
    go_wp2
    go_ret
    exact ⟨rfl, Below.refl _ _⟩
  go_enter Tryz.func10, Tryz.ntmps10
  go_wp2_with fail
  refine (spec_DrawWriteAt_c _ l w h hl).mono ?_
  rintro e w1 ⟨sv, xs, root, path, content, rfl, o1, hd, hps, hcs, b1⟩
  have HP : Hid (∀ wx, Below w1.heap.size w1 wx → Pcs wx wx.heap.size sv xs) := hid fun wx hx => (Rd.of_own o1).on hx
  have HD := hid hd
  have HG : Hid (∀ wx, Below w1.heap.size w1 wx → Glob wx) := hid fun wx hx => (HG0.out.on b1).on hx
  have HM : Hid (∀ wx, Below w1.heap.size w1 wx → Mx wx) := hid fun wx hx => (HM0.out.on b1).on hx
  have r0 : Below w1.heap.size w1 w1 := Below.refl _ _
  clear h hl hn0 o1 hd
  obtain ⟨⟨X, p, ok⟩, hR⟩ : ∃ R, writeAt xs root (bs path) (bs content) = R := ⟨_, rfl⟩
  have HR := hid hR
  obtain ⟨q, hq⟩ : ∃ q, X.length = q := ⟨_, rfl⟩
  have HQ := hid hq
  clear hR hq
  go_wp2_with fail
  refine (impl_WriteAt_c _ xs root path content _ _ HR.out (HP.out _ r0) (by omega) (by omega) (HG.out _ r0) (HM.out _ r0)).mono ?_
  rintro e w2 ⟨xv, rfl, X2, b2⟩
  obtain ⟨xa, xc, rfl, _, _, _⟩ := X2.pcs HQ.out
  have HX2 := hid X2
  clear X2
  go_wp2_with fail
  refine (spec_WriteAt_c _ xs root path content _ _ HR.out (HP.out _ b2) HD.out.sizes2.1 HD.out.sizes2.2 (by omega) (by omega)).mono ?_
  rintro e w3 ⟨yv, rfl, o3, b3⟩
  have d3 := bl_then b2 b3
  have X3 := hid (HX2.out.on b3)
  have Y3 := hid (Rd.of_own o3)
  clear o3 b2 b3 HX2
  go_wp2_with fail
  refine (laws_samePieces_s _ _ X _ _ _ X3.out Y3.out).mono ?_
  rintro e w4 ⟨rfl, z4, rfl⟩
  have d4 := bl_drewN d3 z4
  have X4 := hid (X3.out.drewN z4)
  have d14 := bl_then b1 d4
  have d13 := bl_then b1 d3
  clear d3 X3 Y3
  cases ok
  · rcases write_keep HR.out rfl with e | e
    · simp only [Prod.mk.injEq, and_true] at e
      obtain ⟨rfl, rfl⟩ := e
      go_wp2_with fail
      refine (laws_samePieces_s _ _ X _ _ _ X4.out (HP.out _ d4)).mono ?_
      rintro e w5 ⟨rfl, z5, rfl⟩
      have d5 := bl_drewN d13 (z4 + z5)
      go_wp2_with (go_at_call 21; refine (laws_alive_c _).mono ?_; rintro e w99 ⟨rfl, rfl⟩)
      go_ret
      exact ⟨rfl, d5⟩
    · simp only [Prod.mk.injEq, and_true] at e
      obtain ⟨rfl, rfl⟩ := e
      obtain rfl : q = 0 := HQ.out.symm
      by_cases hx0 : xs = []
      · go_wp2_with fail
        refine (laws_samePieces_s _ _ [] _ _ _ X4.out (hx0 ▸ HP.out _ d4)).mono ?_
        rintro e w5 ⟨rfl, z5, rfl⟩
        have d5 := bl_drewN d13 (z4 + z5)
        by_cases hr1 : root = -1
        · subst hr1
          go_wp2_with (go_at_call 21; refine (laws_alive_c _).mono ?_; rintro e w99 ⟨rfl, rfl⟩)
          go_ret
          exact ⟨rfl, d5⟩
        · have hr2 : ((-1 : Int) == root) = false := by simp; omega
          go_wp2_with (go_at_call 21; refine (laws_alive_c _).mono ?_; rintro e w99 ⟨rfl, rfl⟩)
          go_ret
          exact ⟨rfl, d5⟩
      · go_wp2_with fail
        refine (laws_samePieces_l _ _ [] xs _ _ _ X4.out (HP.out _ d4) (by simpa using fun e : 0 = xs.length => hx0 (List.eq_nil_of_length_eq_zero e.symm))).mono ?_
        rintro e w5 ⟨rfl, rfl⟩
        go_wp2_with (go_at_call 21; refine (laws_alive_c _).mono ?_; rintro e w99 ⟨rfl, rfl⟩)
        go_ret
        exact ⟨rfl, d14⟩
  · obtain ⟨hs, hc, ws, hp, h0, hwt⟩ := write_done HR.out
    obtain ⟨hx, hle, hlen, hwa, htx, hag⟩ := lw_write hs hc hwt
    have HRD := hid (show readAt X p (bs path) = (bs content, true) by
      unfold readAt
      rw [walk_on hx hp, hwa]
      simp only [if_true]
      rw [htx]
      unfold fileText
      rw [if_pos hc, fileC_yes hc]
      simp only [isFile_cons, hc, decide_true, Bool.and_self])
    have HCT := hid (strL_bs content)
    have HAG := hid (writeTo_again hx hp h0 hc hag)
    have HKF := hid (show Keeps xs X root from keeps_le hle hs hx)
    have HX := hid hx
    obtain ⟨m, hm⟩ : ∃ m, xs.length = m := ⟨_, rfl⟩
    have HMX := hid hm
    have hmq : (m : Int) ≤ q := by have := HQ.out; omega
    clear hs hc hp h0 hwt hx hle hlen hwa htx hag hm
    go_wp2_with fail
    refine (impl_ReadAt_e _ X p path _ _ _ HRD.out X4.out (by omega) (HG.out _ d4) (HM.out _ d4)).mono ?_
    rw [HCT.out]
    rintro e w5 ⟨rfl, b5⟩
    have d5 := bl_then d4 b5
    have X5 := hid (X4.out.on b5)
    clear b5 X4
    go_wp2_with fail
    refine (impl_WriteAt_c _ X p path content _ _ HAG.out X5.out (by omega) (by omega) (HG.out _ d5) (HM.out _ d5)).mono ?_
    rintro e w6 ⟨zv, rfl, Z6, b6⟩
    have d6 := bl_then d5 b6
    have X6 := hid (X5.out.on b6)
    clear b6 X5 Z6
    go_wp2_with fail
    refine (impl_StoreValid_c _ X _ X6.out).mono ?_
    rw [HX.out]
    rintro e w7 ⟨rfl, b7⟩
    have d7 := bl_then d6 b7
    have X7 := hid (X6.out.on b7)
    clear b7 X6
    go_wp2_with fail
    refine (laws_keepsFiles_c _ _ xs X root _ HKF.out (HP.out _ d7) X7.out (HG.out _ d7) (HM.out _ d7)).mono ?_
    rintro e w8 ⟨rfl, b8⟩
    have d8 := bl_then b1 (bl_then d7 b8)
    obtain ⟨sa, sc, rfl, _, _, _⟩ := (HP.out _ d7).pcs HMX.out
    go_wp2
    go_ret
    exact ⟨rfl, d8⟩

end Go.Proofs.YtachfmlfmpaddaaGreatDoor
