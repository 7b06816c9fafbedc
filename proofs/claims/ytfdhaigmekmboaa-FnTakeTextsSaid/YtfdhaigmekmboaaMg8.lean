/- Walks and plain facts, joined: Take. -/
import Derived.Test.YtfdhaigmekmboaaMg2
import Derived.Test.YtfdhaigmekmboaaMg3
import Derived.Test.YtfdhaigmekmboaaMg5
import Derived.Test.YtfdhaigmekmboaaMg7
set_option linter.unusedVariables false

/- Walks: texts that are taken. -/
namespace Go.Proofs.Ytfdhaigmekmboaa
open Go.RowKit

theorem take_bad {ps : List Int} {l : List Pc} {b : Nat} {t : ByteArray} (h : storeOk l = true) (ht : textOk (bs t) = false) : takeStep ps (l, b) t = (l, b + 1) := by unfold takeStep; simp only; rw [put_bad h ht]; rfl
theorem take_unasked {ps : List Int} {l : List Pc} {b : Nat} {t : ByteArray} (hh : hasI ps (printOf (bs t)) = false) : takeStep ps (l, b) t = (l, b + 1) := by
  unfold takeStep
  simp only
  cases hp : (putS l t).2.2
  · rfl
  · rw [(put_print hp).2, hh]; rfl
theorem take_no {ps : List Int} {l : List Pc} {b : Nat} {t : ByteArray} (h : (putS l t).2.2 = false) : takeStep ps (l, b) t = (l, b + 1) := by unfold takeStep; simp only; rw [h]; rfl
theorem take_yes {ps : List Int} {l : List Pc} {b : Nat} {t : ByteArray} (h : (putS l t).2.2 = true) (hh : hasI ps (putS l t).2.1 = true) : takeStep ps (l, b) t = ((putS l t).1, b) := by unfold takeStep; simp only; rw [h, hh]; rfl
theorem take_out {ps : List Int} {l : List Pc} {b : Nat} {t : ByteArray} (hh : hasI ps (putS l t).2.1 = false) : takeStep ps (l, b) t = (l, b + 1) := by unfold takeStep; simp only; rw [hh, Bool.and_false]; rfl
theorem st_small {l : List Pc} (h : storeOk l = true) : (∀ x ∈ l, x.text.size ≤ 1048576) ∧ l.length ≤ 1048576 := ⟨fun x hx => by have := st_text h hx; omega, by have := (st_in h).1; omega⟩

set_option maxHeartbeats 2000000 in
set_option maxRecDepth 100000 in
theorem impl_TakeTexts_c (v u s : Value) (xs : List Pc) (ns : List Int) (ts : List ByteArray) (w : World) (h : Pcs w w.heap.size v xs) (h' : Ints w w.heap.size u ns) (h'' : Strs w w.heap.size s ts) (hl : ts.length ≤ 1048576) :
    Calls Try.prog 20 #[v, u, s] w fun e w' => ∃ v', e = .returned (.tuple #[v', .int .i64 (takeTexts xs ns ts).2]) ∧ OwnP w' w.heap.size v' (takeTexts xs ns ts).1 ∧ Below w.heap.size w w' := by
  obtain ⟨n, hn⟩ : ∃ n, xs.length = n := ⟨_, rfl⟩
  obtain ⟨a, c, rfl, _, _, _⟩ := h.pcs hn
  obtain ⟨j, hj⟩ : ∃ j, ns.length = j := ⟨_, rfl⟩
  obtain ⟨a', c', rfl, _, _, _⟩ := h'.ints hj
  obtain ⟨m, hm⟩ : ∃ m, ts.length = m := ⟨_, rfl⟩
  obtain ⟨a'', c'', rfl, h1, h2, h3⟩ := h''.strs hm
  rw [hm] at hl
  have HM := hid hm
  have HP : Hid (∀ wx, Below w.heap.size w wx → Pcs wx wx.heap.size (.slice a n c) xs) := fun wx hx' => h.on hx'
  have HS : Hid (∀ wx, Below w.heap.size w wx → Ints wx wx.heap.size (.slice a' j c') ns) := fun wx hx' => h'.on hx'
  clear hn hm hj h' h''
  cases hok : storeOk xs
  · have HO := hid (show takeTexts xs ns ts = ([], -1) by unfold takeTexts; rw [hok]; rfl)
    clear h3
    go_enter Try.func20, Try.ntmps20
    go_wp2_with fail
    refine (impl_StoreValid_c _ xs _ h).mono ?_
    rw [hok]
    rintro e w1 ⟨rfl, b1⟩
    go_wp2
    go_ret2
    exact ⟨_, by rw [HO.out]; rfl, by rw [HO.out]; exact Own.nil_, b1⟩
  · have HO := hid (show takeTexts xs ns ts = ((takeFrom xs ns ts).1, ((takeFrom xs ns ts).2 : Int)) by unfold takeTexts; rw [hok]; rfl)
    have HK := hid hok
    have HL := hid (show xs.length ≤ 1000000 by have := (st_in hok).1; omega)
    go_enter Try.func20, Try.ntmps20
    go_wp2_with fail
    refine (impl_StoreValid_c _ xs _ h).mono ?_
    rw [hok]
    rintro e w1 ⟨rfl, b1⟩
    clear hok h
    have hs1 := b1.size
    go_wp2_with fail
    refine (cloneP_c _ xs _ (HP.out _ b1) HL.out).mono ?_
    rintro e w2 ⟨v2, rfl, o2, b2⟩
    go_wp2
    go_loopw [8, 9, 22] (fun sv lf i wr => ∃ (k b : Nat) (cur : List Pc), k ≤ m ∧ i = .int .i64 k ∧ lf = .int .i64 b ∧ b ≤ k ∧ OwnP wr w1.heap.size sv cur ∧ Hid (storeOk cur = true ∧ (cur, b) = takeFrom xs ns (ts.take k)) ∧ Below w1.heap.size w1 wr) (fun _ _ i _ => m - (intOf i).toNat)
    case atStart => exact ⟨0, 0, xs, Nat.zero_le _, rfl, rfl, Nat.le_refl _, o2, hid ⟨HK.out, rfl⟩, b2⟩
    case round =>
      obtain ⟨k, b, cur, hk, rfl, rfl, hbk, hown, hacc, hb⟩ := hrel
      have c1 := bl_then b1 hb
      clear o2 b2
      by_cases hlt : k < m
      · obtain ⟨bb, o, t, rfl, hbl, hx, k0⟩ := h3 k hlt
        have j0 := (c1.cell (p := ⟨bb, o + k, none⟩) hbl).trans k0
        have HF := hid ((takeFrom_succ (l := xs) (ps := ns) hx.out).trans (by rw [← hacc.out.2]))
        clear k0 h3
        cases ht : textOk (bs t)
        · have HT := hid ht
          have HW := hid (HF.out.trans (take_bad hacc.out.1 ht))
          clear ht
          go_wp2_with fail
          refine (impl_TextValid_e _ _ HT.out).mono ?_
          rintro e w3 ⟨rfl, rfl⟩
          go_wp2
          go_roundw
          case rel => exact ⟨k + 1, b + 1, cur, by omega, by go_num, by go_num, by omega, hown, hid ⟨hacc.out.1, HW.out.symm⟩, hb⟩
          case measure => simp [intOf]; omega
        · have HT := hid ht
          clear ht
          obtain ⟨p, hp⟩ : ∃ p, printOf (bs t) = p := ⟨_, rfl⟩
          have HZ := hid hp
          clear hp
          obtain ⟨y, hy⟩ : ∃ y, hasI ns p = y := ⟨_, rfl⟩
          have HY := hid hy
          clear hy
          go_wp2_with fail
          refine (impl_TextValid_e _ _ HT.out).mono ?_
          rintro e w3 ⟨rfl, rfl⟩
          go_wp2_with fail
          refine (impl_PrintOf_e _ _ HZ.out).mono ?_
          rintro e w3 ⟨rfl, rfl⟩
          go_wp2_with fail
          refine (slices_Contains_c _ ns p _ _ (HS.out _ c1)).mono ?_
          rw [HY.out]
          rintro e w3 ⟨rfl, rfl⟩
          cases y
          · have HW := hid (HF.out.trans (take_unasked (by rw [HZ.out]; exact HY.out)))
            go_wp2
            go_roundw
            case rel => exact ⟨k + 1, b + 1, cur, by omega, by go_num, by go_num, by omega, hown, hid ⟨hacc.out.1, HW.out.symm⟩, hb⟩
            case measure => simp [intOf]; omega
          · obtain ⟨z, hz⟩ : ∃ z, (putS cur t).2.2 = z := ⟨_, rfl⟩
            have HZ2 := hid hz
            clear hz
            go_wp2_with fail
            refine (impl_PutText_c _ cur t _ (Rd.of_own hown)).mono ?_
            rw [HZ2.out]
            rintro e w4 ⟨v4, rfl, o4, b4⟩
            have s4 := hb.size
            have hown4 := hown.on b4
            have hb4 := bl_then hb b4
            cases z
            · have HW := hid (HF.out.trans (take_no HZ2.out))
              go_wp2
              go_roundw
              case rel => exact ⟨k + 1, b + 1, cur, by omega, by go_num, by go_num, by omega, hown4, hid ⟨hacc.out.1, HW.out.symm⟩, hb4⟩
              case measure => simp [intOf]; omega
            · have HW := hid (HF.out.trans (take_yes HZ2.out (by rw [(put_print HZ2.out).2, HZ.out]; exact HY.out)))
              go_wp2
              go_roundw
              case rel => exact ⟨k + 1, b, (putS cur t).1, by omega, by go_num, rfl, by omega, o4.less s4, hid ⟨put_ok hacc.out.1, HW.out.symm⟩, hb4⟩
              case measure => simp [intOf]; omega
      · have HA := hid (show (cur, b) = takeFrom xs ns ts by rw [hacc.out.2, take_all HM.out (show m ≤ k by omega)])
        have HB := hid (show takeTexts xs ns ts = (cur, (b : Int)) by rw [HO.out, ← HA.out])
        go_wp2
        go_ret2
        exact ⟨_, by rw [HB.out]; rfl, by rw [HB.out]; exact hown.less hs1, c1⟩

set_option maxHeartbeats 2000000 in
set_option maxRecDepth 100000 in
theorem spec_TakeTexts_c (v u s : Value) (xs : List Pc) (ns : List Int) (ts : List ByteArray) (w : World) (h : Pcs w w.heap.size v xs) (h' : Ints w w.heap.size u ns) (h'' : Strs w w.heap.size s ts) (hx0 : ∀ x ∈ xs, x.text.size ≤ 1048576) (hl0 : xs.length ≤ 1048576) (hl : ts.length ≤ 1048576) (ht0 : ∀ t ∈ ts, t.size ≤ 1048576) :
    Calls Try.prog 21 #[v, u, s] w fun e w' => ∃ v', e = .returned (.tuple #[v', .int .i64 (takeTexts xs ns ts).2]) ∧ OwnP w' w.heap.size v' (takeTexts xs ns ts).1 ∧ Below w.heap.size w w' := by
  obtain ⟨n, hn⟩ : ∃ n, xs.length = n := ⟨_, rfl⟩
  obtain ⟨a, c, rfl, _, _, _⟩ := h.pcs hn
  obtain ⟨j, hj⟩ : ∃ j, ns.length = j := ⟨_, rfl⟩
  obtain ⟨a', c', rfl, _, _, _⟩ := h'.ints hj
  obtain ⟨m, hm⟩ : ∃ m, ts.length = m := ⟨_, rfl⟩
  obtain ⟨a'', c'', rfl, h1, h2, h3⟩ := h''.strs hm
  rw [hm] at hl
  have HM := hid hm
  have HT0 := hid ht0
  have HP : Hid (∀ wx, Below w.heap.size w wx → Pcs wx wx.heap.size (.slice a n c) xs) := fun wx hx' => h.on hx'
  have HS : Hid (∀ wx, Below w.heap.size w wx → Ints wx wx.heap.size (.slice a' j c') ns) := fun wx hx' => h'.on hx'
  clear hn hm hj h' h'' ht0
  obtain ⟨i0, hi0, hz0, hz1, hz2⟩ := info_parts info_pcO
  cases hok : storeOk xs
  · have HO := hid (show takeTexts xs ns ts = ([], -1) by unfold takeTexts; rw [hok]; rfl)
    clear h3
    go_enter Try.func21, Try.ntmps21
    go_wp2_with fail
    refine (spec_StoreValid_c _ xs _ _ h hx0 hl0).mono ?_
    rw [hok]
    rintro e w1 ⟨rfl, z, rfl⟩
    go_wp2
    go_ret2
    exact ⟨_, by rw [HO.out]; rfl, by rw [HO.out]; exact Own.made _ (Nat.le_refl _), (bl_drewN (Below.refl _ _) z).alloc (Nat.le_refl _) _⟩
  · have HO := hid (show takeTexts xs ns ts = ((takeFrom xs ns ts).1, ((takeFrom xs ns ts).2 : Int)) by unfold takeTexts; rw [hok]; rfl)
    have HK := hid hok
    have HL := hid (show xs.length ≤ 1000000 by have := (st_in hok).1; omega)
    go_enter Try.func21, Try.ntmps21
    go_wp2_with fail
    refine (spec_StoreValid_c _ xs _ _ h hx0 hl0).mono ?_
    rw [hok]
    rintro e w1 ⟨rfl, z, rfl⟩
    obtain ⟨W0, hW0⟩ : ∃ W0, W0 = w.drewN z := ⟨_, rfl⟩
    have b1 : Below w.heap.size w W0 := by rw [hW0]; exact bl_drewN (Below.refl _ _) z
    rw [← hW0]
    have hs1 := b1.size
    have hal : Below W0.heap.size W0 (W0.alloc (.cells #[] 45)) := (Below.refl _ _).alloc (Nat.le_refl _) _
    clear hok h hx0 hl0 hW0
    go_wp2_with (at_builtin; refine wpList_cat (enc := encP) (w0 := W0.alloc (.cells #[] 45)) rfl _ _ 23 rfl W0.heap.size W0.heap.size 45 i0 _ 2 24 Try.underlying23 hi0 hz0 hz1 hz2 rfl (by decide) _ _ [] xs (Own.made W0 (Nat.le_refl _)) _ ((HP.out _ b1).below hal (Nat.le_refl _)) (Below.refl _ _) (by simp) (Nat.le_refl _) rfl rfl encP_one (by have := HL.out; simp; omega) (by decide) ?_; intro v2 w2 o2 b2 hB2 _)
    have b2' := hal.trans b2
    rw [List.nil_append] at o2
    clear b2 hal
    go_loopw [0, 8, 9] (fun sv lf i wr => ∃ (k b : Nat) (cur : List Pc), k ≤ m ∧ i = .int .i64 k ∧ lf = .int .i64 b ∧ b ≤ k ∧ OwnP wr W0.heap.size sv cur ∧ Hid (storeOk cur = true ∧ (cur, b) = takeFrom xs ns (ts.take k)) ∧ Below W0.heap.size W0 wr) (fun _ _ i _ => m - (intOf i).toNat)
    case atStart => exact ⟨0, 0, xs, Nat.zero_le _, rfl, rfl, Nat.le_refl _, o2, hid ⟨HK.out, rfl⟩, b2'⟩
    case round =>
      obtain ⟨k, b, cur, hk, rfl, rfl, hbk, hown, hacc, hb⟩ := hrel
      have c1 := bl_then b1 hb
      clear o2 b2'
      by_cases hlt : k < m
      · obtain ⟨bb, o, t, rfl, hbl, hx, k0⟩ := h3 k hlt
        have j0 := (c1.cell (p := ⟨bb, o + k, none⟩) hbl).trans k0
        have HF := hid ((takeFrom_succ (l := xs) (ps := ns) hx.out).trans (by rw [← hacc.out.2]))
        have HTT := hid (show t.size ≤ 4611686018427387904 by have := HT0.out t (List.mem_of_getElem? hx.out); omega)
        clear k0 h3
        obtain ⟨z, hz⟩ : ∃ z, (putS cur t).2.2 = z := ⟨_, rfl⟩
        have HZ2 := hid hz
        clear hz
        obtain ⟨p, hp⟩ : ∃ p, (putS cur t).2.1 = p := ⟨_, rfl⟩
        have HZ := hid hp
        clear hp
        obtain ⟨y, hy⟩ : ∃ y, hasI ns p = y := ⟨_, rfl⟩
        have HY := hid hy
        clear hy
        have s4 := hb.size
        go_wp2_with fail
        refine (spec_PutText_c _ cur t _ (Rd.of_own hown) (st_small hacc.out.1).1 (st_small hacc.out.1).2 HTT.out).mono ?_
        rw [HZ2.out, HZ.out]
        rintro e w4 ⟨v4, rfl, o4, b4⟩
        have hown4 := hown.on b4
        have hb4 := bl_then hb b4
        have c4 := bl_then b1 hb4
        cases z
        · have HW := hid (HF.out.trans (take_no HZ2.out))
          go_wp2
          go_roundw
          case rel => exact ⟨k + 1, b + 1, cur, by omega, by go_num, by go_num, by omega, hown4, hid ⟨hacc.out.1, HW.out.symm⟩, hb4⟩
          case measure => simp [intOf]; omega
        · go_wp2_with fail
          refine (spec_l19Has_c _ ns p _ _ (HS.out _ c4)).mono ?_
          rw [HY.out]
          rintro e w5 ⟨rfl, rfl⟩
          cases y
          · have HW := hid (HF.out.trans (take_out (by rw [HZ.out]; exact HY.out)))
            go_wp2
            go_roundw
            case rel => exact ⟨k + 1, b + 1, cur, by omega, by go_num, by go_num, by omega, hown4, hid ⟨hacc.out.1, HW.out.symm⟩, hb4⟩
            case measure => simp [intOf]; omega
          · have HW := hid (HF.out.trans (take_yes HZ2.out (by rw [HZ.out]; exact HY.out)))
            go_wp2
            go_roundw
            case rel => exact ⟨k + 1, b, (putS cur t).1, by omega, by go_num, rfl, by omega, o4.less s4, hid ⟨put_ok hacc.out.1, HW.out.symm⟩, hb4⟩
            case measure => simp [intOf]; omega
      · have HA := hid (show (cur, b) = takeFrom xs ns ts by rw [hacc.out.2, take_all HM.out (show m ≤ k by omega)])
        have HB := hid (show takeTexts xs ns ts = (cur, (b : Int)) by rw [HO.out, ← HA.out])
        go_wp2
        go_ret2
        exact ⟨_, by rw [HB.out]; rfl, by rw [HB.out]; exact hown.less hs1, c1⟩

end Go.Proofs.Ytfdhaigmekmboaa
