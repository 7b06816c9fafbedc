/- Walks: stores that are synced. -/
import Derived.Test.YtkfkcbceoekgjaaDoorReach2
import Derived.Test.YtkfkcbceoekgjaaDoorReachS
import Derived.Test.YtkfkcbceoekgjaaDoorTake
namespace Go.Proofs.YtkfkcbceoekgjaaDoor
open Go.RowKit

theorem Own.oneI (w : World) (x : Int) : OwnI (w.alloc (.cells #[.int .i64 x] 3)) w.heap.size (.slice (some ⟨w.heap.size, 0, none⟩) 1 1) [x] :=
  ⟨rfl, .inr ⟨w.heap.size, 1, #[.int .i64 x], rfl, Nat.le_refl _, heap_alloc_new _ _, Nat.le_refl 1, by decide, rfl, rfl⟩⟩
theorem sendFrom_small {l : List Pc} (hs : storeOk l = true) : ∀ (ns : List Int) (out : List ByteArray), (∀ t ∈ out, t.size ≤ 60) → ∀ t ∈ ns.foldl (sendStep l) out, t.size ≤ 60
  | [], out, h => h
  | n :: r, out, h => by
    rw [List.foldl_cons]
    refine sendFrom_small hs r _ ?_
    unfold sendStep
    split
    · rename_i t ht
      intro x hx
      rcases List.mem_append.1 hx with h1 | h1
      · exact h x h1
      · obtain rfl : x = t := by simpa using h1
        exact (getP_text hs ht).2.2
    · exact h
theorem sendTexts_small {l : List Pc} {ns : List Int} : ∀ t ∈ sendTexts l ns, t.size ≤ 60 := by
  unfold sendTexts
  split
  · rename_i hs
    exact sendFrom_small hs ns [] (by simp)
  · simp
theorem sendTexts_len {l : List Pc} {ns : List Int} : (sendTexts l ns).length ≤ ns.length := by
  unfold sendTexts
  split
  · have := sendFrom_len l ns []
    simpa [sendFrom] using this
  · simp
theorem wantedOf_len {l : List Pc} {ns : List Int} : (wantedOf l ns).length ≤ ns.length := by
  unfold wantedOf
  split
  · have := wantFrom_len l ns []
    simpa [wantFrom] using this
  · simp
noncomputable def syncOf (xs ys : List Pc) (root : Int) : List Pc × Int :=
  if storeOk xs = true ∧ storeOk ys = true then ((takeTexts xs (wantedOf xs (reachOf ys [root])) (sendTexts ys (wantedOf xs (reachOf ys [root])))).1, ((sendTexts ys (wantedOf xs (reachOf ys [root]))).length : Int)) else ([], -1)
theorem syncOf_off {xs ys : List Pc} {root : Int} (h : ¬ (storeOk xs = true ∧ storeOk ys = true)) : syncOf xs ys root = ([], -1) := by unfold syncOf; rw [if_neg h]

set_option maxHeartbeats 2000000 in
set_option maxRecDepth 100000 in
theorem impl_ReachOf_c (v u : Value) (xs : List Pc) (rts : List Int) (w : World) (h : Pcs w w.heap.size v xs) (h' : Ints w w.heap.size u rts) (hl : rts.length ≤ 1048576) (hg : Glob w) :
    Calls Tryd.prog 40 #[v, u] w fun e w' => ∃ v', e = .returned v' ∧ OwnI w' w.heap.size v' (reachOf xs rts) ∧ Below w.heap.size w w' := by
  obtain ⟨n, hn⟩ : ∃ n, xs.length = n := ⟨_, rfl⟩
  obtain ⟨a, c, rfl, _, _, h3⟩ := h.pcs hn
  have H3 := hid h3
  have HN := hid hn
  have HP : Hid (∀ wx, Below w.heap.size w wx → Pcs wx wx.heap.size (.slice a n c) xs) := fun wx hx' => h.on hx'
  have HI : Hid (∀ wx, Below w.heap.size w wx → Ints wx wx.heap.size u rts) := fun wx hx' => h'.on hx'
  have HL := hid hl
  have HG := hid hg
  clear hn h3 hl hg h'
  cases hok : storeOk xs
  · have HO := hid (reachOf_off (roots := rts) hok)
    go_enter Tryd.func40, Tryd.ntmps40
    go_wp2_with fail
    refine (impl_StoreValid_c _ xs _ h).mono ?_
    rw [hok]
    rintro e w1 ⟨rfl, b1⟩
    go_wp2
    go_ret
    exact ⟨_, rfl, by rw [HO.out]; exact Own.nil_, b1⟩
  · have HO := hid (reachOf_on (roots := rts) hok)
    have HK := hid hok
    have hn40 : n ≤ 40 := by have := (st_in hok).1; have := HN.out; omega
    go_enter Tryd.func40, Tryd.ntmps40
    go_wp2_with fail
    refine (impl_StoreValid_c _ xs _ h).mono ?_
    rw [hok]
    rintro e w0 ⟨rfl, b0⟩
    clear hok h
    go_wp2_with fail
    refine (impl_reachedPieces_c _ _ xs rts _ (HP.out _ b0) (HI.out _ b0) HK.out HL.out (HG.out.on b0)).mono ?_
    rintro e w1 ⟨rv, rfl, o1, b1'⟩
    have b1 := bl_then b0 b1'
    have hs1 := b1.size
    obtain ⟨a', c', rfl, _, _, h4⟩ := Rd.openN (Rd.of_own o1) (fun _ => rfl) (show (reachB xs rts).length = n by rw [reachB_len]; exact HN.out)
    have H4 := hid h4
    clear o1 b1' b0 h4
    go_wp2
    go_loopw [6, 17] (fun out iv wr => ∃ (k : Nat) (acc : List Int), k ≤ n ∧ iv = .int .i64 k ∧ OwnI wr w1.heap.size out acc ∧ Hid (acc = ((xs.take k).filter fun p => inR xs rts p.print).map (·.print)) ∧ acc.length ≤ k ∧ Below w1.heap.size w1 wr) (fun _ iv _ => n - (intOf iv).toNat)
    case atStart => exact ⟨0, [], Nat.zero_le _, rfl, Own.nil_, rfl, Nat.zero_le _, Below.refl _ _⟩
    case round =>
      obtain ⟨k, acc, hk, rfl, hown, hacc, hlen, hb⟩ := hrel
      have c1 := bl_then b1 hb
      by_cases hkn : k < n
      · obtain ⟨b, o, pr, t, rfl, hbl, hx, k0, k1⟩ := H3.out k hkn
        have j0 := (c1.cell (p := ⟨b, o + k * 2, none⟩) hbl).trans k0
        have j1 := (c1.cell (p := ⟨b, o + k * 2 + 1, none⟩) hbl).trans k1
        obtain ⟨b', o', z, rfl, hbl', hz, hc'⟩ := H4.out k hkn
        have k2 : w1.cell? ⟨b', o' + k, none⟩ = some (.bool z) := by simpa using hc' 0 _ rfl
        have hzv : z = inR xs rts pr := by
          have := hz.out
          unfold reachB at this
          rw [List.getElem?_map, hx.out] at this
          simpa using this.symm
        have hal : Below w1.heap.size w1 (wr.alloc (.cells #[.int .i64 pr, .string t] 43)) := hb.alloc hb.size _
        have j2 : (wr.alloc (.cells #[.int .i64 pr, .string t] 43)).cell? ⟨b', o' + k, none⟩ = some (.bool z) := (hal.cell (p := ⟨b', o' + k, none⟩) hbl').trans k2
        have hown2 := hown.alloc (.cells #[.int .i64 pr, .string t] 43)
        have hB2 := hal.size
        have HF := hid (reach_succ (f := fun p => inR xs rts p.print) hx.out)
        have HZ := hid hzv
        clear k0 k1 k2 hc' hzv hb hown
        cases z
        · have HS := hid (show ((xs.take (k + 1)).filter fun p => inR xs rts p.print).map (·.print) = acc by rw [HF.out, ← hacc.out]; simp only [← HZ.out]; simp)
          go_wp2
          go_roundw
          case rel => exact ⟨k + 1, acc, by omega, by go_num, hown2, hid HS.out.symm, by omega, hal⟩
          case measure => simp [intOf]; omega
        · have HS := hid (show ((xs.take (k + 1)).filter fun p => inR xs rts p.print).map (·.print) = acc ++ [pr] by rw [HF.out, ← hacc.out]; simp only [← HZ.out]; simp)
          go_wp2_with (at_builtin; refine push_int (w0 := w1) rfl _ _ rfl _ _ _ _ _ hown2 hal hB2 (Nat.le_refl _) rfl (by simp [Act.eval]) (by omega) ?_; intro v' w' hown' hb' hB' _)
          go_roundw
          case rel => exact ⟨k + 1, _, by omega, by go_num, hown', hid HS.out.symm, by simp; omega, hb'⟩
          case measure => simp [intOf]; omega
      · have HA := hid (show acc = reachOf xs rts by rw [HO.out, hacc.out, take_all HN.out (show n ≤ k by omega)])
        go_wp2
        go_ret
        exact ⟨_, rfl, by rw [← HA.out]; exact hown.less hs1, c1⟩

theorem impl_ReachOf_e (v u : Value) (xs : List Pc) (rts R : List Int) (hR : reachOf xs rts = R) (w : World) (h : Pcs w w.heap.size v xs) (h' : Ints w w.heap.size u rts) (hl : rts.length ≤ 1048576) (hg : Glob w) :
    Calls Tryd.prog 40 #[v, u] w fun e w' => ∃ v', e = .returned v' ∧ OwnI w' w.heap.size v' R ∧ Below w.heap.size w w' := hR ▸ impl_ReachOf_c v u xs rts w h h' hl hg

theorem spec_ReachOf_e (v u : Value) (xs : List Pc) (rts R : List Int) (hR : reachOf xs rts = R) (w : World) (h : Pcs w w.heap.size v xs) (h' : Ints w w.heap.size u rts) (hx0 : ∀ x ∈ xs, x.text.size ≤ 1048576) (hl0 : xs.length ≤ 1048576) :
    Calls Tryd.prog 36 #[v, u] w fun e w' => ∃ v', e = .returned v' ∧ OwnI w' w.heap.size v' R ∧ Below w.heap.size w w' := hR ▸ spec_ReachOf_c v u xs rts w h h' hx0 hl0

set_option maxHeartbeats 2000000 in
set_option maxRecDepth 100000 in
theorem impl_SyncRoot_c (v u : Value) (xs ys : List Pc) (root : Int) (R : List Pc) (Z : Int) (hR : syncOf xs ys root = (R, Z)) (w : World) (h : Pcs w w.heap.size v xs) (h' : Pcs w w.heap.size u ys) (hg : Glob w) :
    Calls Tryd.prog 21 #[v, u, .int .i64 root] w fun e w' => ∃ v', e = .returned (.tuple #[v', .int .i64 Z]) ∧ OwnP w' w.heap.size v' R ∧ Below w.heap.size w w' := by
  have HP : Hid (∀ wx, Below w.heap.size w wx → Pcs wx wx.heap.size v xs) := fun wx hx' => h.on hx'
  have HP' : Hid (∀ wx, Below w.heap.size w wx → Pcs wx wx.heap.size u ys) := fun wx hx' => h'.on hx'
  have HG := hid hg
  clear h h' hg
  cases hok : storeOk xs
  · rw [syncOf_off (by rw [hok]; simp)] at hR
    obtain ⟨rfl, rfl⟩ := Prod.mk.injEq _ _ _ _ ▸ hR
    have HK := hid hok
    clear hok hR
    go_enter Tryd.func21, Tryd.ntmps21
    go_wp2_with fail
    refine (impl_StoreValid_c _ xs _ (HP.out _ (Below.refl _ _))).mono ?_
    rw [HK.out]
    rintro e w1 ⟨rfl, b1⟩
    go_wp2
    go_ret2
    exact ⟨_, rfl, Own.nil_, b1⟩
  · cases hok' : storeOk ys
    · rw [syncOf_off (by rw [hok']; simp)] at hR
      obtain ⟨rfl, rfl⟩ := Prod.mk.injEq _ _ _ _ ▸ hR
      have HK := hid hok
      have HK' := hid hok'
      clear hok hok' hR
      go_enter Tryd.func21, Tryd.ntmps21
      go_wp2_with fail
      refine (impl_StoreValid_c _ xs _ (HP.out _ (Below.refl _ _))).mono ?_
      rw [HK.out]
      rintro e w1 ⟨rfl, b1⟩
      go_wp2_with fail
      refine (impl_StoreValid_c _ ys _ (HP'.out _ b1)).mono ?_
      rw [HK'.out]
      rintro e w2 ⟨rfl, b2'⟩
      have b2 := bl_then b1 b2'
      clear b2'
      go_wp2
      go_ret2
      exact ⟨_, rfl, Own.nil_, b2⟩
    · obtain ⟨R1, hR1⟩ : ∃ R1, reachOf ys [root] = R1 := ⟨_, rfl⟩
      obtain ⟨R2, hR2⟩ : ∃ R2, wantedOf xs R1 = R2 := ⟨_, rfl⟩
      obtain ⟨R3, hR3⟩ : ∃ R3, sendTexts ys R2 = R3 := ⟨_, rfl⟩
      obtain ⟨m, hm⟩ : ∃ m, R3.length = m := ⟨_, rfl⟩
      have l1 : R1.length ≤ 40 := by rw [← hR1]; exact reachOf_len
      have l2 : R2.length ≤ 40 := by have := wantedOf_len (l := xs) (ns := R1); rw [hR2] at this; omega
      have l3 : R3.length ≤ 40 := by have := sendTexts_len (l := ys) (ns := R2); rw [hR3] at this; omega
      have hE : R = (takeTexts xs R2 R3).1 ∧ Z = (m : Int) := by
        have := hR
        unfold syncOf at this
        rw [if_pos ⟨hok, hok'⟩, hR1, hR2, hR3, hm] at this
        simp only [Prod.mk.injEq] at this
        exact ⟨this.1.symm, this.2.symm⟩
      obtain ⟨hE1, rfl⟩ := hE
      have HE := hid hE1
      have HK := hid hok
      have HK' := hid hok'
      have HR1 := hid hR1
      have HR2 := hid hR2
      have HR3 := hid hR3
      have HM := hid hm
      have L1 := hid l1
      have L2 := hid l2
      have L3 := hid l3
      clear hok hok' hR hE1 hR1 hR2 hR3 hm l1 l2 l3
      go_enter Tryd.func21, Tryd.ntmps21
      go_wp2_with fail
      refine (impl_StoreValid_c _ xs _ (HP.out _ (Below.refl _ _))).mono ?_
      rw [HK.out]
      rintro e w1 ⟨rfl, b1⟩
      go_wp2_with fail
      refine (impl_StoreValid_c _ ys _ (HP'.out _ b1)).mono ?_
      rw [HK'.out]
      rintro e w2 ⟨rfl, b2'⟩
      have b2 := bl_then b1 b2'
      obtain ⟨W3, hW3⟩ : ∃ W3, W3 = w2.alloc (.cells #[.int .i64 root] 3) := ⟨_, rfl⟩
      have o3 : OwnI W3 w2.heap.size (.slice (some ⟨w2.heap.size, 0, none⟩) 1 1) [root] := by rw [hW3]; exact Own.oneI _ _
      have b3 : Below w.heap.size w W3 := by rw [hW3]; exact b2.alloc b2.size _
      clear b2' b1
      go_wp2_with fail
      rw [← hW3]
      refine (impl_ReachOf_e _ _ ys [root] R1 HR1.out _ (HP'.out _ b3) (Rd.of_own o3) (by simp) (HG.out.on b3)).mono ?_
      rintro e w4 ⟨v1, rfl, o4, b4'⟩
      have b4 := bl_then b3 b4'
      clear hW3 b4' o3 b3 b2
      go_wp2_with fail
      refine (impl_WantedOf_c _ _ xs R1 _ (HP.out _ b4) (Rd.of_own o4) (by have := L1.out; omega)).mono ?_
      rw [HR2.out]
      rintro e w5 ⟨v2, rfl, o5, b5'⟩
      have b5 := bl_then b4 b5'
      clear b5' o4 b4
      go_wp2_with fail
      refine (impl_SendTexts_c _ _ ys R2 _ (HP'.out _ b5) (Rd.of_own o5) (by have := L2.out; omega)).mono ?_
      rw [HR3.out]
      rintro e w6 ⟨v3, rfl, o6, b6'⟩
      have b6 := bl_then b5 b6'
      have o5' := o5.on b6'
      obtain ⟨a3, c3, rfl, _, _, _⟩ := (Rd.of_own o6).strs HM.out
      clear b6' o5 b5
      go_wp2_with fail
      refine (impl_TakeTexts_c _ _ _ xs R2 R3 _ (HP.out _ b6) (Rd.of_own o5') (Rd.of_own o6) (by have := L3.out; omega)).mono ?_
      rw [← HE.out]
      rintro e w7 ⟨v4, rfl, o7, b7'⟩
      have b7 := bl_then b6 b7'
      have o7' := o7.less b6.size
      clear b7' o7 b6 o6 o5'
      go_wp2
      go_ret2
      exact ⟨_, rfl, o7', b7⟩

set_option maxHeartbeats 2000000 in
set_option maxRecDepth 100000 in
theorem spec_SyncRoot_c (v u : Value) (xs ys : List Pc) (root : Int) (R : List Pc) (Z : Int) (hR : syncOf xs ys root = (R, Z)) (w : World) (h : Pcs w w.heap.size v xs) (h' : Pcs w w.heap.size u ys) (hx0 : ∀ x ∈ xs, x.text.size ≤ 1048576) (hl0 : xs.length ≤ 1048576) (hy0 : ∀ x ∈ ys, x.text.size ≤ 1048576) (hl1 : ys.length ≤ 1048576) :
    Calls Tryd.prog 20 #[v, u, .int .i64 root] w fun e w' => ∃ v', e = .returned (.tuple #[v', .int .i64 Z]) ∧ OwnP w' w.heap.size v' R ∧ Below w.heap.size w w' := by
  have HP : Hid (∀ wx, Below w.heap.size w wx → Pcs wx wx.heap.size v xs) := fun wx hx' => h.on hx'
  have HP' : Hid (∀ wx, Below w.heap.size w wx → Pcs wx wx.heap.size u ys) := fun wx hx' => h'.on hx'
  have HX := hid hx0
  have HL := hid hl0
  have HY := hid hy0
  have HL1 := hid hl1
  clear h h' hx0 hl0 hy0 hl1
  have hal : ∀ wx, Below w.heap.size w wx → Hid (OwnP (wx.alloc (.cells #[] 43)) w.heap.size (.slice (some ⟨wx.heap.size, 0, none⟩) 0 0) []) := fun wx hb => hid (Own.made _ hb.size)
  cases hok : storeOk xs
  · rw [syncOf_off (by rw [hok]; simp)] at hR
    obtain ⟨rfl, rfl⟩ := Prod.mk.injEq _ _ _ _ ▸ hR
    have HK := hid hok
    have HAL := hid hal
    clear hok hR hal
    go_enter Tryd.func20, Tryd.ntmps20
    go_wp2_with fail
    refine (spec_StoreValid_c _ xs _ _ (HP.out _ (Below.refl _ _)) HX.out HL.out).mono ?_
    rw [HK.out]
    rintro e w' ⟨rfl, q, rfl⟩
    have b1 : Below w.heap.size w (w.drewN q) := bl_drewN (Below.refl _ _) q
    have o1 := HAL.out _ b1
    have b2 := hid (b1.alloc b1.size (.cells #[] 43))
    go_wp2
    go_ret2
    exact ⟨_, rfl, o1.out, b2.out⟩
  · cases hok' : storeOk ys
    · rw [syncOf_off (by rw [hok']; simp)] at hR
      obtain ⟨rfl, rfl⟩ := Prod.mk.injEq _ _ _ _ ▸ hR
      have HK := hid hok
      have HK' := hid hok'
      have HAL := hid hal
      clear hok hok' hR hal
      go_enter Tryd.func20, Tryd.ntmps20
      go_wp2_with fail
      refine (spec_StoreValid_c _ xs _ _ (HP.out _ (Below.refl _ _)) HX.out HL.out).mono ?_
      rw [HK.out]
      rintro e w' ⟨rfl, q, rfl⟩
      have b1 : Below w.heap.size w (w.drewN q) := bl_drewN (Below.refl _ _) q
      go_wp2_with fail
      refine (spec_StoreValid_c _ ys _ _ (HP'.out _ b1) HY.out HL1.out).mono ?_
      rw [HK'.out]
      rintro e w' ⟨rfl, q2, rfl⟩
      have b2 : Below w.heap.size w (w.drewN (q + q2)) := bl_drewN (Below.refl _ _) _
      have o1 := HAL.out _ b2
      have b3 := hid (b2.alloc b2.size (.cells #[] 43))
      go_wp2
      go_ret2
      exact ⟨_, rfl, o1.out, b3.out⟩
    · obtain ⟨R1, hR1⟩ : ∃ R1, reachOf ys [root] = R1 := ⟨_, rfl⟩
      obtain ⟨R2, hR2⟩ : ∃ R2, wantedOf xs R1 = R2 := ⟨_, rfl⟩
      obtain ⟨R3, hR3⟩ : ∃ R3, sendTexts ys R2 = R3 := ⟨_, rfl⟩
      obtain ⟨m, hm⟩ : ∃ m, R3.length = m := ⟨_, rfl⟩
      have l1 : R1.length ≤ 40 := by rw [← hR1]; exact reachOf_len
      have l2 : R2.length ≤ 40 := by have := wantedOf_len (l := xs) (ns := R1); rw [hR2] at this; omega
      have l3 : R3.length ≤ 40 := by have := sendTexts_len (l := ys) (ns := R2); rw [hR3] at this; omega
      have hT : ∀ t ∈ R3, t.size ≤ 1048576 := fun t ht => by rw [← hR3] at ht; have := sendTexts_small t ht; omega
      have hE : R = (takeTexts xs R2 R3).1 ∧ Z = (m : Int) := by
        have := hR
        unfold syncOf at this
        rw [if_pos ⟨hok, hok'⟩, hR1, hR2, hR3, hm] at this
        simp only [Prod.mk.injEq] at this
        exact ⟨this.1.symm, this.2.symm⟩
      obtain ⟨hE1, rfl⟩ := hE
      have HE := hid hE1
      have HK := hid hok
      have HK' := hid hok'
      have HR1 := hid hR1
      have HR2 := hid hR2
      have HR3 := hid hR3
      have HM := hid hm
      have L1 := hid l1
      have L2 := hid l2
      have L3 := hid l3
      have HT := hid hT
      clear hok hok' hR hE1 hR1 hR2 hR3 hm l1 l2 l3 hT hal
      go_enter Tryd.func20, Tryd.ntmps20
      go_wp2_with fail
      refine (spec_StoreValid_c _ xs _ _ (HP.out _ (Below.refl _ _)) HX.out HL.out).mono ?_
      rw [HK.out]
      rintro e w' ⟨rfl, q, rfl⟩
      have b1 : Below w.heap.size w (w.drewN q) := bl_drewN (Below.refl _ _) q
      go_wp2_with fail
      refine (spec_StoreValid_c _ ys _ _ (HP'.out _ b1) HY.out HL1.out).mono ?_
      rw [HK'.out]
      rintro e w' ⟨rfl, q2, rfl⟩
      obtain ⟨w2, hw2⟩ : ∃ w2, w2 = (w.drewN q).drewN q2 := ⟨_, rfl⟩
      have b2 : Below w.heap.size w w2 := by rw [hw2]; exact bl_drewN b1 q2
      rw [← hw2]
      obtain ⟨W3, hW3⟩ : ∃ W3, W3 = w2.alloc (.cells #[.int .i64 root] 3) := ⟨_, rfl⟩
      have o3 : OwnI W3 w2.heap.size (.slice (some ⟨w2.heap.size, 0, none⟩) 1 1) [root] := by rw [hW3]; exact Own.oneI _ _
      have b3 : Below w.heap.size w W3 := by rw [hW3]; exact b2.alloc b2.size _
      clear b1 hw2
      go_wp2_with fail
      rw [← hW3]
      refine (spec_ReachOf_e _ _ ys [root] R1 HR1.out _ (HP'.out _ b3) (Rd.of_own o3) HY.out HL1.out).mono ?_
      rintro e w4 ⟨v1, rfl, o4, b4'⟩
      have b4 := bl_then b3 b4'
      clear hW3 b4' o3 b3 b2
      go_wp2_with fail
      refine (spec_WantedOf_c _ _ xs R1 _ (HP.out _ b4) (Rd.of_own o4) HX.out HL.out (by have := L1.out; omega)).mono ?_
      rw [HR2.out]
      rintro e w5 ⟨v2, rfl, o5, b5'⟩
      have b5 := bl_then b4 b5'
      clear b5' o4 b4
      go_wp2_with fail
      refine (spec_SendTexts_c _ _ ys R2 _ (HP'.out _ b5) (Rd.of_own o5) HY.out HL1.out (by have := L2.out; omega)).mono ?_
      rw [HR3.out]
      rintro e w6 ⟨v3, rfl, o6, b6'⟩
      have b6 := bl_then b5 b6'
      have o5' := o5.on b6'
      obtain ⟨a3, c3, rfl, _, _, _⟩ := (Rd.of_own o6).strs HM.out
      clear b6' o5 b5
      go_wp2_with fail
      refine (spec_TakeTexts_c _ _ _ xs R2 R3 _ (HP.out _ b6) (Rd.of_own o5') (Rd.of_own o6) HX.out HL.out (by have := L3.out; omega) HT.out).mono ?_
      rw [← HE.out]
      rintro e w7 ⟨v4, rfl, o7, b7'⟩
      have b7 := bl_then b6 b7'
      have o7' := o7.less b6.size
      clear b7' o7 b6 o6 o5'
      go_wp2
      go_ret2
      exact ⟨_, rfl, o7', b7⟩

end Go.Proofs.YtkfkcbceoekgjaaDoor
