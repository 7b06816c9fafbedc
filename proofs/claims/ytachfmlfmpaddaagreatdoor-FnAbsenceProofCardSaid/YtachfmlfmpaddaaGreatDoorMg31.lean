/- Walks and plain facts, joined: Sync', Sweep', WriteW', FilesP', WalkI', OnW', FilesQ', WalkS'. -/
import Derived.Test.YtachfmlfmpaddaaGreatDoorMg2
import Derived.Test.YtachfmlfmpaddaaGreatDoorMg3
import Derived.Test.YtachfmlfmpaddaaGreatDoorMg4
import Derived.Test.YtachfmlfmpaddaaGreatDoorMg5
import Derived.Test.YtachfmlfmpaddaaGreatDoorMg7
import Derived.Test.YtachfmlfmpaddaaGreatDoorMg8
import Derived.Test.YtachfmlfmpaddaaGreatDoorMg9
import Derived.Test.YtachfmlfmpaddaaGreatDoorMg10
import Derived.Test.YtachfmlfmpaddaaGreatDoorMg11
import Derived.Test.YtachfmlfmpaddaaGreatDoorMg12
import Derived.Test.YtachfmlfmpaddaaGreatDoorMg13
import Derived.Test.YtachfmlfmpaddaaGreatDoorMg14
import Derived.Test.YtachfmlfmpaddaaGreatDoorMg15
import Derived.Test.YtachfmlfmpaddaaGreatDoorMg16
import Derived.Test.YtachfmlfmpaddaaGreatDoorMg17
import Derived.Test.YtachfmlfmpaddaaGreatDoorMg18
import Derived.Test.YtachfmlfmpaddaaGreatDoorMg20
import Derived.Test.YtachfmlfmpaddaaGreatDoorMg22
import Derived.Test.YtachfmlfmpaddaaGreatDoorMg23
import Derived.Test.YtachfmlfmpaddaaGreatDoorMg24
import Derived.Test.YtachfmlfmpaddaaGreatDoorMg25
import Derived.Test.YtachfmlfmpaddaaGreatDoorMg26
import Derived.Test.YtachfmlfmpaddaaGreatDoorMg27
import Derived.Test.YtachfmlfmpaddaaGreatDoorMg28
import Derived.Test.YtachfmlfmpaddaaGreatDoorMg29
import Derived.Test.YtachfmlfmpaddaaGreatDoorMg30
set_option linter.unusedVariables false
set_option linter.unusedSimpArgs false

/- Walks: stores that are synced. -/
namespace Go.Proofs.YtachfmlfmpaddaaGreatDoor
open Go.RowKit

theorem Own.oneI (w : World) (x : Int) : OwnI (w.alloc (.cells #[.int .i64 x] 3)) w.heap.size (.slice (some ⟨w.heap.size, 0, none⟩) 1 1) [x] :=
  ⟨rfl, .inr ⟨w.heap.size, 1, #[.int .i64 x], rfl, Nat.le_refl _, heap_alloc_new _ _, Nat.le_refl 1, by decide, rfl, rfl⟩⟩
theorem sendFrom_small {l : List Pc} (hs : storeOk l = true) : ∀ (ns : List Int) (out : List ByteArray), (∀ t ∈ out, t.size ≤ 60) → ∀ t ∈ ns.foldl (sendStep l) out, t.size ≤ 60
  | [], out, h => h
  | n :: r, out, h => by
    rw [List.foldl_cons]
    refine sendFrom_small hs r _ ?_
    unfold sendStep
    split
    · rename_i t ht
      intro x hx
      rcases List.mem_append.1 hx with h1 | h1
      · exact h x h1
      · obtain rfl : x = t := by simpa using h1
        exact (getP_text hs ht).2.2
    · exact h
theorem sendTexts_small {l : List Pc} {ns : List Int} : ∀ t ∈ sendTexts l ns, t.size ≤ 60 := by
  unfold sendTexts
  split
  · rename_i hs
    exact sendFrom_small hs ns [] (by simp)
  · simp
theorem sendTexts_len {l : List Pc} {ns : List Int} : (sendTexts l ns).length ≤ ns.length := by
  unfold sendTexts
  split
  · have := sendFrom_len l ns []
    simpa [sendFrom] using this
  · simp
theorem wantedOf_len {l : List Pc} {ns : List Int} : (wantedOf l ns).length ≤ ns.length := by
  unfold wantedOf
  split
  · have := wantFrom_len l ns []
    simpa [wantFrom] using this
  · simp
noncomputable def syncOf (xs ys : List Pc) (root : Int) : List Pc × Int :=
  if storeOk xs = true ∧ storeOk ys = true then ((takeTexts xs (wantedOf xs (reachOf ys [root])) (sendTexts ys (wantedOf xs (reachOf ys [root])))).1, ((sendTexts ys (wantedOf xs (reachOf ys [root]))).length : Int)) else ([], -1)
theorem syncOf_off {xs ys : List Pc} {root : Int} (h : ¬ (storeOk xs = true ∧ storeOk ys = true)) : syncOf xs ys root = ([], -1) := by unfold syncOf; rw [if_neg h]

set_option maxHeartbeats 2000000 in
set_option maxRecDepth 100000 in
theorem impl_ReachOf_c (v u : Value) (xs : List Pc) (rts : List Int) (w : World) (h : Pcs w w.heap.size v xs) (h' : Ints w w.heap.size u rts) (hl : rts.length ≤ 1048576) (hg : Glob w) :
    Calls Tryz.prog 112 #[v, u] w fun e w' => ∃ v', e = .returned v' ∧ OwnI w' w.heap.size v' (reachOf xs rts) ∧ Below w.heap.size w w' := by
  obtain ⟨n, hn⟩ : ∃ n, xs.length = n := ⟨_, rfl⟩
  obtain ⟨a, c, rfl, _, _, h3⟩ := h.pcs hn
  have H3 := hid h3
  have HN := hid hn
  have HP : Hid (∀ wx, Below w.heap.size w wx → Pcs wx wx.heap.size (.slice a n c) xs) := fun wx hx' => h.on hx'
  have HI : Hid (∀ wx, Below w.heap.size w wx → Ints wx wx.heap.size u rts) := fun wx hx' => h'.on hx'
  have HL := hid hl
  have HG := hid hg
  clear hn h3 hl hg h'
  cases hok : storeOk xs
  · have HO := hid (reachOf_off (roots := rts) hok)
    go_enter Tryz.func112, Tryz.ntmps112
    go_wp2_with fail
    refine (impl_StoreValid_c _ xs _ h).mono ?_
    rw [hok]
    rintro e w1 ⟨rfl, b1⟩
    go_wp2
    go_ret
    exact ⟨_, rfl, by rw [HO.out]; exact Own.nil_, b1⟩
  · have HO := hid (reachOf_on (roots := rts) hok)
    have HK := hid hok
    have hn40 : n ≤ 40 := by have := (st_in hok).1; have := HN.out; omega
    go_enter Tryz.func112, Tryz.ntmps112
    go_wp2_with fail
    refine (impl_StoreValid_c _ xs _ h).mono ?_
    rw [hok]
    rintro e w0 ⟨rfl, b0⟩
    clear hok h
    go_wp2_with fail
    refine (impl_reachedPieces_c _ _ xs rts _ (HP.out _ b0) (HI.out _ b0) HK.out HL.out (HG.out.on b0)).mono ?_
    rintro e w1 ⟨rv, rfl, o1, b1'⟩
    have b1 := bl_then b0 b1'
    have hs1 := b1.size
    obtain ⟨a', c', rfl, _, _, h4⟩ := Rd.openN (Rd.of_own o1) (fun _ => rfl) (show (reachB xs rts).length = n by rw [reachB_len]; exact HN.out)
    have H4 := hid h4
    clear o1 b1' b0 h4
    go_wp2
    go_loopw [6, 17] (fun out iv wr => ∃ (k : Nat) (acc : List Int), k ≤ n ∧ iv = .int .i64 k ∧ OwnI wr w1.heap.size out acc ∧ Hid (acc = ((xs.take k).filter fun p => inR xs rts p.print).map (·.print)) ∧ acc.length ≤ k ∧ Below w1.heap.size w1 wr) (fun _ iv _ => n - (intOf iv).toNat)
    case atStart => exact ⟨0, [], Nat.zero_le _, rfl, Own.nil_, rfl, Nat.zero_le _, Below.refl _ _⟩
    case round =>
      obtain ⟨k, acc, hk, rfl, hown, hacc, hlen, hb⟩ := hrel
      have c1 := bl_then b1 hb
      by_cases hkn : k < n
      · obtain ⟨b, o, pr, t, rfl, hbl, hx, k0, k1⟩ := H3.out k hkn
        have j0 := (c1.cell (p := ⟨b, o + k * 2, none⟩) hbl).trans k0
        have j1 := (c1.cell (p := ⟨b, o + k * 2 + 1, none⟩) hbl).trans k1
        obtain ⟨b', o', z, rfl, hbl', hz, hc'⟩ := H4.out k hkn
        have k2 : w1.cell? ⟨b', o' + k, none⟩ = some (.bool z) := by simpa using hc' 0 _ rfl
        have hzv : z = inR xs rts pr := by
          have := hz.out
          unfold reachB at this
          rw [List.getElem?_map, hx.out] at this
          simpa using this.symm
        have hal : Below w1.heap.size w1 (wr.alloc (.cells #[.int .i64 pr, .string t] 60)) := hb.alloc hb.size _
        have j2 : (wr.alloc (.cells #[.int .i64 pr, .string t] 60)).cell? ⟨b', o' + k, none⟩ = some (.bool z) := (hal.cell (p := ⟨b', o' + k, none⟩) hbl').trans k2
        have hown2 := hown.alloc (.cells #[.int .i64 pr, .string t] 60)
        have hB2 := hal.size
        have HF := hid (reach_succ (f := fun p => inR xs rts p.print) hx.out)
        have HZ := hid hzv
        clear k0 k1 k2 hc' hzv hb hown
        cases z
        · have HS := hid (show ((xs.take (k + 1)).filter fun p => inR xs rts p.print).map (·.print) = acc by rw [HF.out, ← hacc.out]; simp only [← HZ.out]; simp)
          go_wp2
          go_roundw
          case rel => exact ⟨k + 1, acc, by omega, by go_num, hown2, hid HS.out.symm, by omega, hal⟩
          case measure => simp [intOf]; omega
        · have HS := hid (show ((xs.take (k + 1)).filter fun p => inR xs rts p.print).map (·.print) = acc ++ [pr] by rw [HF.out, ← hacc.out]; simp only [← HZ.out]; simp)
          go_wp2_with (at_builtin; refine push_int (w0 := w1) rfl _ _ rfl _ _ _ _ _ hown2 hal hB2 (Nat.le_refl _) rfl (by simp [Act.eval]) (by omega) ?_; intro v' w' hown' hb' hB' _)
          go_roundw
          case rel => exact ⟨k + 1, _, by omega, by go_num, hown', hid HS.out.symm, by simp; omega, hb'⟩
          case measure => simp [intOf]; omega
      · have HA := hid (show acc = reachOf xs rts by rw [HO.out, hacc.out, take_all HN.out (show n ≤ k by omega)])
        go_wp2
        go_ret
        exact ⟨_, rfl, by rw [← HA.out]; exact hown.less hs1, c1⟩

theorem impl_ReachOf_e (v u : Value) (xs : List Pc) (rts R : List Int) (hR : reachOf xs rts = R) (w : World) (h : Pcs w w.heap.size v xs) (h' : Ints w w.heap.size u rts) (hl : rts.length ≤ 1048576) (hg : Glob w) :
    Calls Tryz.prog 112 #[v, u] w fun e w' => ∃ v', e = .returned v' ∧ OwnI w' w.heap.size v' R ∧ Below w.heap.size w w' := hR ▸ impl_ReachOf_c v u xs rts w h h' hl hg

theorem spec_ReachOf_e (v u : Value) (xs : List Pc) (rts R : List Int) (hR : reachOf xs rts = R) (w : World) (h : Pcs w w.heap.size v xs) (h' : Ints w w.heap.size u rts) (hx0 : ∀ x ∈ xs, x.text.size ≤ 1048576) (hl0 : xs.length ≤ 1048576) :
    Calls Tryz.prog 116 #[v, u] w fun e w' => ∃ v', e = .returned v' ∧ OwnI w' w.heap.size v' R ∧ Below w.heap.size w w' := hR ▸ spec_ReachOf_c v u xs rts w h h' hx0 hl0

set_option maxHeartbeats 2000000 in
set_option maxRecDepth 100000 in
theorem impl_SyncRoot_c (v u : Value) (xs ys : List Pc) (root : Int) (R : List Pc) (Z : Int) (hR : syncOf xs ys root = (R, Z)) (w : World) (h : Pcs w w.heap.size v xs) (h' : Pcs w w.heap.size u ys) (hg : Glob w) :
    Calls Tryz.prog 51 #[v, u, .int .i64 root] w fun e w' => ∃ v', e = .returned (.tuple #[v', .int .i64 Z]) ∧ OwnP w' w.heap.size v' R ∧ Below w.heap.size w w' := by
  have HP : Hid (∀ wx, Below w.heap.size w wx → Pcs wx wx.heap.size v xs) := fun wx hx' => h.on hx'
  have HP' : Hid (∀ wx, Below w.heap.size w wx → Pcs wx wx.heap.size u ys) := fun wx hx' => h'.on hx'
  have HG := hid hg
  clear h h' hg
  cases hok : storeOk xs
  · rw [syncOf_off (by rw [hok]; simp)] at hR
    obtain ⟨rfl, rfl⟩ := Prod.mk.injEq _ _ _ _ ▸ hR
    have HK := hid hok
    clear hok hR
    go_enter Tryz.func51, Tryz.ntmps51
    go_wp2_with fail
    refine (impl_StoreValid_c _ xs _ (HP.out _ (Below.refl _ _))).mono ?_
    rw [HK.out]
    rintro e w1 ⟨rfl, b1⟩
    go_wp2
    go_ret2
    exact ⟨_, rfl, Own.nil_, b1⟩
  · cases hok' : storeOk ys
    · rw [syncOf_off (by rw [hok']; simp)] at hR
      obtain ⟨rfl, rfl⟩ := Prod.mk.injEq _ _ _ _ ▸ hR
      have HK := hid hok
      have HK' := hid hok'
      clear hok hok' hR
      go_enter Tryz.func51, Tryz.ntmps51
      go_wp2_with fail
      refine (impl_StoreValid_c _ xs _ (HP.out _ (Below.refl _ _))).mono ?_
      rw [HK.out]
      rintro e w1 ⟨rfl, b1⟩
      go_wp2_with fail
      refine (impl_StoreValid_c _ ys _ (HP'.out _ b1)).mono ?_
      rw [HK'.out]
      rintro e w2 ⟨rfl, b2'⟩
      have b2 := bl_then b1 b2'
      clear b2'
      go_wp2
      go_ret2
      exact ⟨_, rfl, Own.nil_, b2⟩
    · obtain ⟨R1, hR1⟩ : ∃ R1, reachOf ys [root] = R1 := ⟨_, rfl⟩
      obtain ⟨R2, hR2⟩ : ∃ R2, wantedOf xs R1 = R2 := ⟨_, rfl⟩
      obtain ⟨R3, hR3⟩ : ∃ R3, sendTexts ys R2 = R3 := ⟨_, rfl⟩
      obtain ⟨m, hm⟩ : ∃ m, R3.length = m := ⟨_, rfl⟩
      have l1 : R1.length ≤ 40 := by rw [← hR1]; exact reachOf_len
      have l2 : R2.length ≤ 40 := by have := wantedOf_len (l := xs) (ns := R1); rw [hR2] at this; omega
      have l3 : R3.length ≤ 40 := by have := sendTexts_len (l := ys) (ns := R2); rw [hR3] at this; omega
      have hE : R = (takeTexts xs R2 R3).1 ∧ Z = (m : Int) := by
        have := hR
        unfold syncOf at this
        rw [if_pos ⟨hok, hok'⟩, hR1, hR2, hR3, hm] at this
        simp only [Prod.mk.injEq] at this
        exact ⟨this.1.symm, this.2.symm⟩
      obtain ⟨hE1, rfl⟩ := hE
      have HE := hid hE1
      have HK := hid hok
      have HK' := hid hok'
      have HR1 := hid hR1
      have HR2 := hid hR2
      have HR3 := hid hR3
      have HM := hid hm
      have L1 := hid l1
      have L2 := hid l2
      have L3 := hid l3
      clear hok hok' hR hE1 hR1 hR2 hR3 hm l1 l2 l3
      go_enter Tryz.func51, Tryz.ntmps51
      go_wp2_with fail
      refine (impl_StoreValid_c _ xs _ (HP.out _ (Below.refl _ _))).mono ?_
      rw [HK.out]
      rintro e w1 ⟨rfl, b1⟩
      go_wp2_with fail
      refine (impl_StoreValid_c _ ys _ (HP'.out _ b1)).mono ?_
      rw [HK'.out]
      rintro e w2 ⟨rfl, b2'⟩
      have b2 := bl_then b1 b2'
      obtain ⟨W3, hW3⟩ : ∃ W3, W3 = w2.alloc (.cells #[.int .i64 root] 3) := ⟨_, rfl⟩
      have o3 : OwnI W3 w2.heap.size (.slice (some ⟨w2.heap.size, 0, none⟩) 1 1) [root] := by rw [hW3]; exact Own.oneI _ _
      have b3 : Below w.heap.size w W3 := by rw [hW3]; exact b2.alloc b2.size _
      clear b2' b1
      go_wp2_with fail
      rw [← hW3]
      refine (impl_ReachOf_e _ _ ys [root] R1 HR1.out _ (HP'.out _ b3) (Rd.of_own o3) (by simp) (HG.out.on b3)).mono ?_
      rintro e w4 ⟨v1, rfl, o4, b4'⟩
      have b4 := bl_then b3 b4'
      clear hW3 b4' o3 b3 b2
      go_wp2_with fail
      refine (impl_WantedOf_c _ _ xs R1 _ (HP.out _ b4) (Rd.of_own o4) (by have := L1.out; omega)).mono ?_
      rw [HR2.out]
      rintro e w5 ⟨v2, rfl, o5, b5'⟩
      have b5 := bl_then b4 b5'
      clear b5' o4 b4
      go_wp2_with fail
      refine (impl_SendTexts_c _ _ ys R2 _ (HP'.out _ b5) (Rd.of_own o5) (by have := L2.out; omega)).mono ?_
      rw [HR3.out]
      rintro e w6 ⟨v3, rfl, o6, b6'⟩
      have b6 := bl_then b5 b6'
      have o5' := o5.on b6'
      obtain ⟨a3, c3, rfl, _, _, _⟩ := (Rd.of_own o6).strs HM.out
      clear b6' o5 b5
      go_wp2_with fail
      refine (impl_TakeTexts_c _ _ _ xs R2 R3 _ (HP.out _ b6) (Rd.of_own o5') (Rd.of_own o6) (by have := L3.out; omega)).mono ?_
      rw [← HE.out]
      rintro e w7 ⟨v4, rfl, o7, b7'⟩
      have b7 := bl_then b6 b7'
      have o7' := o7.less b6.size
      clear b7' o7 b6 o6 o5'
      go_wp2
      go_ret2
      exact ⟨_, rfl, o7', b7⟩

set_option maxHeartbeats 2000000 in
set_option maxRecDepth 100000 in
theorem spec_SyncRoot_c (v u : Value) (xs ys : List Pc) (root : Int) (R : List Pc) (Z : Int) (hR : syncOf xs ys root = (R, Z)) (w : World) (h : Pcs w w.heap.size v xs) (h' : Pcs w w.heap.size u ys) (hx0 : ∀ x ∈ xs, x.text.size ≤ 1048576) (hl0 : xs.length ≤ 1048576) (hy0 : ∀ x ∈ ys, x.text.size ≤ 1048576) (hl1 : ys.length ≤ 1048576) :
    Calls Tryz.prog 52 #[v, u, .int .i64 root] w fun e w' => ∃ v', e = .returned (.tuple #[v', .int .i64 Z]) ∧ OwnP w' w.heap.size v' R ∧ Below w.heap.size w w' := by
  have HP : Hid (∀ wx, Below w.heap.size w wx → Pcs wx wx.heap.size v xs) := fun wx hx' => h.on hx'
  have HP' : Hid (∀ wx, Below w.heap.size w wx → Pcs wx wx.heap.size u ys) := fun wx hx' => h'.on hx'
  have HX := hid hx0
  have HL := hid hl0
  have HY := hid hy0
  have HL1 := hid hl1
  clear h h' hx0 hl0 hy0 hl1
  have hal : ∀ wx, Below w.heap.size w wx → Hid (OwnP (wx.alloc (.cells #[] 60)) w.heap.size (.slice (some ⟨wx.heap.size, 0, none⟩) 0 0) []) := fun wx hb => hid (Own.made _ hb.size)
  cases hok : storeOk xs
  · rw [syncOf_off (by rw [hok]; simp)] at hR
    obtain ⟨rfl, rfl⟩ := Prod.mk.injEq _ _ _ _ ▸ hR
    have HK := hid hok
    have HAL := hid hal
    clear hok hR hal
    go_enter Tryz.func52, Tryz.ntmps52
    go_wp2_with fail
    refine (spec_StoreValid_c _ xs _ _ (HP.out _ (Below.refl _ _)) HX.out HL.out).mono ?_
    rw [HK.out]
    rintro e w' ⟨rfl, q, rfl⟩
    have b1 : Below w.heap.size w (w.drewN q) := bl_drewN (Below.refl _ _) q
    have o1 := HAL.out _ b1
    have b2 := hid (b1.alloc b1.size (.cells #[] 60))
    go_wp2
    go_ret2
    exact ⟨_, rfl, o1.out, b2.out⟩
  · cases hok' : storeOk ys
    · rw [syncOf_off (by rw [hok']; simp)] at hR
      obtain ⟨rfl, rfl⟩ := Prod.mk.injEq _ _ _ _ ▸ hR
      have HK := hid hok
      have HK' := hid hok'
      have HAL := hid hal
      clear hok hok' hR hal
      go_enter Tryz.func52, Tryz.ntmps52
      go_wp2_with fail
      refine (spec_StoreValid_c _ xs _ _ (HP.out _ (Below.refl _ _)) HX.out HL.out).mono ?_
      rw [HK.out]
      rintro e w' ⟨rfl, q, rfl⟩
      have b1 : Below w.heap.size w (w.drewN q) := bl_drewN (Below.refl _ _) q
      go_wp2_with fail
      refine (spec_StoreValid_c _ ys _ _ (HP'.out _ b1) HY.out HL1.out).mono ?_
      rw [HK'.out]
      rintro e w' ⟨rfl, q2, rfl⟩
      have b2 : Below w.heap.size w (w.drewN (q + q2)) := bl_drewN (Below.refl _ _) _
      have o1 := HAL.out _ b2
      have b3 := hid (b2.alloc b2.size (.cells #[] 60))
      go_wp2
      go_ret2
      exact ⟨_, rfl, o1.out, b3.out⟩
    · obtain ⟨R1, hR1⟩ : ∃ R1, reachOf ys [root] = R1 := ⟨_, rfl⟩
      obtain ⟨R2, hR2⟩ : ∃ R2, wantedOf xs R1 = R2 := ⟨_, rfl⟩
      obtain ⟨R3, hR3⟩ : ∃ R3, sendTexts ys R2 = R3 := ⟨_, rfl⟩
      obtain ⟨m, hm⟩ : ∃ m, R3.length = m := ⟨_, rfl⟩
      have l1 : R1.length ≤ 40 := by rw [← hR1]; exact reachOf_len
      have l2 : R2.length ≤ 40 := by have := wantedOf_len (l := xs) (ns := R1); rw [hR2] at this; omega
      have l3 : R3.length ≤ 40 := by have := sendTexts_len (l := ys) (ns := R2); rw [hR3] at this; omega
      have hT : ∀ t ∈ R3, t.size ≤ 1048576 := fun t ht => by rw [← hR3] at ht; have := sendTexts_small t ht; omega
      have hE : R = (takeTexts xs R2 R3).1 ∧ Z = (m : Int) := by
        have := hR
        unfold syncOf at this
        rw [if_pos ⟨hok, hok'⟩, hR1, hR2, hR3, hm] at this
        simp only [Prod.mk.injEq] at this
        exact ⟨this.1.symm, this.2.symm⟩
      obtain ⟨hE1, rfl⟩ := hE
      have HE := hid hE1
      have HK := hid hok
      have HK' := hid hok'
      have HR1 := hid hR1
      have HR2 := hid hR2
      have HR3 := hid hR3
      have HM := hid hm
      have L1 := hid l1
      have L2 := hid l2
      have L3 := hid l3
      have HT := hid hT
      clear hok hok' hR hE1 hR1 hR2 hR3 hm l1 l2 l3 hT hal
      go_enter Tryz.func52, Tryz.ntmps52
      go_wp2_with fail
      refine (spec_StoreValid_c _ xs _ _ (HP.out _ (Below.refl _ _)) HX.out HL.out).mono ?_
      rw [HK.out]
      rintro e w' ⟨rfl, q, rfl⟩
      have b1 : Below w.heap.size w (w.drewN q) := bl_drewN (Below.refl _ _) q
      go_wp2_with fail
      refine (spec_StoreValid_c _ ys _ _ (HP'.out _ b1) HY.out HL1.out).mono ?_
      rw [HK'.out]
      rintro e w' ⟨rfl, q2, rfl⟩
      obtain ⟨w2, hw2⟩ : ∃ w2, w2 = (w.drewN q).drewN q2 := ⟨_, rfl⟩
      have b2 : Below w.heap.size w w2 := by rw [hw2]; exact bl_drewN b1 q2
      rw [← hw2]
      obtain ⟨W3, hW3⟩ : ∃ W3, W3 = w2.alloc (.cells #[.int .i64 root] 3) := ⟨_, rfl⟩
      have o3 : OwnI W3 w2.heap.size (.slice (some ⟨w2.heap.size, 0, none⟩) 1 1) [root] := by rw [hW3]; exact Own.oneI _ _
      have b3 : Below w.heap.size w W3 := by rw [hW3]; exact b2.alloc b2.size _
      clear b1 hw2
      go_wp2_with fail
      rw [← hW3]
      refine (spec_ReachOf_e _ _ ys [root] R1 HR1.out _ (HP'.out _ b3) (Rd.of_own o3) HY.out HL1.out).mono ?_
      rintro e w4 ⟨v1, rfl, o4, b4'⟩
      have b4 := bl_then b3 b4'
      clear hW3 b4' o3 b3 b2
      go_wp2_with fail
      refine (spec_WantedOf_c _ _ xs R1 _ (HP.out _ b4) (Rd.of_own o4) HX.out HL.out (by have := L1.out; omega)).mono ?_
      rw [HR2.out]
      rintro e w5 ⟨v2, rfl, o5, b5'⟩
      have b5 := bl_then b4 b5'
      clear b5' o4 b4
      go_wp2_with fail
      refine (spec_SendTexts_c _ _ ys R2 _ (HP'.out _ b5) (Rd.of_own o5) HY.out HL1.out (by have := L2.out; omega)).mono ?_
      rw [HR3.out]
      rintro e w6 ⟨v3, rfl, o6, b6'⟩
      have b6 := bl_then b5 b6'
      have o5' := o5.on b6'
      obtain ⟨a3, c3, rfl, _, _, _⟩ := (Rd.of_own o6).strs HM.out
      clear b6' o5 b5
      go_wp2_with fail
      refine (spec_TakeTexts_c _ _ _ xs R2 R3 _ (HP.out _ b6) (Rd.of_own o5') (Rd.of_own o6) HX.out HL.out (by have := L3.out; omega) HT.out).mono ?_
      rw [← HE.out]
      rintro e w7 ⟨v4, rfl, o7, b7'⟩
      have b7 := bl_then b6 b7'
      have o7' := o7.less b6.size
      clear b7' o7 b6 o6 o5'
      go_wp2
      go_ret2
      exact ⟨_, rfl, o7', b7⟩

end Go.Proofs.YtachfmlfmpaddaaGreatDoor

/- Walks: what is left of a store when what no root reaches is swept away. -/
namespace Go.Proofs.YtachfmlfmpaddaaGreatDoor
open Go.RowKit

set_option maxHeartbeats 2000000 in
set_option maxRecDepth 100000 in
theorem impl_SweepStore_c (v u : Value) (xs : List Pc) (rts : List Int) (w : World) (h : Pcs w w.heap.size v xs) (h' : Ints w w.heap.size u rts) (hl : rts.length ≤ 1048576) (hg : Glob w) :
    Calls Tryz.prog 54 #[v, u] w fun e w' => ∃ v', e = .returned v' ∧ OwnP w' w.heap.size v' (sweepOf xs rts) ∧ Below w.heap.size w w' := by
  obtain ⟨n, hn⟩ : ∃ n, xs.length = n := ⟨_, rfl⟩
  obtain ⟨a, c, rfl, _, _, h3⟩ := h.pcs hn
  have H3 := hid h3
  have HN := hid hn
  have HP : Hid (∀ wx, Below w.heap.size w wx → Pcs wx wx.heap.size (.slice a n c) xs) := fun wx hx' => h.on hx'
  have HI : Hid (∀ wx, Below w.heap.size w wx → Ints wx wx.heap.size u rts) := fun wx hx' => h'.on hx'
  have HL := hid hl
  have HG := hid hg
  clear hn h3 hl hg h'
  cases hok : storeOk xs
  · have HO := hid (sweepOf_off (roots := rts) hok)
    go_enter Tryz.func54, Tryz.ntmps54
    go_wp2_with fail
    refine (impl_StoreValid_c _ xs _ h).mono ?_
    rw [hok]
    rintro e w1 ⟨rfl, b1⟩
    go_wp2
    go_ret
    exact ⟨_, rfl, by rw [HO.out]; exact Own.nil_, b1⟩
  · have HO := hid (sweepOf_on (roots := rts) hok)
    have HK := hid hok
    have hn40 : n ≤ 40 := by have := (st_in hok).1; have := HN.out; omega
    go_enter Tryz.func54, Tryz.ntmps54
    go_wp2_with fail
    refine (impl_StoreValid_c _ xs _ h).mono ?_
    rw [hok]
    rintro e w0 ⟨rfl, b0⟩
    clear hok h
    go_wp2_with fail
    refine (impl_reachedPieces_c _ _ xs rts _ (HP.out _ b0) (HI.out _ b0) HK.out HL.out (HG.out.on b0)).mono ?_
    rintro e w1 ⟨rv, rfl, o1, b1'⟩
    have b1 := bl_then b0 b1'
    have hs1 := b1.size
    obtain ⟨a', c', rfl, _, _, h4⟩ := Rd.openN (Rd.of_own o1) (fun _ => rfl) (show (reachB xs rts).length = n by rw [reachB_len]; exact HN.out)
    have H4 := hid h4
    clear o1 b1' b0 h4
    go_wp2
    go_loopw [6, 17] (fun out iv wr => ∃ (k : Nat) (acc : List Pc), k ≤ n ∧ iv = .int .i64 k ∧ OwnP wr w1.heap.size out acc ∧ Hid (acc = (xs.take k).filter fun p => inR xs rts p.print) ∧ acc.length ≤ k ∧ Below w1.heap.size w1 wr) (fun _ iv _ => n - (intOf iv).toNat)
    case atStart => exact ⟨0, [], Nat.zero_le _, rfl, Own.nil_, rfl, Nat.zero_le _, Below.refl _ _⟩
    case round =>
      obtain ⟨k, acc, hk, rfl, hown, hacc, hlen, hb⟩ := hrel
      have c1 := bl_then b1 hb
      by_cases hkn : k < n
      · obtain ⟨b, o, pr, t, rfl, hbl, hx, k0, k1⟩ := H3.out k hkn
        have j0 := (c1.cell (p := ⟨b, o + k * 2, none⟩) hbl).trans k0
        have j1 := (c1.cell (p := ⟨b, o + k * 2 + 1, none⟩) hbl).trans k1
        obtain ⟨b', o', z, rfl, hbl', hz, hc'⟩ := H4.out k hkn
        have k2 : w1.cell? ⟨b', o' + k, none⟩ = some (.bool z) := by simpa using hc' 0 _ rfl
        have hzv : z = inR xs rts pr := by
          have := hz.out
          unfold reachB at this
          rw [List.getElem?_map, hx.out] at this
          simpa using this.symm
        have hal : Below w1.heap.size w1 (wr.alloc (.cells #[.int .i64 pr, .string t] 60)) := hb.alloc hb.size _
        have j2 : (wr.alloc (.cells #[.int .i64 pr, .string t] 60)).cell? ⟨b', o' + k, none⟩ = some (.bool z) := (hal.cell (p := ⟨b', o' + k, none⟩) hbl').trans k2
        have hown2 := hown.alloc (.cells #[.int .i64 pr, .string t] 60)
        have hB2 := hal.size
        have HF := hid (filter_succ (fun p : Pc => inR xs rts p.print) hx.out)
        have HZ := hid hzv
        clear k0 k1 k2 hc' hzv hb hown
        cases z
        · have HS := hid (show ((xs.take (k + 1)).filter fun p => inR xs rts p.print) = acc by rw [HF.out, ← hacc.out]; simp only [← HZ.out]; simp)
          go_wp2
          go_roundw
          case rel => exact ⟨k + 1, acc, by omega, by go_num, hown2, hid HS.out.symm, by omega, hal⟩
          case measure => simp [intOf]; omega
        · have HS := hid (show ((xs.take (k + 1)).filter fun p => inR xs rts p.print) = acc ++ [⟨pr, t⟩] by rw [HF.out, ← hacc.out]; simp only [← HZ.out]; simp)
          go_wp2_with (at_builtin; refine push_pc (w0 := w1) rfl _ _ rfl _ _ _ _ ⟨pr, t⟩ hown2 hal hB2 (Nat.le_refl _) rfl (by simp [Act.eval]) (by omega) ?_; intro v' w' hown' hb' hB' _)
          go_roundw
          case rel => exact ⟨k + 1, _, by omega, by go_num, hown', hid HS.out.symm, by simp; omega, hb'⟩
          case measure => simp [intOf]; omega
      · have HA := hid (show acc = sweepOf xs rts by rw [HO.out, hacc.out, take_all HN.out (show n ≤ k by omega)])
        go_wp2
        go_ret
        exact ⟨_, rfl, by rw [← HA.out]; exact hown.less hs1, c1⟩

end Go.Proofs.YtachfmlfmpaddaaGreatDoor

/- Walks: the reference's writes and drops. -/
namespace Go.Proofs.YtachfmlfmpaddaaGreatDoor
open Go.RowKit

theorem Own.cat0 {w : World} {n c : Nat} {a : Option Addr} {xs : List Pc} (h : Pcs w w.heap.size (.slice a n c) xs) : Pcs (w.alloc (.cells #[] 60)) (w.alloc (.cells #[] 60)).heap.size (.slice a n c) xs := h.on ((Below.refl _ _).alloc (Nat.le_refl _) _)

end Go.Proofs.YtachfmlfmpaddaaGreatDoor

/- The files below a folder, in plain Lean. No program in sight. -/
namespace Go.Proofs.YtachfmlfmpaddaaGreatDoor
open Go.RowKit

theorem join_inj {a b : List ByteArray} (ha : a.length ≤ 3) (hb : b.length ≤ 3) (ha' : ∀ x ∈ a, wordOk (bs x) = true) (hb' : ∀ x ∈ b, wordOk (bs x) = true) (h : joinP (a.map bs) = joinP (b.map bs)) : a = b := by
  have h1 := parts_join (ws := a.map bs) (by simpa using ha) (by simpa using ha')
  have h2 := parts_join (ws := b.map bs) (by simpa using hb) (by simpa using hb')
  rw [h, h2] at h1
  have h3 := congrArg (List.map strL) (Option.some.inj h1)
  have h4 : ∀ l : List ByteArray, (l.map bs).map strL = l := fun l => by
    rw [List.map_map]
    conv => rhs; rw [← List.map_id l]
    exact List.map_congr_left (fun x _ => by simp [strL_bs])
  rw [h4, h4] at h3
  exact h3.symm
theorem below_once {xs : List Pc} : ∀ (k : Nat) (pr : Int) (parts : List ByteArray), parts.length + k ≤ 3 → (∀ x ∈ parts, wordOk (bs x) = true) → (belowF xs k pr parts).Pairwise (fun a b => a ≠ b)
  | 0, _, _, _, _ => by simp [belowF]
  | k + 1, pr, parts, hk, hp => by
    have ho := entsOf_ok (textAt xs pr)
    have hform : ∀ e ∈ entsOf (textAt xs pr), ∀ p ∈ (if isFile (textAt xs e.print) = true then [strL (joinP ((parts ++ [e.name]).map bs))] else belowF xs k e.print (parts ++ [e.name])), ∃ ws : List ByteArray, ws.length ≤ k ∧ (∀ x ∈ ws, wordOk (bs x) = true) ∧ p = strL (joinP ((parts ++ e.name :: ws).map bs)) := by
      intro e he p hpe
      split at hpe
      · exact ⟨[], by simp, by simp, by simpa using hpe⟩
      · obtain ⟨ws, _, hl, hw, e2⟩ := (below_mem k e.print (parts ++ [e.name]) p).1 hpe
        exact ⟨ws, hl, fileWay_words ws _ hw, by rw [e2]; simp⟩
    unfold belowF
    rw [List.pairwise_flatMap]
    refine ⟨fun e he => ?_, ?_⟩
    · split
      · simp
      · refine below_once k e.print (parts ++ [e.name]) (by simp; omega) (fun x hx => ?_)
        rcases List.mem_append.1 hx with h | h
        · exact hp x h
        · simp only [List.mem_singleton] at h
          rw [h]; exact (entOk_iff.1 (ents_all ho he)).1
    · refine List.Pairwise.imp_of_mem ?_ (ents_iff.1 ho).2.2
      intro a b ha hb hab x hx y hy hxy
      obtain ⟨u, hu, hu', e1⟩ := hform a ha x hx
      obtain ⟨v, hv, hv', e2⟩ := hform b hb y hy
      rw [← hxy, e1] at e2
      have e3 : joinP ((parts ++ a.name :: u).map bs) = joinP ((parts ++ b.name :: v).map bs) := by
        have := congrArg bs e2
        rw [bs_strL, bs_strL] at this
        exact this
      have hwa := (entOk_iff.1 (ents_all ho ha)).1
      have hwb := (entOk_iff.1 (ents_all ho hb)).1
      have hall : ∀ (n : ByteArray) (q : List ByteArray), wordOk (bs n) = true → (∀ x ∈ q, wordOk (bs x) = true) → ∀ x ∈ parts ++ n :: q, wordOk (bs x) = true := fun n q h1 h2 x hx => by
        rcases List.mem_append.1 hx with h | h
        · exact hp x h
        · rcases List.mem_cons.1 h with rfl | h
          · exact h1
          · exact h2 x h
      have := join_inj (by simp; omega) (by simp; omega) (hall _ _ hwa hu') (hall _ _ hwb hv') e3
      have h5 := (List.cons.inj (List.append_cancel_left this)).1
      rw [h5, ltN_irr] at hab
      cases hab

end Go.Proofs.YtachfmlfmpaddaaGreatDoor

/- Walks: ways through folders, the program's way. -/
namespace Go.Proofs.YtachfmlfmpaddaaGreatDoor
open Go.RowKit

noncomputable def namesAt (xs : List Pc) (root : Int) (path : List UInt8) : List ByteArray × Bool :=
  if (walkTo xs root path).2 = true then (((folderAt xs (walkTo xs root path).1).getD []).map (·.name), (folderAt xs (walkTo xs root path).1).isSome) else ([], false)

set_option maxHeartbeats 2000000 in
set_option maxRecDepth 100000 in
theorem impl_NamesAt_c (v : Value) (xs : List Pc) (root : Int) (path : ByteArray) (w : World) (L : List ByteArray) (f : Bool) (hL : namesAt xs root (bs path) = (L, f)) (h : Pcs w w.heap.size v xs) (hp0 : path.size ≤ 1000) (hg : Glob w) (hm : Mx w) :
    Calls Tryz.prog 39 #[v, .int .i64 root, .string path] w fun e w' => ∃ v', e = .returned (.tuple #[v', .bool f]) ∧ OwnS w' w.heap.size v' L ∧ Below w.heap.size w w' := by
  have HH := hid h
  have HG := hid hg
  obtain ⟨⟨y, ok⟩, hR⟩ : ∃ R, walkTo xs root (bs path) = R := ⟨_, rfl⟩
  have HR := hid hR
  have hRA := hid (show (if ok = true then (((folderAt xs y).getD []).map (·.name), (folderAt xs y).isSome) else ([], false)) = (L, f) by rw [← hL]; unfold namesAt; rw [hR])
  clear h hL hg
  cases ok
  · obtain ⟨rfl, rfl⟩ : L = [] ∧ f = false := by have := hRA.out; simp at this; exact ⟨this.1, this.2⟩
    clear hR hRA
    go_enter Tryz.func39, Tryz.ntmps39
    go_wp2_with fail
    refine (impl_WalkTo_c _ xs root path _ _ HR.out HH.out hp0 HG.out hm).mono ?_
    rintro e w1 ⟨rfl, b1⟩
    go_wp2
    go_ret2
    exact ⟨_, rfl, Own.nil_, b1⟩
  have HS := hid (show storeOk xs = true by
    cases hok : storeOk xs
    · rw [walk_off (.inl hok)] at hR; cases hR
    · rfl)
  obtain ⟨F, hF⟩ : ∃ F, folderAt xs y = F := ⟨_, rfl⟩
  rw [hF] at hRA
  have HF := hid hF
  clear hR hF
  go_enter Tryz.func39, Tryz.ntmps39
  go_wp2_with fail
  refine (impl_WalkTo_c _ xs root path _ _ HR.out HH.out hp0 HG.out hm).mono ?_
  rintro e w1 ⟨rfl, b1⟩
  go_wp2_with fail
  refine (impl_folderOf_c _ xs y _ F HF.out (HH.out.on b1) HS.out (HG.out.on b1)).mono ?_
  rintro e w2 ⟨lv, rfl, o2, b2⟩
  have d2 := bl_then b1 b2
  clear b1 b2
  cases F with
  | none =>
    obtain ⟨rfl, rfl⟩ : L = [] ∧ f = false := by have := hRA.out; simp at this; exact ⟨this.1, this.2⟩
    clear o2 hRA
    go_wp2
    go_ret2
    exact ⟨_, rfl, Own.nil_, d2⟩
  | some es =>
    have HL := hid (show es.map (·.name) = L by have := hRA.out; simp at this; exact this.1)
    obtain rfl : f = true := by have := hRA.out; simp at this; exact this.2
    obtain ⟨n, hn⟩ : ∃ n, es.length = n := ⟨_, rfl⟩
    have HN := hid hn
    have hn3 : n ≤ 3 := by rw [← hn]; exact (ents_in (folderAt_ok HF.out)).1
    obtain ⟨la, lc, rfl, _, _, hl3⟩ := Rd.ents (show Ents w2 w2.heap.size lv es from Rd.of_own o2) hn
    have HL3 := hid hl3
    have hs2 := d2.size
    clear o2 hRA hn hl3
    go_wp2
    go_loopw [11, 33] (fun out iv wr => ∃ (k : Nat) (acc : List ByteArray), k ≤ n ∧ iv = .int .i64 k ∧ OwnS wr w2.heap.size out acc ∧ Hid (acc = (es.map (·.name)).take k) ∧ acc.length ≤ k ∧ Below w2.heap.size w2 wr) (fun _ iv _ => n - (intOf iv).toNat)
    case atStart => exact ⟨0, [], Nat.zero_le _, rfl, Own.nil_, rfl, Nat.zero_le _, Below.refl _ _⟩
    case round =>
      obtain ⟨k, acc, hk, rfl, hown, hacc, hlen, hb⟩ := hrel
      by_cases hkn : k < n
      · obtain ⟨b, o, t, r, rfl, hbl, hx, k0, k1⟩ := HL3.out k hkn
        have j0 := (hb.cell (p := ⟨b, o + k * 2, none⟩) hbl).trans k0
        have j1 := (hb.cell (p := ⟨b, o + k * 2 + 1, none⟩) hbl).trans k1
        have hal : Below w2.heap.size w2 (wr.alloc (.cells #[.string t, .int .i64 r] 81)) := hb.alloc hb.size _
        have hown2 := hown.alloc (.cells #[.string t, .int .i64 r] 81)
        have hB2 := hal.size
        have hkn' : (k : Int) < n := by omega
        have HT := hid (show acc ++ [t] = (es.map (·.name)).take (k + 1) by rw [take_snoc' (show (es.map (·.name))[k]? = some t by rw [List.getElem?_map, hx.out]; rfl), hacc.out])
        clear k0 k1 hb hown
        go_wp2_with (at_builtin; refine push_str (w0 := w2) rfl _ _ rfl _ _ _ _ _ hown2 hal hB2 (Nat.le_refl _) rfl (by simp [Act.eval]) (by omega) ?_; intro v' w' hown' hb' hB' _)
        go_roundw
        case rel => exact ⟨k + 1, _, by omega, by go_num, hown', HT, by simp; omega, hb'⟩
        case measure => simp [intOf]; omega
      · have HA := hid (show acc = L by rw [← HL.out, hacc.out, take_all (show (es.map (·.name)).length = n by rw [List.length_map]; exact HN.out) (show n ≤ k by omega)])
        have d3 := bl_then d2 hb
        go_wp2
        go_ret2
        exact ⟨_, rfl, by rw [← HA.out]; exact hown.less hs2, d3⟩

end Go.Proofs.YtachfmlfmpaddaaGreatDoor

/- Walks: texts on a way, the program's way. -/
namespace Go.Proofs.YtachfmlfmpaddaaGreatDoor
open Go.RowKit

noncomputable def onWay : Int → List ByteArray → List ByteArray → Bool
  | _, _, [] => true
  | pr, parts, t :: r => decide (printOf (bs t) = pr) && (match r with
    | [] => true
    | _ :: _ => match readFolder (bs t), parts with
      | some es, nm :: q => (match firstOf es nm with | some c => onWay c q r | none => false)
      | _, _ => false)
theorem onWay_bad {pr : Int} {parts : List ByteArray} {t : ByteArray} {r : List ByteArray} (h : printOf (bs t) ≠ pr) : onWay pr parts (t :: r) = false := by unfold onWay; simp [h]
theorem onWay_last {pr : Int} {parts : List ByteArray} {t : ByteArray} (h : printOf (bs t) = pr) : onWay pr parts [t] = true := by unfold onWay; simp [h]
theorem onWay_nof {pr : Int} {parts : List ByteArray} {t y : ByteArray} {r : List ByteArray} (h : readFolder (bs t) = none) : onWay pr parts (t :: y :: r) = false := by unfold onWay; simp [h]
theorem onWay_non {pr : Int} {nm t y : ByteArray} {q r : List ByteArray} {es : List Ent} (h : readFolder (bs t) = some es) (hn : firstOf es nm = none) : onWay pr (nm :: q) (t :: y :: r) = false := by unfold onWay; simp [h, hn]
theorem onWay_on {pr c : Int} {nm t y : ByteArray} {q r : List ByteArray} {es : List Ent} (hp : printOf (bs t) = pr) (h : readFolder (bs t) = some es) (hn : firstOf es nm = some c) : onWay pr (nm :: q) (t :: y :: r) = onWay c q (y :: r) := by
  conv => lhs; unfold onWay
  simp [hp, h, hn]

set_option maxHeartbeats 2000000 in
set_option maxRecDepth 100000 in
theorem impl_onTheWay_c (root : Int) (pv tv : Value) (parts proof : List ByteArray) (w : World) (R : Bool) (hR : onWay root parts proof = R) (hp : Strs w w.heap.size pv parts) (ht : Strs w w.heap.size tv proof) (hl : proof.length ≤ parts.length + 1) (hs : ∀ t ∈ proof, t.size ≤ 1048576) (hg : Glob w) :
    Calls Tryz.prog 71 #[.int .i64 root, pv, tv] w fun e w' => e = .returned (.bool R) ∧ Below w.heap.size w w' := by
  obtain ⟨m, hm⟩ : ∃ m, parts.length = m := ⟨_, rfl⟩
  obtain ⟨n, hn⟩ : ∃ n, proof.length = n := ⟨_, rfl⟩
  obtain ⟨pa, pc, rfl, _, _, hp3⟩ := hp.strs hm
  obtain ⟨ta, tc, rfl, _, htc, ht3⟩ := ht.strs hn
  have HP3 := hid hp3
  have HT3 := hid ht3
  have HM := hid hm
  have HN := hid hn
  have HS := hid hs
  have HG := hid hg
  have HR := hid hR
  have hnm : n ≤ m + 1 := by omega
  clear hp ht hp3 ht3 hm hn hs hg hR hl
  go_enter Tryz.func71, Tryz.ntmps71
  go_wp2
  go_loopw [7, 8, 9, 10, 11, 12, 13, 17] (fun q _ _ _ _ _ _ i wr => ∃ (k : Nat) (y : Int), k ≤ n ∧ i = .int .i64 k ∧ q = .int .i64 y ∧ Hid (onWay y (parts.drop k) (proof.drop k) = R) ∧ Below w.heap.size w wr) (fun _ _ _ _ _ _ _ i _ => n - (intOf i).toNat)
  case atStart => exact ⟨0, root, Nat.zero_le _, rfl, rfl, hid (by simpa using HR.out), Below.refl _ _⟩
  case round =>
    obtain ⟨k, y, hk, rfl, rfl, hw, hb⟩ := hrel
    by_cases hlt : k < n
    · obtain ⟨b, o, t, rfl, hbl, hx, k0⟩ := HT3.out k hlt
      have j0 := (hb.cell (p := ⟨b, o + k, none⟩) hbl).trans k0
      have HD := hid (show onWay y (parts.drop k) (t :: proof.drop (k + 1)) = R by rw [← drop_cons hx.out]; exact hw.out)
      have hkn : (k : Int) < n := by omega
      have HTS := hid (HS.out t (List.mem_of_getElem? hx.out))
      obtain ⟨z, hz⟩ : ∃ z, printOf (bs t) = z := ⟨_, rfl⟩
      have HZ := hid hz
      have hw1 : IntKind.i64.wrap ((n : Int) - 1) = (n : Int) - 1 := IntWalk.i64_in _ (by omega)
      clear hw k0 hz
      by_cases hzy : z = y
      · subst hzy
        by_cases hlast : k + 1 = n
        · obtain rfl : R = true := by
            rw [← HD.out, List.drop_of_length_le (l := proof) (by have := HN.out; omega)]
            exact onWay_last HZ.out
          have hd1 : ((k : Int) == (n : Int) - 1) = true := by simp; omega
          clear hlast
          go_wp2_with (go_at_call 109; refine (impl_PrintOf_e _ _ HZ.out).mono ?_; rintro e w7 ⟨rfl, rfl⟩)
          go_ret
          exact ⟨rfl, hb⟩
        · have hd1 : ((k : Int) == (n : Int) - 1) = false := by simp; omega
          have hk1 : k + 1 < n := by omega
          have hkm : k < m := by omega
          have hkm' : (k : Int) < m := by omega
          obtain ⟨t2, hx2⟩ : ∃ t2, Hid (proof[k + 1]? = some t2) := by
            obtain ⟨_, _, t2, _, _, hx2, _⟩ := HT3.out (k + 1) hk1
            exact ⟨t2, hx2⟩
          obtain ⟨b', o', nm, rfl, hbl', hx', k1⟩ := HP3.out k hkm
          have HNX := hid (drop_cons hx2.out)
          have HE := hid (show onWay z (nm :: parts.drop (k + 1)) (t :: t2 :: proof.drop (k + 1 + 1)) = R by rw [← drop_cons hx'.out, ← HNX.out]; exact HD.out)
          obtain ⟨F, hF⟩ : ∃ F, readFolder (bs t) = F := ⟨_, rfl⟩
          have HF := hid hF
          have HES := hid (show entsOf (bs t) = F.getD [] by unfold entsOf; rw [hF])
          have HK1 := hid k1
          clear hF k1 hlast
          go_wp2_with (first | (go_at_call 109; refine (impl_PrintOf_e _ _ HZ.out).mono ?_; rintro e w7 ⟨rfl, rfl⟩) | fail)
          refine (impl_ReadFolder_c t _ HTS.out (HG.out.on hb)).mono ?_
          rw [HES.out, HF.out]
          rintro e w3 ⟨lv, rfl, o3, b3⟩
          have d3 := bl_then hb b3
          have j1 := (d3.cell (p := ⟨b', o' + k, none⟩) hbl').trans HK1.out
          cases F with
          | none =>
            obtain rfl : R = false := by rw [← HE.out]; exact onWay_nof HF.out
            clear o3 b3
            go_wp2
            go_ret
            exact ⟨rfl, d3⟩
          | some es =>
            have L3 : Hid (Ents w3 w3.heap.size lv es) := hid (Rd.of_own o3)
            have HEO := hid (readFolder_some HF.out).1
            obtain ⟨Q, hQ⟩ : ∃ Q, firstOf es nm = Q := ⟨_, rfl⟩
            have HQ := hid hQ
            obtain ⟨n3, hn3⟩ : ∃ n3, es.length = n3 := ⟨_, rfl⟩
            obtain ⟨la, lc, rfl, _, _, _⟩ := L3.out.ents hn3
            clear o3 b3 hQ hn3
            go_wp2_with fail
            refine (impl_printNamed_c _ es nm _ Q HQ.out L3.out HEO.out).mono ?_
            rintro e w4 ⟨rfl, b4⟩
            have d4 := bl_then d3 b4
            clear b4 j1 d3
            cases Q with
            | none =>
              obtain rfl : R = false := by rw [← HE.out]; exact onWay_non HF.out HQ.out
              go_wp2
              go_ret
              exact ⟨rfl, d4⟩
            | some c =>
              have HNN := hid (show onWay c (parts.drop (k + 1)) (proof.drop (k + 1)) = R by rw [HNX.out, ← HE.out]; exact (onWay_on HZ.out HF.out HQ.out).symm)
              go_wp2
              go_roundw
              case rel => exact ⟨k + 1, c, by omega, by go_num, rfl, HNN, d4⟩
              case measure => simp [intOf]; omega
      · obtain rfl : R = false := by rw [← HD.out]; exact onWay_bad (by rw [HZ.out]; exact hzy)
        have hd1 : (z == y) = false := by simpa using hzy
        go_wp2_with (go_at_call 109; refine (impl_PrintOf_e _ _ HZ.out).mono ?_; rintro e w7 ⟨rfl, rfl⟩)
        go_ret
        exact ⟨rfl, hb⟩
    · obtain rfl : R = true := by
        rw [← hw.out, List.drop_of_length_le (l := proof) (by have := HN.out; omega)]
        unfold onWay; rfl
      go_wp2
      go_ret
      exact ⟨rfl, hb⟩

end Go.Proofs.YtachfmlfmpaddaaGreatDoor

/- What is read at a path, and the files below a root, in plain Lean. -/
namespace Go.Proofs.YtachfmlfmpaddaaGreatDoor
open Go.RowKit

theorem joinP_parts {path : List UInt8} {ws : List (List UInt8)} (hp : pathParts path = some ws) : joinP ws = path := (pathParts_in hp).2.2
/-- A path is among the files if and only if it can be read. -/
theorem among_iff {xs : List Pc} {root : Int} {path : List UInt8} {ws : List (List UInt8)} (hs : storeOk xs = true) (hp : pathParts path = some ws) (h0 : ws ≠ []) : strL path ∈ allFiles xs root ↔ (readAt xs root path).2 = true := by
  obtain ⟨h3, hw, hj⟩ := pathParts_in hp
  have hbs : (ws.map strL).map bs = ws := strs_bs ws
  unfold allFiles
  rw [if_pos hs, below_mem, read_way hs hp]
  constructor
  · rintro ⟨us, _, hl, hf, he⟩
    have e2 : joinP ((ws.map strL).map bs) = joinP (us.map bs) := by
      have := congrArg bs he
      rw [bs_strL, bs_strL] at this
      rw [hbs, hj]; simpa using this
    have := join_inj (by simpa using h3) hl (fun x hx => by obtain ⟨y, hy, rfl⟩ := List.mem_map.1 hx; rw [bs_strL]; exact hw y hy) (fileWay_words us root hf) e2
    rw [this]; exact hf
  · intro hf
    exact ⟨ws.map strL, by simpa using h0, by simpa using h3, hf, by rw [List.nil_append, hbs, hj]⟩
theorem allFiles_once {xs : List Pc} {root : Int} : (allFiles xs root).Pairwise (fun a b => a ≠ b) := by
  unfold allFiles
  split
  · exact below_once 3 root [] (by simp) (by simp)
  · simp

end Go.Proofs.YtachfmlfmpaddaaGreatDoor

/- Walks: ways through folders, the reference's way. -/
namespace Go.Proofs.YtachfmlfmpaddaaGreatDoor
open Go.RowKit

set_option maxHeartbeats 2000000 in
set_option maxRecDepth 100000 in
theorem spec_WalkTo_c (v : Value) (xs : List Pc) (root : Int) (path : ByteArray) (w : World) (R : Int × Bool) (hR : walkTo xs root (bs path) = R) (h : Pcs w w.heap.size v xs) (hx0 : ∀ x ∈ xs, x.text.size ≤ 1048576) (hl0 : xs.length ≤ 1048576) (hp0 : path.size ≤ 900) :
    Calls Tryz.prog 57 #[v, .int .i64 root, .string path] w fun e w' => e = .returned (.tuple #[.int .i64 R.1, .bool R.2]) ∧ Below w.heap.size w w' := by
  have HH := hid h
  have HR := hid hR
  have HX := hid hx0
  have HL := hid hl0
  obtain ⟨P, hP⟩ : ∃ P, pathParts (bs path) = P := ⟨_, rfl⟩
  have HP := hid hP
  clear h hR hx0 hl0 hP
  cases P with
  | none =>
    obtain rfl : R = (-1, false) := by rw [← HR.out]; exact walk_off (.inr HP.out)
    go_enter Tryz.func57, Tryz.ntmps57
    go_wp2_with fail
    refine (spec_PathParts_c path _ hp0).mono ?_
    rw [HP.out]
    rintro e w1 ⟨pv, rfl, o1, b1⟩
    clear o1
    go_wp2
    go_ret2
    exact ⟨rfl, b1⟩
  | some ws =>
    obtain ⟨k, hk⟩ : ∃ k, storeOk xs = k := ⟨_, rfl⟩
    have HK := hid hk
    cases k
    · obtain rfl : R = (-1, false) := by rw [← HR.out]; exact walk_off (.inl hk)
      clear hk
      go_enter Tryz.func57, Tryz.ntmps57
      go_wp2_with fail
      refine (spec_PathParts_c path _ hp0).mono ?_
      rw [HP.out]
      rintro e w1 ⟨pv, rfl, o1, b1⟩
      clear o1
      go_wp2_with fail
      refine (spec_StoreValid_c _ xs _ _ (HH.out.on b1) HX.out HL.out).mono ?_
      rw [HK.out]
      rintro e w2 ⟨rfl, z, rfl⟩
      have d2 := bl_drewN b1 z
      clear b1
      go_wp2
      go_ret2
      exact ⟨rfl, d2⟩
    · have HW := hid (show walkAt xs root (ws.map strL) = R by rw [← HR.out]; exact (walk_on hk HP.out).symm)
      clear hk HR
      go_enter Tryz.func57, Tryz.ntmps57
      go_wp2_with fail
      refine (spec_PathParts_c path _ hp0).mono ?_
      rw [HP.out]
      rintro e w1 ⟨pv, rfl, o1, b1⟩
      have R1 : Hid (Strs w1 w1.heap.size pv (ws.map strL)) := hid (Rd.of_own o1)
      clear o1
      go_wp2_with fail
      refine (spec_StoreValid_c _ xs _ _ (HH.out.on b1) HX.out HL.out).mono ?_
      rw [HK.out]
      rintro e w2 ⟨rfl, z, rfl⟩
      have d2 := bl_drewN b1 z
      have R2 := hid (R1.out.drewN z)
      clear b1 R1
      go_wp2_with fail
      refine (spec_l9Walk_c _ _ xs root (ws.map strL) _ R HW.out (HH.out.on d2) HK.out R2.out).mono ?_
      rintro e w3 ⟨rfl, b3⟩
      have d3 := bl_then d2 b3
      clear b3 d2
      go_wp2
      go_ret2
      exact ⟨rfl, d3⟩

set_option maxHeartbeats 2000000 in
set_option maxRecDepth 100000 in
theorem spec_GetText_c (v : Value) (xs : List Pc) (y : Int) (w : World) (h : Pcs w w.heap.size v xs) (hx0 : ∀ x ∈ xs, x.text.size ≤ 1048576) (hl0 : xs.length ≤ 1048576) :
    Calls Tryz.prog 123 #[v, .int .i64 y] w fun e w' => e = .returned (.tuple #[.string (getText xs y).1, .bool (getText xs y).2]) ∧ ∃ z, w' = w.drewN z := by
  have HH := hid h
  obtain ⟨k, hk⟩ : ∃ k, storeOk xs = k := ⟨_, rfl⟩
  have HK := hid hk
  have HX := hid hx0
  have HL := hid hl0
  clear h hx0 hl0
  cases k
  · have HO := hid (getText_off hk y)
    clear hk
    go_enter Tryz.func123, Tryz.ntmps123
    go_wp2_with fail
    refine (spec_StoreValid_c _ xs _ _ HH.out HX.out HL.out).mono ?_
    rw [HK.out]
    rintro e w2 ⟨rfl, z, rfl⟩
    go_wp2
    go_ret2
    exact ⟨by rw [HO.out]; rfl, z, rfl⟩
  · have HO := hid (getText_on hk y)
    clear hk
    go_enter Tryz.func123, Tryz.ntmps123
    go_wp2_with fail
    refine (spec_StoreValid_c _ xs _ _ HH.out HX.out HL.out).mono ?_
    rw [HK.out]
    rintro e w2 ⟨rfl, z, rfl⟩
    have h2 := hid (HH.out.drewN z)
    go_wp2_with fail
    refine (spec_l4Get_c _ xs y _ _ h2.out).mono ?_
    rintro e w3 ⟨rfl, rfl⟩
    go_wp2
    go_ret2
    exact ⟨by rw [HO.out]; rfl, z, rfl⟩

set_option maxHeartbeats 2000000 in
set_option maxRecDepth 100000 in
theorem spec_ReadAt_c (v : Value) (xs : List Pc) (root : Int) (path : ByteArray) (w : World) (h : Pcs w w.heap.size v xs) (hx0 : ∀ x ∈ xs, x.text.size ≤ 1048576) (hl0 : xs.length ≤ 1048576) (hp0 : path.size ≤ 900) :
    Calls Tryz.prog 60 #[v, .int .i64 root, .string path] w fun e w' => e = .returned (.tuple #[.string (strL (readAt xs root (bs path)).1), .bool (readAt xs root (bs path)).2]) ∧ Below w.heap.size w w' := by
  have HH := hid h
  have HX := hid hx0
  have HL := hid hl0
  obtain ⟨⟨y, ok⟩, hR⟩ : ∃ R, walkTo xs root (bs path) = R := ⟨_, rfl⟩
  have HR := hid hR
  have hRA := hid (show readAt xs root (bs path) = if ok = true then (fileC (textAt xs y), isFile (textAt xs y)) else ([], false) by unfold readAt; rw [hR])
  clear h hx0 hl0
  cases ok
  · clear hR
    go_enter Tryz.func60, Tryz.ntmps60
    go_wp2_with fail
    refine (spec_WalkTo_c _ xs root path _ _ HR.out HH.out HX.out HL.out hp0).mono ?_
    rintro e w1 ⟨rfl, b1⟩
    go_wp2_with fail
    refine (spec_GetText_c _ xs y _ (HH.out.on b1) HX.out HL.out).mono ?_
    rintro e w2 ⟨rfl, z, rfl⟩
    have d2 := bl_drewN b1 z
    clear b1
    go_wp2
    go_ret2
    exact ⟨by rw [hRA.out]; rfl, d2⟩
  · have hs : storeOk xs = true := by
      cases hok : storeOk xs
      · rw [walk_off (.inl hok)] at hR; cases hR
      · rfl
    have HS := hid hs
    have HT := hid (text_small hs y)
    have HG := hid (getText_on hs y)
    obtain ⟨T, hT⟩ : ∃ T, (getP xs y).getD ByteArray.empty = T := ⟨_, rfl⟩
    rw [hT] at HT HG
    have HTX := hid (show textAt xs y = bs T by unfold textAt; rw [hT])
    clear hR hT hs
    go_enter Tryz.func60, Tryz.ntmps60
    go_wp2_with fail
    refine (spec_WalkTo_c _ xs root path _ _ HR.out HH.out HX.out HL.out hp0).mono ?_
    rintro e w1 ⟨rfl, b1⟩
    go_wp2_with fail
    refine (spec_GetText_c _ xs y _ (HH.out.on b1) HX.out HL.out).mono ?_
    rw [HG.out]
    rintro e w2 ⟨rfl, z, rfl⟩
    have d2 := bl_drewN b1 z
    clear b1
    go_wp2_with fail
    refine (spec_ReadFile_e T _ (Nat.le_trans HT.out (by omega))).mono ?_
    rintro e w3 ⟨rfl, rfl⟩
    go_wp2
    go_ret2
    exact ⟨by rw [hRA.out, HTX.out]; rfl, d2⟩

end Go.Proofs.YtachfmlfmpaddaaGreatDoor
