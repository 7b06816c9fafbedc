/- Walks and plain facts, joined: PathP', ProofS'. -/
import Derived.Test.YtachfmlfmpaddaaGreatDoorMg2
import Derived.Test.YtachfmlfmpaddaaGreatDoorMg3
import Derived.Test.YtachfmlfmpaddaaGreatDoorMg4
import Derived.Test.YtachfmlfmpaddaaGreatDoorMg5
import Derived.Test.YtachfmlfmpaddaaGreatDoorMg7
import Derived.Test.YtachfmlfmpaddaaGreatDoorMg8
import Derived.Test.YtachfmlfmpaddaaGreatDoorMg9
import Derived.Test.YtachfmlfmpaddaaGreatDoorMg10
import Derived.Test.YtachfmlfmpaddaaGreatDoorMg11
import Derived.Test.YtachfmlfmpaddaaGreatDoorMg12
import Derived.Test.YtachfmlfmpaddaaGreatDoorMg13
import Derived.Test.YtachfmlfmpaddaaGreatDoorMg14
import Derived.Test.YtachfmlfmpaddaaGreatDoorMg15
import Derived.Test.YtachfmlfmpaddaaGreatDoorMg16
import Derived.Test.YtachfmlfmpaddaaGreatDoorMg17
import Derived.Test.YtachfmlfmpaddaaGreatDoorMg18
import Derived.Test.YtachfmlfmpaddaaGreatDoorMg22
import Derived.Test.YtachfmlfmpaddaaGreatDoorMg23
import Derived.Test.YtachfmlfmpaddaaGreatDoorMg24
import Derived.Test.YtachfmlfmpaddaaGreatDoorMg25
import Derived.Test.YtachfmlfmpaddaaGreatDoorMg27
import Derived.Test.YtachfmlfmpaddaaGreatDoorMg28
import Derived.Test.YtachfmlfmpaddaaGreatDoorMg30
import Derived.Test.YtachfmlfmpaddaaGreatDoorMg31
import Derived.Test.YtachfmlfmpaddaaGreatDoorMg33
import Derived.Test.YtachfmlfmpaddaaGreatDoorMg36
import Derived.Test.YtachfmlfmpaddaaGreatDoorMg41
set_option linter.unusedVariables false
set_option linter.unusedSimpArgs false

/- Walks: proofs of paths and of their absence, the program's way. -/
namespace Go.Proofs.YtachfmlfmpaddaaGreatDoor
open Go.RowKit

theorem wayT_cons (xs : List Pc) : ∀ (ws : List ByteArray) (pr : Int), ∃ tl, wayT xs pr ws = txA xs pr :: tl
  | [], pr => ⟨[], rfl⟩
  | nm :: r, pr => ⟨_, rfl⟩
theorem wayT_tail {xs : List Pc} {pr : Int} {nm : ByteArray} {r tl : List ByteArray} (h : wayT xs pr (nm :: r) = txA xs pr :: tl) : tl = wayT xs ((firstOf (entsOf (bs (txA xs pr))) nm).getD (-1)) r := by
  unfold wayT at h
  rw [List.cons.injEq] at h
  exact h.2.symm
theorem absW_no {xs : List Pc} {pr : Int} {nm : ByteArray} {r : List ByteArray} (h : folderAt xs pr = none) : absW xs pr (nm :: r) = none := by unfold absW; rw [h]
theorem absW_off {xs : List Pc} {pr : Int} {nm : ByteArray} {r : List ByteArray} {es : List Ent} (h : folderAt xs pr = some es) (hq : firstOf es nm = none) : absW xs pr (nm :: r) = some [txA xs pr] := by unfold absW; rw [h]; simp only [hq]
theorem absW_on {xs : List Pc} {pr c : Int} {nm : ByteArray} {r : List ByteArray} {es : List Ent} (h : folderAt xs pr = some es) (hq : firstOf es nm = some c) : absW xs pr (nm :: r) = (absW xs c r).map (txA xs pr :: ·) := by
  conv => lhs; unfold absW
  rw [h]; simp only [hq]

set_option maxHeartbeats 2000000 in
set_option maxRecDepth 100000 in
theorem impl_PathProof_c (v : Value) (xs : List Pc) (root : Int) (path : ByteArray) (w : World) (R : List ByteArray) (hR : pathProof xs root (bs path) = R) (h : Pcs w w.heap.size v xs) (hp0 : path.size ≤ 1000) (hg : Glob w) (hm : Mx w) :
    Calls Tryz.prog 19 #[v, .int .i64 root, .string path] w fun e w' => ∃ v', e = .returned v' ∧ OwnS w' w.heap.size v' R ∧ Below w.heap.size w w' := by
  have HP : Hid (∀ wx, Below w.heap.size w wx → Pcs wx wx.heap.size v xs) := hid fun wx hx => h.on hx
  have HG : Hid (∀ wx, Below w.heap.size w wx → Glob wx) := hid fun wx hx => hg.on hx
  have HM : Hid (∀ wx, Below w.heap.size w wx → Mx wx) := hid fun wx hx => hm.on hx
  have r0 : Below w.heap.size w w := Below.refl _ _
  obtain ⟨⟨y0, ok⟩, hW⟩ : ∃ W, walkTo xs root (bs path) = W := ⟨_, rfl⟩
  have HW := hid hW
  cases ok
  · have HR := hid (show R = [] by rw [← hR]; exact proof_off (by rw [hW]))
    clear h hg hm hR hW
    go_enter Tryz.func19, Tryz.ntmps19
    go_wp2_with fail
    refine (impl_WalkTo_c _ xs root path _ _ HW.out (HP.out _ r0) hp0 (HG.out _ r0) (HM.out _ r0)).mono ?_
    rintro e w1 ⟨rfl, b1⟩
    go_wp2
    go_ret
    exact ⟨_, rfl, by rw [HR.out]; exact Own.nil_, b1⟩
  obtain ⟨ws, c, hs, hp, _, hwa, hR2⟩ := proof_on (show (walkTo xs root (bs path)).2 = true by rw [hW])
  obtain ⟨m, hml⟩ : ∃ m, (ws.map strL).length = m := ⟨_, rfl⟩
  have HML := hid hml
  have hm3 : m ≤ 3 := by rw [← hml]; exact (parts_small hp).2
  have HR := hid (show wayT xs root (ws.map strL) = R by rw [← hR2, hR])
  have HPA := hid hp
  have HS := hid hs
  clear h hg hm hR hW hp hs hwa hR2 hml
  go_enter Tryz.func19, Tryz.ntmps19
  go_wp2_with fail
  refine (impl_WalkTo_c _ xs root path _ _ HW.out (HP.out _ r0) hp0 (HG.out _ r0) (HM.out _ r0)).mono ?_
  rintro e w1 ⟨rfl, b1⟩
  go_wp2_with fail
  refine (impl_PathParts_c path _ hp0 (HM.out _ b1)).mono ?_
  rw [HPA.out]
  rintro e w2 ⟨pv, rfl, o2, b2⟩
  have r2 : Strs w2 w2.heap.size pv (ws.map strL) := Rd.of_own o2
  obtain ⟨pa, pc, rfl, _, _, hp3⟩ := r2.strs HML.out
  have d2 := bl_then b1 b2
  clear o2 b2 r2
  go_wp2_with fail
  refine (impl_textOf_c _ xs root _ (HP.out _ d2) HS.out).mono ?_
  rintro e w3 ⟨rfl, b3⟩
  have d3 := bl_then d2 b3
  have hp4 : ∀ i, i < m → ∃ b o x, pa = some ⟨b, o, none⟩ ∧ b < w3.heap.size ∧ Hid ((ws.map strL)[i]? = some x) ∧ w3.cell? ⟨b, o + i, none⟩ = some (.string x) := by
    intro i hi
    obtain ⟨b, o, x, ha, hb, hx, hc⟩ := hp3 i hi
    exact ⟨b, o, x, ha, Nat.lt_of_lt_of_le hb b3.size, hx, (b3.cell (p := ⟨b, o + i, none⟩) hb).trans hc⟩
  have HP4 := hid hp4
  have HD3 := hid d3
  obtain ⟨W4, hW4⟩ : ∃ W4, W4 = w3.alloc (.cells #[.string (txA xs root)] 9) := ⟨_, rfl⟩
  have o4 : OwnS W4 w3.heap.size (.slice (some ⟨w3.heap.size, 0, none⟩) 1 1) [txA xs root] := by rw [hW4]; exact Own.lit _ (Nat.le_refl _) [_] _ 1 rfl rfl rfl (by decide)
  have b4 : Below w3.heap.size w3 W4 := by rw [hW4]; exact (Below.refl _ _).alloc (Nat.le_refl _) _
  have HTX := hid (show (getP xs root).getD ByteArray.empty = txA xs root from rfl)
  have s3 := d3.size
  clear hp3 hp4 b3 d2 d3
  rw [HTX.out]
  go_wp2_with fail
  go_loopw [11, 13, 15, 16, 17, 18, 19, 44] (fun tx out _ _ _ _ _ iv wr => ∃ (k : Nat) (y : Int) (acc tl : List ByteArray), k ≤ m ∧ iv = .int .i64 k ∧ tx = .string (txA xs y) ∧ OwnS wr w3.heap.size out acc ∧ Hid (wayT xs y ((ws.map strL).drop k) = txA xs y :: tl ∧ acc ++ tl = R) ∧ acc.length ≤ k + 1 ∧ Below w3.heap.size w3 wr) (fun _ _ _ _ _ _ _ iv _ => m - (intOf iv).toNat)
  case atStart =>
    obtain ⟨tl, htl⟩ := wayT_cons xs (ws.map strL) root
    exact ⟨0, root, [txA xs root], tl, Nat.zero_le _, rfl, rfl, by rw [← hW4]; exact o4, hid ⟨by simpa using htl, by rw [← HR.out, htl]; rfl⟩, by simp, by rw [← hW4]; exact b4⟩
  case round =>
    obtain ⟨k, y, acc, tl, hk, rfl, rfl, hown, hwt, hlen, hb⟩ := hrel
    clear o4 b4 hW4
    by_cases hlt : k < m
    · obtain ⟨b, o, nm, rfl, hbl, hx, k0⟩ := HP4.out k hlt
      have j0 := (hb.cell (p := ⟨b, o + k, none⟩) hbl).trans k0
      have hkm : (k : Int) < m := by omega
      have HT := hid (show (txA xs y).size ≤ 1048576 from Nat.le_trans (txA_small HS.out y) (by omega))
      obtain ⟨q, hq⟩ : ∃ q, (firstOf (entsOf (bs (txA xs y))) nm).getD (-1) = q := ⟨_, rfl⟩
      obtain ⟨F, hF⟩ : ∃ F, firstOf (entsOf (bs (txA xs y))) nm = F := ⟨_, rfl⟩
      have HF := hid hF
      have HQ := hid (show F.getD (-1) = q by rw [← hF]; exact hq)
      have HTL := hid (show tl = wayT xs q ((ws.map strL).drop (k + 1)) by
        have h1 := hwt.out.1
        rw [drop_cons hx.out] at h1
        rw [wayT_tail h1, hq])
      have HEO := hid (entsOf_ok (bs (txA xs y)))
      obtain ⟨n3, hn3⟩ : ∃ n3, (entsOf (bs (txA xs y))).length = n3 := ⟨_, rfl⟩
      have HN3 := hid hn3
      clear k0 hq hF hn3
      go_wp2_with fail
      refine (impl_ReadFolder_c (txA xs y) _ HT.out (HG.out _ (bl_then HD3.out hb))).mono ?_
      rintro e w5 ⟨lv, rfl, o5, b5⟩
      have d5 := bl_then hb b5
      have own5 := hown.on b5
      have L5 := hid (Rd.of_own o5)
      obtain ⟨la, lc, rfl, _, _, _⟩ := (Rd.of_own o5).ents HN3.out
      clear o5 b5 hown
      go_wp2_with fail
      refine (impl_printNamed_c _ _ nm _ F HF.out L5.out HEO.out).mono ?_
      rw [HQ.out]
      rintro e w6 ⟨rfl, b6⟩
      have d6 := bl_then d5 b6
      have own6 := own5.on b6
      clear b6 d5 own5
      go_wp2_with fail
      refine (impl_textOf_c _ xs q _ (HP.out _ (bl_then HD3.out d6)) HS.out).mono ?_
      rintro e w7 ⟨rfl, b7⟩
      have d7 := bl_then d6 b7
      have own7 := own6.on b7
      have hB7 := d7.size
      have HTQ := hid (show (getP xs q).getD ByteArray.empty = txA xs q from rfl)
      rw [HTQ.out]
      clear b7 d6 own6
      go_wp2_with (at_builtin; refine push_str (w0 := w3) rfl _ _ rfl w3.heap.size w3.heap.size _ _ _ own7 d7 hB7 (Nat.le_refl _) rfl rfl (by omega) ?_; intro v' w' hown' hb' hB' _)
      go_roundw
      case rel =>
        obtain ⟨tl2, htl2⟩ := wayT_cons xs ((ws.map strL).drop (k + 1)) q
        refine ⟨k + 1, q, _, tl2, by omega, by go_num, rfl, hown', hid ⟨htl2, ?_⟩, by simp; omega, hb'⟩
        rw [← hwt.out.2, HTL.out, htl2]; simp
      case measure => simp [intOf]; omega
    · have HA := hid (show acc = R by
        have h1 := hwt.out.1
        rw [List.drop_of_length_le (by have := HML.out; omega)] at h1
        have h2 : tl = [] := by unfold wayT at h1; rw [List.cons.injEq] at h1; exact h1.2.symm
        rw [← hwt.out.2, h2, List.append_nil])
      have d9 := bl_then HD3.out hb
      go_wp2
      go_ret
      exact ⟨_, rfl, by rw [← HA.out]; exact hown.less s3, d9⟩

set_option maxHeartbeats 2000000 in
set_option maxRecDepth 100000 in
theorem impl_AbsenceProof_c (v : Value) (xs : List Pc) (root : Int) (path : ByteArray) (w : World) (R : List ByteArray) (hR : absProof xs root (bs path) = R) (h : Pcs w w.heap.size v xs) (hp0 : path.size ≤ 1000) (hg : Glob w) (hm : Mx w) :
    Calls Tryz.prog 27 #[v, .int .i64 root, .string path] w fun e w' => ∃ v', e = .returned v' ∧ OwnS w' w.heap.size v' R ∧ Below w.heap.size w w' := by
  have HP : Hid (∀ wx, Below w.heap.size w wx → Pcs wx wx.heap.size v xs) := hid fun wx hx => h.on hx
  have HG : Hid (∀ wx, Below w.heap.size w wx → Glob wx) := hid fun wx hx => hg.on hx
  have HM : Hid (∀ wx, Below w.heap.size w wx → Mx wx) := hid fun wx hx => hm.on hx
  have r0 : Below w.heap.size w w := Below.refl _ _
  have HR0 := hid hR
  obtain ⟨P, hPP⟩ : ∃ P, pathParts (bs path) = P := ⟨_, rfl⟩
  have HPA := hid hPP
  clear h hg hm hR hPP
  cases P with
  | none =>
    have HR := hid (show R = [] by rw [← HR0.out]; unfold absProof; rw [HPA.out])
    go_enter Tryz.func27, Tryz.ntmps27
    go_wp2_with fail
    refine (impl_PathParts_c path _ hp0 (HM.out _ r0)).mono ?_
    rw [HPA.out]
    rintro e w2 ⟨pv, rfl, o2, b2⟩
    clear o2
    go_wp2
    go_ret
    exact ⟨_, rfl, by rw [HR.out]; exact Own.nil_, b2⟩
  | some ws =>
    cases hok : storeOk xs
    · have HR := hid (show R = [] by rw [← HR0.out]; unfold absProof; rw [HPA.out, hok]; rfl)
      have HK := hid hok
      clear hok
      go_enter Tryz.func27, Tryz.ntmps27
      go_wp2_with fail
      refine (impl_PathParts_c path _ hp0 (HM.out _ r0)).mono ?_
      rw [HPA.out]
      rintro e w2 ⟨pv, rfl, o2, b2⟩
      clear o2
      go_wp2_with fail
      refine (impl_StoreValid_c _ xs _ (HP.out _ b2)).mono ?_
      rw [HK.out]
      rintro e w3 ⟨rfl, b3⟩
      have d3 := bl_then b2 b3
      clear b2 b3
      go_wp2
      go_ret
      exact ⟨_, rfl, by rw [HR.out]; exact Own.nil_, d3⟩
    have HS := hid hok
    obtain ⟨m, hml⟩ : ∃ m, (ws.map strL).length = m := ⟨_, rfl⟩
    have HML := hid hml
    have hm3 : m ≤ 3 := by rw [← hml]; exact (parts_small HPA.out).2
    have HR := hid (show (absW xs root (ws.map strL)).getD [] = R by rw [← HR0.out]; unfold absProof; rw [HPA.out, hok]; rfl)
    clear hok hml HR0
    go_enter Tryz.func27, Tryz.ntmps27
    go_wp2_with fail
    refine (impl_PathParts_c path _ hp0 (HM.out _ r0)).mono ?_
    rw [HPA.out]
    rintro e w2 ⟨pv, rfl, o2, b2⟩
    have r2 : Strs w2 w2.heap.size pv (ws.map strL) := Rd.of_own o2
    obtain ⟨pa, pc, rfl, _, _, hp3⟩ := r2.strs HML.out
    clear o2 r2
    go_wp2_with fail
    refine (impl_StoreValid_c _ xs _ (HP.out _ b2)).mono ?_
    rw [HS.out]
    rintro e w3 ⟨rfl, b3⟩
    have d3 := bl_then b2 b3
    have hp4 : ∀ i, i < m → ∃ b o x, pa = some ⟨b, o, none⟩ ∧ b < w3.heap.size ∧ Hid ((ws.map strL)[i]? = some x) ∧ w3.cell? ⟨b, o + i, none⟩ = some (.string x) := by
      intro i hi
      obtain ⟨b, o, x, ha, hb, hx, hc⟩ := hp3 i hi
      exact ⟨b, o, x, ha, Nat.lt_of_lt_of_le hb b3.size, hx, (b3.cell (p := ⟨b, o + i, none⟩) hb).trans hc⟩
    have HP4 := hid hp4
    have HD3 := hid d3
    have s3 := d3.size
    clear hp3 hp4 b3 b2 d3
    go_wp2
    go_loopw [9, 10, 12, 13, 14, 15, 16, 32] (fun out at_ _ _ _ _ _ iv wr => ∃ (k : Nat) (y : Int) (acc : List ByteArray), k ≤ m ∧ iv = .int .i64 k ∧ at_ = .int .i64 y ∧ OwnS wr w3.heap.size out acc ∧ Hid (((absW xs y ((ws.map strL).drop k)).map (acc ++ ·)).getD [] = R) ∧ acc.length ≤ k ∧ Below w3.heap.size w3 wr) (fun _ _ _ _ _ _ _ iv _ => m - (intOf iv).toNat)
    case atStart => exact ⟨0, root, [], Nat.zero_le _, rfl, rfl, Own.nil_, hid (by rw [← HR.out]; simp), by simp, Below.refl _ _⟩
    case round =>
      obtain ⟨k, y, acc, hk, rfl, rfl, hown, hwt, hlen, hb⟩ := hrel
      by_cases hlt : k < m
      · obtain ⟨b, o, nm, rfl, hbl, hx, k0⟩ := HP4.out k hlt
        have j0 := (hb.cell (p := ⟨b, o + k, none⟩) hbl).trans k0
        have hkm : (k : Int) < m := by omega
        have HT := hid (show (txA xs y).size ≤ 1048576 from Nat.le_trans (txA_small HS.out y) (by omega))
        have HTQ := hid (show (getP xs y).getD ByteArray.empty = txA xs y from rfl)
        have HWT := hid (show ((absW xs y (nm :: (ws.map strL).drop (k + 1))).map (acc ++ ·)).getD [] = R by rw [← drop_cons hx.out]; exact hwt.out)
        obtain ⟨p, hp⟩ : ∃ p, hasP xs y = p := ⟨_, rfl⟩
        have HHP := hid hp
        clear k0 hp hwt
        cases p
        · have HRN := hid (show R = [] by rw [← HWT.out, absW_no (folderAt_none HHP.out)]; rfl)
          go_wp2_with fail
          refine (impl_textOf_c _ xs y _ (HP.out _ (bl_then HD3.out hb)) HS.out).mono ?_
          rw [HHP.out]
          rintro e w5 ⟨rfl, b5⟩
          have d5 := bl_then HD3.out (bl_then hb b5)
          go_wp2
          go_ret
          exact ⟨_, rfl, by rw [HRN.out]; exact Own.nil_, d5⟩
        obtain ⟨F, hF⟩ : ∃ F, folderAt xs y = F := ⟨_, rfl⟩
        have HF := hid hF
        have HFF := hid (show readFolder (bs (txA xs y)) = F by rw [bs_txA, folderAt_text]; exact hF)
        have HES := hid (show entsOf (bs (txA xs y)) = F.getD [] by rw [bs_txA, entsOf_at, hF])
        clear hF
        go_wp2_with fail
        refine (impl_textOf_c _ xs y _ (HP.out _ (bl_then HD3.out hb)) HS.out).mono ?_
        rw [HHP.out, HTQ.out]
        rintro e w5 ⟨rfl, b5⟩
        have d5 := bl_then hb b5
        have own5 := hown.on b5
        clear b5 hown
        go_wp2_with fail
        refine (impl_ReadFolder_c (txA xs y) _ HT.out (HG.out _ (bl_then HD3.out d5))).mono ?_
        rw [HFF.out, HES.out]
        rintro e w6 ⟨lv, rfl, o6, b6⟩
        have d6 := bl_then d5 b6
        have own6 := own5.on b6
        have hlt5 := hid own5.lt
        clear b6 own5
        cases F with
        | none =>
          have HRN := hid (show R = [] by rw [← HWT.out, absW_no HF.out]; rfl)
          have d9 := bl_then HD3.out d6
          clear o6
          go_wp2
          go_ret
          exact ⟨_, rfl, by rw [HRN.out]; exact Own.nil_, d9⟩
        | some es =>
          have L6 := Rd.of_own o6
          obtain ⟨n3, hn3⟩ : ∃ n3, es.length = n3 := ⟨_, rfl⟩
          have HN3 := hid hn3
          obtain ⟨la, lc, rfl, _, _, _⟩ := L6.ents hn3
          have HEO := hid (folderAt_ok HF.out)
          have hB6 := d6.size
          obtain ⟨Q, hQ⟩ : ∃ Q, firstOf es nm = Q := ⟨_, rfl⟩
          have HQ := hid hQ
          have HJ6 := hid ((d6.cell (p := ⟨b, o + k, none⟩) hbl))
          have HO6 := hid o6
          clear o6 hn3 hQ L6
          go_wp2_with (at_builtin; refine push_str (w0 := w3) rfl _ _ rfl w3.heap.size w3.heap.size _ _ _ own6 d6 hB6 (Nat.le_refl _) rfl rfl (by omega) ?_; intro v7 w7 hown7 hb7 hB7 hg7)
          have L7 : Ents w7 w7.heap.size (.slice la n3 lc) es := by
            have h1 := HO6.out.kept hg7.1 (by
              cases hv : Value.ownBlock (.slice la n3 lc) with
              | none => exact .inl rfl
              | some g => exact .inr (fun e => by have h2 := (HO6.out.lt g hv).1; have h3 := (hlt5.out g e.symm).2; omega))
            exact Rd.of_own h1
          refine (impl_printNamed_c _ es nm _ Q HQ.out L7 HEO.out).mono ?_
          rintro e w8 ⟨rfl, b8⟩
          have d8 := bl_then hb7 b8
          have own8 := hown7.on b8
          cases Q with
          | none =>
            have HRN := hid (show R = acc ++ [txA xs y] by rw [← HWT.out, absW_off HF.out HQ.out]; rfl)
            have d9 := bl_then HD3.out d8
            clear b8 hown7 hb7
            go_wp2
            go_ret
            exact ⟨_, rfl, by rw [HRN.out]; exact own8.less s3, d9⟩
          | some q =>
            have HWN := hid (show ((absW xs q ((ws.map strL).drop (k + 1))).map ((acc ++ [txA xs y]) ++ ·)).getD [] = R by
              rw [← HWT.out, absW_on HF.out HQ.out, Option.map_map]
              congr 2
              funext z; simp)
            clear b8 hown7 hb7
            go_wp2
            go_roundw
            case rel => exact ⟨k + 1, q, _, by omega, by go_num, rfl, own8, HWN, by simp; omega, d8⟩
            case measure => simp [intOf]; omega
      · have HRN := hid (show R = [] by
          rw [← hwt.out, List.drop_of_length_le (by have := HML.out; omega)]
          rfl)
        have d9 := bl_then HD3.out hb
        go_wp2
        go_ret
        exact ⟨_, rfl, by rw [HRN.out]; exact Own.nil_, d9⟩

end Go.Proofs.YtachfmlfmpaddaaGreatDoor

/- Walks: texts on a way, what they prove, proofs: the reference's way. -/
namespace Go.Proofs.YtachfmlfmpaddaaGreatDoor
open Go.RowKit

theorem printOf_ne2 (l : List UInt8) : printOf l ≠ -2 := by
  cases h : textOk l
  · rw [printOf_off h]; decide
  · have := (pv_iff.1 (printOf_in h)).1; omega
theorem way_next {y : Int} {nm t t2 : ByteArray} {q r : List ByteArray} {R : Bool} (h : onWay y (nm :: q) (t :: t2 :: r) = R) (hp : printOf (bs t) = y) : onWay ((firstOf (entsOf (bs t)) nm).getD (-2)) q (t2 :: r) = R := by
  cases hf : readFolder (bs t) with
  | none =>
    rw [onWay_nof hf] at h
    rw [← h]
    have : entsOf (bs t) = [] := by unfold entsOf; rw [hf]; rfl
    rw [this]
    exact onWay_bad (printOf_ne2 _)
  | some es =>
    have he : entsOf (bs t) = es := by unfold entsOf; rw [hf]; rfl
    rw [he]
    cases hq : firstOf es nm with
    | none => rw [onWay_non hf hq] at h; rw [← h]; exact onWay_bad (printOf_ne2 _)
    | some c => rw [onWay_on hp hf hq] at h; exact h

set_option maxHeartbeats 2000000 in
set_option maxRecDepth 100000 in
theorem spec_l12Way_c (root : Int) (pv tv : Value) (parts proof : List ByteArray) (w : World) (R : Bool) (hR : onWay root parts proof = R) (hne : proof ≠ []) (hp : Strs w w.heap.size pv parts) (ht : Strs w w.heap.size tv proof) (hl : proof.length ≤ parts.length + 1) (hs : ∀ t ∈ proof, t.size ≤ 1000000) :
    Calls Tryz.prog 73 #[.int .i64 root, pv, tv] w fun e w' => e = .returned (.bool R) ∧ Below w.heap.size w w' := by
  obtain ⟨m, hm⟩ : ∃ m, parts.length = m := ⟨_, rfl⟩
  obtain ⟨n, hn⟩ : ∃ n, proof.length = n := ⟨_, rfl⟩
  obtain ⟨pa, pc, rfl, _, _, hp3⟩ := hp.strs hm
  obtain ⟨ta, tc, rfl, htn, htc, ht3⟩ := ht.strs hn
  have HP3 := hid hp3
  have HT3 := hid ht3
  have HM := hid hm
  have HN := hid hn
  have HS := hid hs
  have HR := hid hR
  have hnm : n ≤ m + 1 := by omega
  have hn0 : 0 < n := by rw [← hn]; exact List.length_pos_iff.2 hne
  have hn63 : n ≤ 9223372036854775807 := by omega
  clear hp ht hp3 ht3 hm hn hs hR hl hne
  go_enter Tryz.func73, Tryz.ntmps73
  go_wp2
  go_loopw [7, 8, 9, 10, 11] (fun q kv _ _ _ wr => ∃ (k : Nat) (y : Int), k < n ∧ kv = .int .i64 k ∧ q = .int .i64 y ∧ Hid (onWay y (parts.drop k) (proof.drop k) = R) ∧ Below w.heap.size w wr) (fun _ kv _ _ _ _ => n - (intOf kv).toNat)
  case atStart => exact ⟨0, root, hn0, rfl, rfl, hid (by simpa using HR.out), Below.refl _ _⟩
  case round =>
    obtain ⟨k, y, hk, rfl, rfl, hw, hb⟩ := hrel
    obtain ⟨b, o, t, rfl, hbl, hx, k0⟩ := HT3.out k hk
    have j0 := (hb.cell (p := ⟨b, o + k, none⟩) hbl).trans k0
    have HD := hid (show onWay y (parts.drop k) (t :: proof.drop (k + 1)) = R by rw [← drop_cons hx.out]; exact hw.out)
    have hkn : (k : Int) < n := by omega
    have HTS := hid (HS.out t (List.mem_of_getElem? hx.out))
    obtain ⟨z, hz⟩ : ∃ z, printOf (bs t) = z := ⟨_, rfl⟩
    have HZ := hid hz
    have hw1 : IntKind.i64.wrap ((k : Int) + 1) = (k : Int) + 1 := IntWalk.i64_in _ (by omega)
    clear hw k0 hz
    by_cases hzy : z = y
    · subst hzy
      by_cases hlast : k + 1 = n
      · obtain rfl : R = true := by
          rw [← HD.out, List.drop_of_length_le (l := proof) (by have := HN.out; omega)]
          exact onWay_last HZ.out
        have hd1 : ((k : Int) + 1 == (n : Int)) = true := by simp; omega
        clear hlast
        go_wp2_with (go_at_call 105; refine (spec_PrintOf_e _ _ (Nat.le_trans HTS.out (by omega)) HZ.out).mono ?_; rintro e w7 ⟨rfl, rfl⟩)
        go_ret
        exact ⟨rfl, hb⟩
      · have hd1 : ((k : Int) + 1 == (n : Int)) = false := by simp; omega
        have hk1 : k + 1 < n := by omega
        have hkm : k < m := by omega
        have hkm' : (k : Int) < m := by omega
        obtain ⟨t2, hx2⟩ : ∃ t2, Hid (proof[k + 1]? = some t2) := by
          obtain ⟨_, _, t2, _, _, hx2, _⟩ := HT3.out (k + 1) hk1
          exact ⟨t2, hx2⟩
        obtain ⟨b', o', nm, rfl, hbl', hx', k1⟩ := HP3.out k hkm
        have HNX := hid (drop_cons hx2.out)
        have HE := hid (show onWay z (nm :: parts.drop (k + 1)) (t :: t2 :: proof.drop (k + 1 + 1)) = R by rw [← drop_cons hx'.out, ← HNX.out]; exact HD.out)
        have HNN := hid (show onWay ((firstOf (entsOf (bs t)) nm).getD (-2)) (parts.drop (k + 1)) (proof.drop (k + 1)) = R by rw [HNX.out]; exact way_next HE.out HZ.out)
        obtain ⟨es, hes⟩ : ∃ es, entsOf (bs t) = es := ⟨_, rfl⟩
        have HES := hid hes
        obtain ⟨n3, hn3⟩ : ∃ n3, es.length = n3 := ⟨_, rfl⟩
        have HN3 := hid hn3
        have h33 : n3 ≤ 3 := by rw [← hn3, ← hes]; exact entsOf_len _
        have HAS := hid (show es.foldl (fun c e => if e.name = nm then e.print else c) (-2) = (firstOf (entsOf (bs t)) nm).getD (-2) by rw [hes, ← hes]; exact child_eq (-2) (ents_iff.1 (entsOf_ok _)).2.2)
        have HK1 := hid k1
        clear k1 hlast hes hn3 HE HD
        go_wp2_with (first | (go_at_call 105; refine (spec_PrintOf_e _ _ (Nat.le_trans HTS.out (by omega)) HZ.out).mono ?_; rintro e w7 ⟨rfl, rfl⟩) | fail)
        refine (spec_ReadFolder_c t _ HTS.out).mono ?_
        rw [HES.out]
        rintro e w3 ⟨lv, rfl, o3, b3⟩
        have d3 := bl_then hb b3
        have j1 := (d3.cell (p := ⟨b', o' + k, none⟩) hbl').trans HK1.out
        obtain ⟨la, lc, rfl, _, _, hl3⟩ := (Rd.of_own o3).ents HN3.out
        have HL3 := hid hl3
        clear o3 b3 hl3 hb
        go_wp2
        go_loopw [7, 11] (fun q jv wr => ∃ (j z2 : Nat) (y2 : Int), j ≤ n3 ∧ jv = .int .i64 j ∧ q = .int .i64 y2 ∧ Hid (y2 = (es.take j).foldl (fun c e => if e.name = nm then e.print else c) (-2)) ∧ wr = w3.drewN z2) (fun _ jv _ => n3 - (intOf jv).toNat)
        case atStart => exact ⟨0, 0, -2, Nat.zero_le _, rfl, rfl, hid (by simp), rfl⟩
        case round =>
          obtain ⟨j, z2, y2, hj, rfl, rfl, hy2, rfl⟩ := hrel
          by_cases hjn : j < n3
          · obtain ⟨b2, o2, u, r, rfl, hbl2, hx3, c0, c1⟩ := HL3.out j hjn
            have hjn' : (j : Int) < n3 := by omega
            have hse := str_eqE (u := u) (t := nm)
            have HF := hid (show (es.take (j + 1)).foldl (fun c e => if e.name = nm then e.print else c) (-2) = if u = nm then r else y2 by rw [foldl_succ _ _ hx3.out, hy2.out])
            by_cases hun : u = nm
            · have hd2 : (u.toList == nm.toList) = true := by rw [hse]; exact decide_eq_true hun
              have HF2 := hid (show r = (es.take (j + 1)).foldl (fun c e => if e.name = nm then e.print else c) (-2) by rw [HF.out, if_pos hun])
              clear hse hun HF
              go_wp2
              go_quiet (fail)
              go_wp2
              go_roundw
              case rel => exact ⟨j + 1, _, r, by omega, by go_num, rfl, HF2, rfl⟩
              case measure => simp [intOf]; omega
            · have hd2 : (u.toList == nm.toList) = false := by rw [hse]; exact decide_eq_false hun
              have HF2 := hid (show y2 = (es.take (j + 1)).foldl (fun c e => if e.name = nm then e.print else c) (-2) by rw [HF.out, if_neg hun])
              clear hse hun HF
              go_wp2
              go_quiet (fail)
              go_wp2
              go_roundw
              case rel => exact ⟨j + 1, _, y2, by omega, by go_num, rfl, HF2, rfl⟩
              case measure => simp [intOf]; omega
          · have HF2 := hid (show onWay y2 (parts.drop (k + 1)) (proof.drop (k + 1)) = R by rw [hy2.out, take_all HN3.out (show n3 ≤ j by omega), HAS.out]; exact HNN.out)
            have d4 := bl_drewN d3 z2
            clear hy2
            go_wp2
            go_roundw
            case rel => exact ⟨k + 1, y2, by omega, by go_num, rfl, HF2, d4⟩
            case measure => simp [intOf]; omega
    · obtain rfl : R = false := by rw [← HD.out]; exact onWay_bad (by rw [HZ.out]; exact hzy)
      have hd1 : (z == y) = false := by simpa using hzy
      go_wp2_with (go_at_call 105; refine (spec_PrintOf_e _ _ (Nat.le_trans HTS.out (by omega)) HZ.out).mono ?_; rintro e w7 ⟨rfl, rfl⟩)
      go_ret
      exact ⟨rfl, hb⟩

set_option maxHeartbeats 2000000 in
set_option maxRecDepth 100000 in
theorem spec_ProofRight_c (root : Int) (path : ByteArray) (tv : Value) (proof : List ByteArray) (w : World) (R : Bool) (hR : proofRight root (bs path) proof = R) (ht : Strs w w.heap.size tv proof) (hs : ∀ t ∈ proof, t.size ≤ 1000000) (hp0 : path.size ≤ 900) :
    Calls Tryz.prog 24 #[.int .i64 root, .string path, tv] w fun e w' => e = .returned (.bool R) ∧ Below w.heap.size w w' := by
  have HT : Hid (∀ wx, Below w.heap.size w wx → Strs wx wx.heap.size tv proof) := hid fun wx hx' => ht.on hx'
  obtain ⟨n, hn⟩ : ∃ n, proof.length = n := ⟨_, rfl⟩
  obtain ⟨ta, tc, rfl, _, _, _⟩ := ht.strs hn
  have HN := hid hn
  have HS := hid hs
  obtain ⟨P, hP⟩ : ∃ P, pathParts (bs path) = P := ⟨_, rfl⟩
  have HP := hid hP
  have HR := hid hR
  clear ht hn hs hP hR
  cases P with
  | none =>
    obtain rfl : R = false := by rw [← HR.out]; unfold proofRight; rw [HP.out]
    go_enter Tryz.func24, Tryz.ntmps24
    go_wp2_with fail
    refine (spec_PathParts_c path _ hp0).mono ?_
    rw [HP.out]
    rintro e w1 ⟨pv, rfl, o1, b1⟩
    clear o1
    go_wp2
    go_ret
    exact ⟨rfl, b1⟩
  | some ws =>
    have HPS := hid (parts_small HP.out)
    obtain ⟨m, hml⟩ : ∃ m, (ws.map strL).length = m := ⟨_, rfl⟩
    have HM := hid hml
    have hm3 : m ≤ 3 := by rw [← hml]; exact HPS.out.2
    have hwm : ws.length = m := by rw [← hml]; simp
    have hw1 : IntKind.i64.wrap ((m : Int) + 1) = (m : Int) + 1 := IntWalk.i64_in _ (by omega)
    by_cases hlen : n = m + 1
    · have HO := hid (show onWay root (ws.map strL) proof = R by rw [← HR.out, right_on HP.out, HN.out, hlen, hwm]; simp)
      have hd1 : ((n : Int) == (m : Int) + 1) = true := by simp; omega
      have HNE := hid (show proof ≠ [] from fun e => by have := HN.out; rw [e] at this; simp at this; omega)
      have HL := hid (show proof.length ≤ (ws.map strL).length + 1 by rw [HN.out, HM.out]; omega)
      clear hml hwm hlen
      go_enter Tryz.func24, Tryz.ntmps24
      go_wp2_with fail
      refine (spec_PathParts_c path _ hp0).mono ?_
      rw [HP.out]
      rintro e w1 ⟨pv, rfl, o1, b1⟩
      have r1 : Strs w1 w1.heap.size pv (ws.map strL) := Rd.of_own o1
      have R1 := hid r1
      obtain ⟨pa, pc, rfl, _, _, _⟩ := r1.strs HM.out
      clear o1 r1
      go_wp2_with fail
      refine (spec_l12Way_c root _ _ (ws.map strL) proof _ R HO.out HNE.out R1.out (HT.out _ b1) HL.out HS.out).mono ?_
      rintro e w2 ⟨rfl, b2⟩
      have d2 := bl_then b1 b2
      cases R
      · go_wp2
        go_ret
        exact ⟨rfl, d2⟩
      · go_wp2
        go_ret
        exact ⟨rfl, d2⟩
    · obtain rfl : R = false := by rw [← HR.out, right_on HP.out, HN.out, hwm]; simp [hlen]
      have hd1 : ((n : Int) == (m : Int) + 1) = false := by simp; omega
      clear hml hwm hlen
      go_enter Tryz.func24, Tryz.ntmps24
      go_wp2_with fail
      refine (spec_PathParts_c path _ hp0).mono ?_
      rw [HP.out]
      rintro e w1 ⟨pv, rfl, o1, b1⟩
      have r1 : Strs w1 w1.heap.size pv (ws.map strL) := Rd.of_own o1
      obtain ⟨pa, pc, rfl, _, _, _⟩ := r1.strs HM.out
      clear o1 r1
      go_wp2
      go_ret
      exact ⟨rfl, b1⟩

set_option maxHeartbeats 2000000 in
set_option maxRecDepth 100000 in
theorem spec_ProofContent_c (root : Int) (path : ByteArray) (tv : Value) (proof : List ByteArray) (w : World) (ht : Strs w w.heap.size tv proof) (hs : ∀ t ∈ proof, t.size ≤ 1000000) (hp0 : path.size ≤ 900) :
    Calls Tryz.prog 32 #[.int .i64 root, .string path, tv] w fun e w' => e = .returned (.tuple #[.string (strL (proofContent root (bs path) proof).1), .bool (proofContent root (bs path) proof).2]) ∧ Below w.heap.size w w' := by
  have HT := hid ht
  have HS := hid hs
  obtain ⟨n, hn⟩ : ∃ n, proof.length = n := ⟨_, rfl⟩
  obtain ⟨ta, tc, rfl, htn, htc, h3⟩ := ht.strs hn
  obtain ⟨R, hR⟩ : ∃ R, proofRight root (bs path) proof = R := ⟨_, rfl⟩
  have HR := hid hR
  cases R
  · have HC := hid (show proofContent root (bs path) proof = ([], false) by unfold proofContent; rw [hR]; rfl)
    clear ht hs hR hn h3
    go_enter Tryz.func32, Tryz.ntmps32
    go_wp2_with fail
    refine (spec_ProofRight_c root path _ proof _ _ HR.out HT.out HS.out hp0).mono ?_
    rintro e w1 ⟨rfl, b1⟩
    go_wp2
    go_ret2
    exact ⟨by rw [HC.out]; rfl, b1⟩
  · obtain ⟨ws, _, hlen, _⟩ := right_parts hR
    have hn1 : 1 ≤ n := by omega
    obtain ⟨b, o, t, rfl, hbl, hx, k0⟩ := h3 (n - 1) (by omega)
    have hgl : proof.getLastD ByteArray.empty = t := by
      have h1 := hx.out
      rw [List.getLastD_eq_getLast?, List.getLast?_eq_getElem?, hn, h1]; rfl
    have HC := hid (show proofContent root (bs path) proof = (fileC (bs t), isFile (bs t)) by unfold proofContent; rw [if_pos hR, hgl])
    have hts := HS.out t (List.mem_of_getElem? hx.out)
    have hw1 : IntKind.i64.wrap ((n : Int) - 1) = ((n - 1 : Nat) : Int) := by rw [IntWalk.i64_in _ (by omega)]; omega
    have hlt : ((n - 1 : Nat) : Int) < n := by omega
    have HK := hid k0
    obtain ⟨q, hq⟩ : ∃ q, n - 1 = q := ⟨_, rfl⟩
    rw [hq] at hw1 hlt HK
    clear ht hs hR hn h3 k0 hx hq hn1 hlen hgl
    go_enter Tryz.func32, Tryz.ntmps32
    go_wp2_with fail
    refine (spec_ProofRight_c root path _ proof _ _ HR.out HT.out HS.out hp0).mono ?_
    rintro e w1 ⟨rfl, b1⟩
    have k1 := (b1.cell (p := ⟨b, o + q, none⟩) hbl).trans HK.out
    go_wp2_with fail
    refine (spec_ReadFile_e t _ hts).mono ?_
    rintro e w2 ⟨rfl, rfl⟩
    go_wp2
    go_ret2
    exact ⟨by rw [HC.out]; rfl, b1⟩

set_option maxHeartbeats 2000000 in
set_option maxRecDepth 100000 in
theorem spec_AbsenceRight_c (root : Int) (path : ByteArray) (tv : Value) (proof : List ByteArray) (w : World) (R : Bool) (hR : absRight root (bs path) proof = R) (ht : Strs w w.heap.size tv proof) (hs : ∀ t ∈ proof, t.size ≤ 1000000) (hp0 : path.size ≤ 900) :
    Calls Tryz.prog 77 #[.int .i64 root, .string path, tv] w fun e w' => e = .returned (.bool R) ∧ Below w.heap.size w w' := by
  have HT : Hid (∀ wx, Below w.heap.size w wx → Strs wx wx.heap.size tv proof) := hid fun wx hx' => ht.on hx'
  obtain ⟨n, hn⟩ : ∃ n, proof.length = n := ⟨_, rfl⟩
  obtain ⟨ta, tc, rfl, _, _, h3⟩ := ht.strs hn
  have HN := hid hn
  have H3 := hid h3
  have HS := hid hs
  obtain ⟨P, hP⟩ : ∃ P, pathParts (bs path) = P := ⟨_, rfl⟩
  have HP := hid hP
  have HR := hid hR
  clear ht hn hs hP h3 hR
  cases P with
  | none =>
    obtain rfl : R = false := by rw [← HR.out]; unfold absRight; rw [HP.out]
    go_enter Tryz.func77, Tryz.ntmps77
    go_wp2_with fail
    refine (spec_PathParts_c path _ hp0).mono ?_
    rw [HP.out]
    rintro e w1 ⟨pv, rfl, o1, b1⟩
    clear o1
    go_wp2
    go_ret
    exact ⟨rfl, b1⟩
  | some ws =>
    have HPS := hid (parts_small HP.out)
    obtain ⟨m, hml⟩ : ∃ m, (ws.map strL).length = m := ⟨_, rfl⟩
    have HM := hid hml
    have hm3 : m ≤ 3 := by rw [← hml]; exact HPS.out.2
    have HO := hid (show (decide (1 ≤ n ∧ n ≤ m) && onWay root (ws.map strL) proof && lastOff (readFolder (bs (proof.getLastD ByteArray.empty))) ((ws.map strL).getD (n - 1) ByteArray.empty)) = R by
      rw [← HR.out]; unfold absRight; rw [HP.out, ← hml, List.length_map, HN.out])
    clear hml HR
    by_cases hlen : 1 ≤ n ∧ n ≤ m
    · obtain ⟨q, hq⟩ : ∃ q, n - 1 = q := ⟨_, rfl⟩
      obtain ⟨b, o, t, rfl, hbl, hx, k0⟩ := H3.out q (by omega)
      obtain ⟨nm, hnm⟩ : ∃ nm, (ws.map strL)[q]? = some nm := ⟨_, List.getElem?_eq_getElem (by have := HM.out; omega)⟩
      have HNM := hid hnm
      obtain ⟨z, hz⟩ : ∃ z, onWay root (ws.map strL) proof = z := ⟨_, rfl⟩
      obtain ⟨F, hF⟩ : ∃ F, readFolder (bs t) = F := ⟨_, rfl⟩
      have HZ := hid hz
      have HF := hid hF
      have HES := hid (show entsOf (bs t) = F.getD [] by unfold entsOf; rw [hF])
      have HQ2 := hid (show (z && lastOff F nm) = R by
        rw [← HO.out, hz, ← hF]
        have e1 : proof.getLastD ByteArray.empty = t := by
          have h1 := hx.out
          rw [List.getLastD_eq_getLast?, List.getLast?_eq_getElem?, HN.out, hq, h1]; rfl
        have e2 : (ws.map strL).getD (n - 1) ByteArray.empty = nm := by rw [hq, List.getD_eq_getElem?_getD, hnm]; rfl
        rw [e1, e2]; simp [hlen])
      have HIN := hid (show inB (n : Int) 1 (m : Int) = true by unfold inB; simp; omega)
      have hw1 : IntKind.i64.wrap ((n : Int) - 1) = (q : Int) := by rw [IntWalk.i64_in _ (by omega)]; omega
      have hqn : (q : Int) < n := by omega
      have hqm : (q : Int) < m := by omega
      have hqm' : q < m := by omega
      have HK := hid k0
      have HTS := hid (HS.out t (List.mem_of_getElem? hx.out))
      have HL := hid (show proof.length ≤ (ws.map strL).length + 1 by rw [HN.out, HM.out]; omega)
      have HNE := hid (show proof ≠ [] from fun e => by have := HN.out; rw [e] at this; simp at this; omega)
      clear hnm hz hF HO k0 hq hlen hx H3
      go_enter Tryz.func77, Tryz.ntmps77
      go_wp2_with fail
      refine (spec_PathParts_c path _ hp0).mono ?_
      rw [HP.out]
      rintro e w1 ⟨pv, rfl, o1, b1⟩
      have r1 : Strs w1 w1.heap.size pv (ws.map strL) := Rd.of_own o1
      have R1 := hid r1
      obtain ⟨pa, pc, rfl, _, _, hp3⟩ := r1.strs HM.out
      obtain ⟨b', o', nm', rfl, hbl', hx', k1⟩ := hp3 q hqm'
      obtain rfl : nm' = nm := Option.some.inj (hx'.out.symm.trans HNM.out)
      have HK1 := hid k1
      clear o1 r1 hp3 k1 hx'
      go_wp2_with (first | (go_at_call 135; refine (spec_l1In_e _ _ _ _ HIN.out).mono ?_; rintro e w7 ⟨rfl, rfl⟩) | fail)
      refine (spec_l12Way_c root _ _ (ws.map strL) proof _ z HZ.out HNE.out R1.out (HT.out _ b1) HL.out HS.out).mono ?_
      rintro e w2 ⟨rfl, b2⟩
      have d2 := bl_then b1 b2
      have j0 := (d2.cell (p := ⟨b, o + q, none⟩) hbl).trans HK.out
      have l2 := (b2.cell (p := ⟨b', o' + q, none⟩) hbl').trans HK1.out
      cases z
      · obtain rfl : R = false := by rw [← HQ2.out]; rfl
        go_wp2
        go_ret
        exact ⟨rfl, d2⟩
      go_wp2_with fail
      refine (spec_ReadFolder_c t _ HTS.out).mono ?_
      rw [HES.out, HF.out]
      rintro e w3 ⟨lv, rfl, o3, b3⟩
      have d3 := bl_then d2 b3
      have l3 := (b3.cell (p := ⟨b', o' + q, none⟩) (Nat.lt_of_lt_of_le hbl' b2.size)).trans l2
      obtain ⟨es, hes⟩ : ∃ es, F.getD [] = es := ⟨_, rfl⟩
      rw [hes] at o3
      have HEQ := hid hes
      obtain ⟨n3, hn3⟩ : ∃ n3, es.length = n3 := ⟨_, rfl⟩
      have HN3 := hid hn3
      have h33 : n3 ≤ 3 := by rw [← hn3, ← hes, ← HES.out]; exact entsOf_len _
      obtain ⟨la, lc, rfl, _, _, hl3⟩ := (Rd.of_own o3).ents hn3
      have HL3 := hid hl3
      clear o3 hes hn3 hl3 b3 j0 l2
      go_wp2
      go_loopw [11] (fun jv wr => ∃ (j z2 : Nat), j ≤ n3 ∧ jv = .int .i64 j ∧ Hid (∀ i x, i < j → es[i]? = some x → x.name ≠ nm') ∧ wr = w3.drewN z2) (fun jv _ => n3 - (intOf jv).toNat)
      case atStart => exact ⟨0, 0, Nat.zero_le _, rfl, hid (fun i x hi => absurd hi (by omega)), rfl⟩
      case round =>
        obtain ⟨j, z2, hj, rfl, hno, rfl⟩ := hrel
        by_cases hjn : j < n3
        · obtain ⟨b2, o2, u, r, rfl, hbl2, hx3, c0, c1⟩ := HL3.out j hjn
          have hjn' : (j : Int) < n3 := by omega
          have hse := str_eqE (u := u) (t := nm')
          by_cases hun : u = nm'
          · have hd2 : (u.toList == nm'.toList) = true := by rw [hse]; exact decide_eq_true hun
            obtain rfl : R = false := by
              rw [← HQ2.out]
              cases hFc : F with
              | none => rfl
              | some l =>
                have he : l = es := by rw [← HEQ.out, hFc]; rfl
                rw [he]
                unfold lastOff
                simp only [Bool.true_and]
                cases hq : firstOf es nm' with
                | none => exact absurd hun (first_no hq _ (List.mem_of_getElem? hx3.out))
                | some c => rfl
            have d4 := bl_drewN d3 z2
            clear hse hun
            go_wp2
            go_quiet (fail)
            go_wp2
            go_ret
            exact ⟨rfl, bl_drewN d4 _⟩
          · have hd2 : (u.toList == nm'.toList) = false := by rw [hse]; exact decide_eq_false hun
            have HF2 := hid (show ∀ i x, i < j + 1 → es[i]? = some x → x.name ≠ nm' from fun i x hi hx' => by
              rcases Nat.lt_succ_iff_lt_or_eq.1 hi with h | h
              · exact hno.out i x h hx'
              · rw [h, hx3.out] at hx'
                rw [← Option.some.inj hx']; exact hun)
            clear hse hun
            go_wp2
            go_quiet (fail)
            go_wp2
            go_roundw
            case rel => exact ⟨j + 1, _, by omega, by go_num, HF2, rfl⟩
            case measure => simp [intOf]; omega
        · have HFN := hid (show firstOf es nm' = none from first_none (fun i x hx' => hno.out i x (by have := (List.getElem?_eq_some_iff.1 hx').1; have := HN3.out; omega) hx'))
          have HRF := hid (show F.isSome = R by
            rw [← HQ2.out]
            cases hFc : F with
            | none => rfl
            | some l =>
              have he : l = es := by rw [← HEQ.out, hFc]; rfl
              rw [he]
              simp [lastOff, HFN.out])
          have d4 := bl_drewN d3 z2
          rw [HRF.out]
          go_wp2
          go_ret
          exact ⟨rfl, d4⟩
    · obtain rfl : R = false := by rw [← HO.out]; simp [hlen]
      have HIN := hid (show inB (n : Int) 1 (m : Int) = false by unfold inB; simp; omega)
      clear HO hlen
      go_enter Tryz.func77, Tryz.ntmps77
      go_wp2_with fail
      refine (spec_PathParts_c path _ hp0).mono ?_
      rw [HP.out]
      rintro e w1 ⟨pv, rfl, o1, b1⟩
      have r1 : Strs w1 w1.heap.size pv (ws.map strL) := Rd.of_own o1
      obtain ⟨pa, pc, rfl, _, _, _⟩ := r1.strs HM.out
      clear o1 r1
      go_wp2_with (go_at_call 135; refine (spec_l1In_e _ _ _ _ HIN.out).mono ?_; rintro e w7 ⟨rfl, rfl⟩)
      go_ret
      exact ⟨rfl, b1⟩

end Go.Proofs.YtachfmlfmpaddaaGreatDoor
