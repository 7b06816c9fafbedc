/- Walks and plain facts, joined: PathP. -/
import Derived.Test.YtnaahincolooeaaGreatDoorMg34
set_option linter.unusedVariables false
set_option linter.unusedSimpArgs false

/- Walks: proofs of paths and of their absence, the program's way. -/
namespace Go.Proofs.YtnaahincolooeaaGreatDoor
open Go.RowKit

theorem wayT_cons (xs : List Pc) : ∀ (ws : List ByteArray) (pr : Int), ∃ tl, wayT xs pr ws = txA xs pr :: tl
  | [], pr => ⟨[], rfl⟩
  | nm :: r, pr => ⟨_, rfl⟩
theorem wayT_tail {xs : List Pc} {pr : Int} {nm : ByteArray} {r tl : List ByteArray} (h : wayT xs pr (nm :: r) = txA xs pr :: tl) : tl = wayT xs ((firstOf (entsOf (bs (txA xs pr))) nm).getD (-1)) r := by
  unfold wayT at h
  rw [List.cons.injEq] at h
  exact h.2.symm
theorem absW_no {xs : List Pc} {pr : Int} {nm : ByteArray} {r : List ByteArray} (h : folderAt xs pr = none) : absW xs pr (nm :: r) = none := by unfold absW; rw [h]
theorem absW_off {xs : List Pc} {pr : Int} {nm : ByteArray} {r : List ByteArray} {es : List Ent} (h : folderAt xs pr = some es) (hq : firstOf es nm = none) : absW xs pr (nm :: r) = some [txA xs pr] := by unfold absW; rw [h]; simp only [hq]
theorem absW_on {xs : List Pc} {pr c : Int} {nm : ByteArray} {r : List ByteArray} {es : List Ent} (h : folderAt xs pr = some es) (hq : firstOf es nm = some c) : absW xs pr (nm :: r) = (absW xs c r).map (txA xs pr :: ·) := by
  conv => lhs; unfold absW
  rw [h]; simp only [hq]

set_option maxHeartbeats 2000000 in
set_option maxRecDepth 100000 in
theorem impl_PathProof_c (v : Value) (xs : List Pc) (root : Int) (path : ByteArray) (w : World) (R : List ByteArray) (hR : pathProof xs root (bs path) = R) (h : Pcs w w.heap.size v xs) (hp0 : path.size ≤ 1000) (hg : Glob w) (hm : Mx w) :
    Calls Tryz.prog 40 #[v, .int .i64 root, .string path] w fun e w' => ∃ v', e = .returned v' ∧ OwnS w' w.heap.size v' R ∧ Below w.heap.size w w' := by
  have HP : Hid (∀ wx, Below w.heap.size w wx → Pcs wx wx.heap.size v xs) := hid fun wx hx => h.on hx
  have HG : Hid (∀ wx, Below w.heap.size w wx → Glob wx) := hid fun wx hx => hg.on hx
  have HM : Hid (∀ wx, Below w.heap.size w wx → Mx wx) := hid fun wx hx => hm.on hx
  have r0 : Below w.heap.size w w := Below.refl _ _
  obtain ⟨⟨y0, ok⟩, hW⟩ : ∃ W, walkTo xs root (bs path) = W := ⟨_, rfl⟩
  have HW := hid hW
  cases ok
  · have HR := hid (show R = [] by rw [← hR]; exact proof_off (by rw [hW]))
    clear h hg hm hR hW
    go_enter Tryz.func40, Tryz.ntmps40
    go_wp2_with fail
    refine (impl_WalkTo_c _ xs root path _ _ HW.out (HP.out _ r0) hp0 (HG.out _ r0) (HM.out _ r0)).mono ?_
    rintro e w1 ⟨rfl, b1⟩
    go_wp2
    go_ret
    exact ⟨_, rfl, by rw [HR.out]; exact Own.nil_, b1⟩
  obtain ⟨ws, c, hs, hp, _, hwa, hR2⟩ := proof_on (show (walkTo xs root (bs path)).2 = true by rw [hW])
  obtain ⟨m, hml⟩ : ∃ m, (ws.map strL).length = m := ⟨_, rfl⟩
  have HML := hid hml
  have hm3 : m ≤ 3 := by rw [← hml]; exact (parts_small hp).2
  have HR := hid (show wayT xs root (ws.map strL) = R by rw [← hR2, hR])
  have HPA := hid hp
  have HS := hid hs
  clear h hg hm hR hW hp hs hwa hR2 hml
  go_enter Tryz.func40, Tryz.ntmps40
  go_wp2_with fail
  refine (impl_WalkTo_c _ xs root path _ _ HW.out (HP.out _ r0) hp0 (HG.out _ r0) (HM.out _ r0)).mono ?_
  rintro e w1 ⟨rfl, b1⟩
  go_wp2_with fail
  refine (impl_PathParts_c path _ hp0 (HM.out _ b1)).mono ?_
  rw [HPA.out]
  rintro e w2 ⟨pv, rfl, o2, b2⟩
  have r2 : Strs w2 w2.heap.size pv (ws.map strL) := Rd.of_own o2
  obtain ⟨pa, pc, rfl, _, _, hp3⟩ := r2.strs HML.out
  have d2 := bl_then b1 b2
  clear o2 b2 r2
  go_wp2_with fail
  refine (impl_textOf_c _ xs root _ (HP.out _ d2) HS.out).mono ?_
  rintro e w3 ⟨rfl, b3⟩
  have d3 := bl_then d2 b3
  have hp4 : ∀ i, i < m → ∃ b o x, pa = some ⟨b, o, none⟩ ∧ b < w3.heap.size ∧ Hid ((ws.map strL)[i]? = some x) ∧ w3.cell? ⟨b, o + i, none⟩ = some (.string x) := by
    intro i hi
    obtain ⟨b, o, x, ha, hb, hx, hc⟩ := hp3 i hi
    exact ⟨b, o, x, ha, Nat.lt_of_lt_of_le hb b3.size, hx, (b3.cell (p := ⟨b, o + i, none⟩) hb).trans hc⟩
  have HP4 := hid hp4
  have HD3 := hid d3
  obtain ⟨W4, hW4⟩ : ∃ W4, W4 = w3.alloc (.cells #[.string (txA xs root)] 9) := ⟨_, rfl⟩
  have o4 : OwnS W4 w3.heap.size (.slice (some ⟨w3.heap.size, 0, none⟩) 1 1) [txA xs root] := by rw [hW4]; exact Own.lit _ (Nat.le_refl _) [_] _ 1 rfl rfl rfl (by decide)
  have b4 : Below w3.heap.size w3 W4 := by rw [hW4]; exact (Below.refl _ _).alloc (Nat.le_refl _) _
  have HTX := hid (show (getP xs root).getD ByteArray.empty = txA xs root from rfl)
  have s3 := d3.size
  clear hp3 hp4 b3 d2 d3
  rw [HTX.out]
  go_wp2_with fail
  go_loopw [11, 13, 15, 16, 17, 18, 19, 44] (fun tx out _ _ _ _ _ iv wr => ∃ (k : Nat) (y : Int) (acc tl : List ByteArray), k ≤ m ∧ iv = .int .i64 k ∧ tx = .string (txA xs y) ∧ OwnS wr w3.heap.size out acc ∧ Hid (wayT xs y ((ws.map strL).drop k) = txA xs y :: tl ∧ acc ++ tl = R) ∧ acc.length ≤ k + 1 ∧ Below w3.heap.size w3 wr) (fun _ _ _ _ _ _ _ iv _ => m - (intOf iv).toNat)
  case atStart =>
    obtain ⟨tl, htl⟩ := wayT_cons xs (ws.map strL) root
    exact ⟨0, root, [txA xs root], tl, Nat.zero_le _, rfl, rfl, by rw [← hW4]; exact o4, hid ⟨by simpa using htl, by rw [← HR.out, htl]; rfl⟩, by simp, by rw [← hW4]; exact b4⟩
  case round =>
    obtain ⟨k, y, acc, tl, hk, rfl, rfl, hown, hwt, hlen, hb⟩ := hrel
    clear o4 b4 hW4
    by_cases hlt : k < m
    · obtain ⟨b, o, nm, rfl, hbl, hx, k0⟩ := HP4.out k hlt
      have j0 := (hb.cell (p := ⟨b, o + k, none⟩) hbl).trans k0
      have hkm : (k : Int) < m := by omega
      have HT := hid (show (txA xs y).size ≤ 1048576 from Nat.le_trans (txA_small HS.out y) (by omega))
      obtain ⟨q, hq⟩ : ∃ q, (firstOf (entsOf (bs (txA xs y))) nm).getD (-1) = q := ⟨_, rfl⟩
      obtain ⟨F, hF⟩ : ∃ F, firstOf (entsOf (bs (txA xs y))) nm = F := ⟨_, rfl⟩
      have HF := hid hF
      have HQ := hid (show F.getD (-1) = q by rw [← hF]; exact hq)
      have HTL := hid (show tl = wayT xs q ((ws.map strL).drop (k + 1)) by
        have h1 := hwt.out.1
        rw [drop_cons hx.out] at h1
        rw [wayT_tail h1, hq])
      have HEO := hid (entsOf_ok (bs (txA xs y)))
      obtain ⟨n3, hn3⟩ : ∃ n3, (entsOf (bs (txA xs y))).length = n3 := ⟨_, rfl⟩
      have HN3 := hid hn3
      clear k0 hq hF hn3
      go_wp2_with fail
      refine (impl_ReadFolder_c (txA xs y) _ HT.out (HG.out _ (bl_then HD3.out hb))).mono ?_
      rintro e w5 ⟨lv, rfl, o5, b5⟩
      have d5 := bl_then hb b5
      have own5 := hown.on b5
      have L5 := hid (Rd.of_own o5)
      obtain ⟨la, lc, rfl, _, _, _⟩ := (Rd.of_own o5).ents HN3.out
      clear o5 b5 hown
      go_wp2_with fail
      refine (impl_printNamed_c _ _ nm _ F HF.out L5.out HEO.out).mono ?_
      rw [HQ.out]
      rintro e w6 ⟨rfl, b6⟩
      have d6 := bl_then d5 b6
      have own6 := own5.on b6
      clear b6 d5 own5
      go_wp2_with fail
      refine (impl_textOf_c _ xs q _ (HP.out _ (bl_then HD3.out d6)) HS.out).mono ?_
      rintro e w7 ⟨rfl, b7⟩
      have d7 := bl_then d6 b7
      have own7 := own6.on b7
      have hB7 := d7.size
      have HTQ := hid (show (getP xs q).getD ByteArray.empty = txA xs q from rfl)
      rw [HTQ.out]
      clear b7 d6 own6
      go_wp2_with (at_builtin; refine push_str (w0 := w3) rfl _ _ rfl w3.heap.size w3.heap.size _ _ _ own7 d7 hB7 (Nat.le_refl _) rfl rfl (by omega) ?_; intro v' w' hown' hb' hB' _)
      go_roundw
      case rel =>
        obtain ⟨tl2, htl2⟩ := wayT_cons xs ((ws.map strL).drop (k + 1)) q
        refine ⟨k + 1, q, _, tl2, by omega, by go_num, rfl, hown', hid ⟨htl2, ?_⟩, by simp; omega, hb'⟩
        rw [← hwt.out.2, HTL.out, htl2]; simp
      case measure => simp [intOf]; omega
    · have HA := hid (show acc = R by
        have h1 := hwt.out.1
        rw [List.drop_of_length_le (by have := HML.out; omega)] at h1
        have h2 : tl = [] := by unfold wayT at h1; rw [List.cons.injEq] at h1; exact h1.2.symm
        rw [← hwt.out.2, h2, List.append_nil])
      have d9 := bl_then HD3.out hb
      go_wp2
      go_ret
      exact ⟨_, rfl, by rw [← HA.out]; exact hown.less s3, d9⟩

set_option maxHeartbeats 2000000 in
set_option maxRecDepth 100000 in
theorem impl_AbsenceProof_c (v : Value) (xs : List Pc) (root : Int) (path : ByteArray) (w : World) (R : List ByteArray) (hR : absProof xs root (bs path) = R) (h : Pcs w w.heap.size v xs) (hp0 : path.size ≤ 1000) (hg : Glob w) (hm : Mx w) :
    Calls Tryz.prog 49 #[v, .int .i64 root, .string path] w fun e w' => ∃ v', e = .returned v' ∧ OwnS w' w.heap.size v' R ∧ Below w.heap.size w w' := by
  have HP : Hid (∀ wx, Below w.heap.size w wx → Pcs wx wx.heap.size v xs) := hid fun wx hx => h.on hx
  have HG : Hid (∀ wx, Below w.heap.size w wx → Glob wx) := hid fun wx hx => hg.on hx
  have HM : Hid (∀ wx, Below w.heap.size w wx → Mx wx) := hid fun wx hx => hm.on hx
  have r0 : Below w.heap.size w w := Below.refl _ _
  have HR0 := hid hR
  obtain ⟨P, hPP⟩ : ∃ P, pathParts (bs path) = P := ⟨_, rfl⟩
  have HPA := hid hPP
  clear h hg hm hR hPP
  cases P with
  | none =>
    have HR := hid (show R = [] by rw [← HR0.out]; unfold absProof; rw [HPA.out])
    go_enter Tryz.func49, Tryz.ntmps49
    go_wp2_with fail
    refine (impl_PathParts_c path _ hp0 (HM.out _ r0)).mono ?_
    rw [HPA.out]
    rintro e w2 ⟨pv, rfl, o2, b2⟩
    clear o2
    go_wp2
    go_ret
    exact ⟨_, rfl, by rw [HR.out]; exact Own.nil_, b2⟩
  | some ws =>
    cases hok : storeOk xs
    · have HR := hid (show R = [] by rw [← HR0.out]; unfold absProof; rw [HPA.out, hok]; rfl)
      have HK := hid hok
      clear hok
      go_enter Tryz.func49, Tryz.ntmps49
      go_wp2_with fail
      refine (impl_PathParts_c path _ hp0 (HM.out _ r0)).mono ?_
      rw [HPA.out]
      rintro e w2 ⟨pv, rfl, o2, b2⟩
      clear o2
      go_wp2_with fail
      refine (impl_StoreValid_c _ xs _ (HP.out _ b2)).mono ?_
      rw [HK.out]
      rintro e w3 ⟨rfl, b3⟩
      have d3 := bl_then b2 b3
      clear b2 b3
      go_wp2
      go_ret
      exact ⟨_, rfl, by rw [HR.out]; exact Own.nil_, d3⟩
    have HS := hid hok
    obtain ⟨m, hml⟩ : ∃ m, (ws.map strL).length = m := ⟨_, rfl⟩
    have HML := hid hml
    have hm3 : m ≤ 3 := by rw [← hml]; exact (parts_small HPA.out).2
    have HR := hid (show (absW xs root (ws.map strL)).getD [] = R by rw [← HR0.out]; unfold absProof; rw [HPA.out, hok]; rfl)
    clear hok hml HR0
    go_enter Tryz.func49, Tryz.ntmps49
    go_wp2_with fail
    refine (impl_PathParts_c path _ hp0 (HM.out _ r0)).mono ?_
    rw [HPA.out]
    rintro e w2 ⟨pv, rfl, o2, b2⟩
    have r2 : Strs w2 w2.heap.size pv (ws.map strL) := Rd.of_own o2
    obtain ⟨pa, pc, rfl, _, _, hp3⟩ := r2.strs HML.out
    clear o2 r2
    go_wp2_with fail
    refine (impl_StoreValid_c _ xs _ (HP.out _ b2)).mono ?_
    rw [HS.out]
    rintro e w3 ⟨rfl, b3⟩
    have d3 := bl_then b2 b3
    have hp4 : ∀ i, i < m → ∃ b o x, pa = some ⟨b, o, none⟩ ∧ b < w3.heap.size ∧ Hid ((ws.map strL)[i]? = some x) ∧ w3.cell? ⟨b, o + i, none⟩ = some (.string x) := by
      intro i hi
      obtain ⟨b, o, x, ha, hb, hx, hc⟩ := hp3 i hi
      exact ⟨b, o, x, ha, Nat.lt_of_lt_of_le hb b3.size, hx, (b3.cell (p := ⟨b, o + i, none⟩) hb).trans hc⟩
    have HP4 := hid hp4
    have HD3 := hid d3
    have s3 := d3.size
    clear hp3 hp4 b3 b2 d3
    go_wp2
    go_loopw [9, 10, 12, 13, 14, 15, 16, 32] (fun out at_ _ _ _ _ _ iv wr => ∃ (k : Nat) (y : Int) (acc : List ByteArray), k ≤ m ∧ iv = .int .i64 k ∧ at_ = .int .i64 y ∧ OwnS wr w3.heap.size out acc ∧ Hid (((absW xs y ((ws.map strL).drop k)).map (acc ++ ·)).getD [] = R) ∧ acc.length ≤ k ∧ Below w3.heap.size w3 wr) (fun _ _ _ _ _ _ _ iv _ => m - (intOf iv).toNat)
    case atStart => exact ⟨0, root, [], Nat.zero_le _, rfl, rfl, Own.nil_, hid (by rw [← HR.out]; simp), by simp, Below.refl _ _⟩
    case round =>
      obtain ⟨k, y, acc, hk, rfl, rfl, hown, hwt, hlen, hb⟩ := hrel
      by_cases hlt : k < m
      · obtain ⟨b, o, nm, rfl, hbl, hx, k0⟩ := HP4.out k hlt
        have j0 := (hb.cell (p := ⟨b, o + k, none⟩) hbl).trans k0
        have hkm : (k : Int) < m := by omega
        have HT := hid (show (txA xs y).size ≤ 1048576 from Nat.le_trans (txA_small HS.out y) (by omega))
        have HTQ := hid (show (getP xs y).getD ByteArray.empty = txA xs y from rfl)
        have HWT := hid (show ((absW xs y (nm :: (ws.map strL).drop (k + 1))).map (acc ++ ·)).getD [] = R by rw [← drop_cons hx.out]; exact hwt.out)
        obtain ⟨p, hp⟩ : ∃ p, hasP xs y = p := ⟨_, rfl⟩
        have HHP := hid hp
        clear k0 hp hwt
        cases p
        · have HRN := hid (show R = [] by rw [← HWT.out, absW_no (folderAt_none HHP.out)]; rfl)
          go_wp2_with fail
          refine (impl_textOf_c _ xs y _ (HP.out _ (bl_then HD3.out hb)) HS.out).mono ?_
          rw [HHP.out]
          rintro e w5 ⟨rfl, b5⟩
          have d5 := bl_then HD3.out (bl_then hb b5)
          go_wp2
          go_ret
          exact ⟨_, rfl, by rw [HRN.out]; exact Own.nil_, d5⟩
        obtain ⟨F, hF⟩ : ∃ F, folderAt xs y = F := ⟨_, rfl⟩
        have HF := hid hF
        have HFF := hid (show readFolder (bs (txA xs y)) = F by rw [bs_txA, folderAt_text]; exact hF)
        have HES := hid (show entsOf (bs (txA xs y)) = F.getD [] by rw [bs_txA, entsOf_at, hF])
        clear hF
        go_wp2_with fail
        refine (impl_textOf_c _ xs y _ (HP.out _ (bl_then HD3.out hb)) HS.out).mono ?_
        rw [HHP.out, HTQ.out]
        rintro e w5 ⟨rfl, b5⟩
        have d5 := bl_then hb b5
        have own5 := hown.on b5
        clear b5 hown
        go_wp2_with fail
        refine (impl_ReadFolder_c (txA xs y) _ HT.out (HG.out _ (bl_then HD3.out d5))).mono ?_
        rw [HFF.out, HES.out]
        rintro e w6 ⟨lv, rfl, o6, b6⟩
        have d6 := bl_then d5 b6
        have own6 := own5.on b6
        have hlt5 := hid own5.lt
        clear b6 own5
        cases F with
        | none =>
          have HRN := hid (show R = [] by rw [← HWT.out, absW_no HF.out]; rfl)
          have d9 := bl_then HD3.out d6
          clear o6
          go_wp2
          go_ret
          exact ⟨_, rfl, by rw [HRN.out]; exact Own.nil_, d9⟩
        | some es =>
          have L6 := Rd.of_own o6
          obtain ⟨n3, hn3⟩ : ∃ n3, es.length = n3 := ⟨_, rfl⟩
          have HN3 := hid hn3
          obtain ⟨la, lc, rfl, _, _, _⟩ := L6.ents hn3
          have HEO := hid (folderAt_ok HF.out)
          have hB6 := d6.size
          obtain ⟨Q, hQ⟩ : ∃ Q, firstOf es nm = Q := ⟨_, rfl⟩
          have HQ := hid hQ
          have HJ6 := hid ((d6.cell (p := ⟨b, o + k, none⟩) hbl))
          have HO6 := hid o6
          clear o6 hn3 hQ L6
          go_wp2_with (at_builtin; refine push_str (w0 := w3) rfl _ _ rfl w3.heap.size w3.heap.size _ _ _ own6 d6 hB6 (Nat.le_refl _) rfl rfl (by omega) ?_; intro v7 w7 hown7 hb7 hB7 hg7)
          have L7 : Ents w7 w7.heap.size (.slice la n3 lc) es := by
            have h1 := HO6.out.kept hg7.1 (by
              cases hv : Value.ownBlock (.slice la n3 lc) with
              | none => exact .inl rfl
              | some g => exact .inr (fun e => by have h2 := (HO6.out.lt g hv).1; have h3 := (hlt5.out g e.symm).2; omega))
            exact Rd.of_own h1
          refine (impl_printNamed_c _ es nm _ Q HQ.out L7 HEO.out).mono ?_
          rintro e w8 ⟨rfl, b8⟩
          have d8 := bl_then hb7 b8
          have own8 := hown7.on b8
          cases Q with
          | none =>
            have HRN := hid (show R = acc ++ [txA xs y] by rw [← HWT.out, absW_off HF.out HQ.out]; rfl)
            have d9 := bl_then HD3.out d8
            clear b8 hown7 hb7
            go_wp2
            go_ret
            exact ⟨_, rfl, by rw [HRN.out]; exact own8.less s3, d9⟩
          | some q =>
            have HWN := hid (show ((absW xs q ((ws.map strL).drop (k + 1))).map ((acc ++ [txA xs y]) ++ ·)).getD [] = R by
              rw [← HWT.out, absW_on HF.out HQ.out, Option.map_map]
              congr 2
              funext z; simp)
            clear b8 hown7 hb7
            go_wp2
            go_roundw
            case rel => exact ⟨k + 1, q, _, by omega, by go_num, rfl, own8, HWN, by simp; omega, d8⟩
            case measure => simp [intOf]; omega
      · have HRN := hid (show R = [] by
          rw [← hwt.out, List.drop_of_length_le (by have := HML.out; omega)]
          rfl)
        have d9 := bl_then HD3.out hb
        go_wp2
        go_ret
        exact ⟨_, rfl, by rw [HRN.out]; exact Own.nil_, d9⟩

end Go.Proofs.YtnaahincolooeaaGreatDoor
