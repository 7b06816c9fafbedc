/- Walks and plain facts, joined: ProofT. -/
import Derived.Test.YtnaahincolooeaaGreatDoorMg42
set_option linter.unusedVariables false
set_option linter.unusedSimpArgs false

/- Walks: proofs of paths and of their absence, the reference's way. -/
namespace Go.Proofs.YtnaahincolooeaaGreatDoor
open Go.RowKit

theorem abs_from {xs : List Pc} : ∀ (k : Nat) (ws : List ByteArray) (pr c : Int) (es : List Ent) (nm : ByteArray), walkAt xs pr (ws.take k) = (c, true) → ws[k]? = some nm → folderAt xs c = some es → firstOf es nm = none → absW xs pr ws = some (wayT xs pr (ws.take k))
  | 0, [], pr, c, es, nm, hw, hn, hf, hq => by simp at hn
  | 0, x :: r, pr, c, es, nm, hw, hn, hf, hq => by
    rw [List.take_zero] at hw ⊢
    unfold walkAt at hw
    split at hw
    · simp only [Prod.mk.injEq, and_true] at hw
      simp only [List.getElem?_cons_zero, Option.some.injEq] at hn
      subst hw hn
      exact absW_off hf hq
    · cases hw
  | k + 1, [], pr, c, es, nm, hw, hn, hf, hq => by simp at hn
  | k + 1, x :: r, pr, c, es, nm, hw, hn, hf, hq => by
    rw [List.take_succ_cons] at hw ⊢
    cases hx : firstOf (entsOf (textAt xs pr)) x with
    | none => rw [walk_no hx] at hw; cases hw
    | some q =>
      rw [walk_some hx] at hw
      have ih := abs_from k r q c es nm hw (by simpa using hn) hf hq
      have hF : folderAt xs pr = some (entsOf (textAt xs pr)) := by rw [← folderAt_text]; exact first_folder hx
      rw [absW_on hF hx, ih]
      conv => rhs; unfold wayT
      rw [hx]; rfl
theorem take_path {path : List UInt8} {ws : List (List UInt8)} (hp : pathParts path = some ws) (k : Nat) : pathParts (joinP (ws.take k)) = some (ws.take k) := by
  obtain ⟨h1, h2, _⟩ := pathParts_in hp
  exact parts_join (by rw [List.length_take]; omega) (fun x hx => h2 x (List.mem_of_mem_take hx))
theorem abs_found {xs : List Pc} {root : Int} {path : List UInt8} {ws : List (List UInt8)} {k : Nat} (hs : storeOk xs = true) (hp : pathParts path = some ws) (hk : k < ws.length) (h : absRight root path (pathProof xs root (joinP (ws.take k))) = true) : absProof xs root path = pathProof xs root (joinP (ws.take k)) := by
  obtain ⟨ws', hp', h1, hl, ho, hlast⟩ := abs_parts h
  obtain rfl := Option.some.inj (hp.symm.trans hp')
  have hw : (walkTo xs root (joinP (ws.take k))).2 = true := by
    cases hc : (walkTo xs root (joinP (ws.take k))).2
    · rw [proof_off hc] at h1; simp at h1
    · rfl
  obtain ⟨ws2, c, _, hp2, _, hwa, e⟩ := proof_on hw
  obtain rfl := Option.some.inj ((take_path hp k).symm.trans hp2)
  have hlen : (wayT xs root ((ws.take k).map strL)).length = k + 1 := by rw [wayT_len]; simp; omega
  rw [e, hlen, way_last _ _ _ hwa, Nat.add_sub_cancel] at hlast
  rw [List.map_take] at hwa e
  obtain ⟨nm, hnm⟩ : ∃ nm, (ws.map strL)[k]? = some nm := ⟨_, List.getElem?_eq_getElem (by simpa using hk)⟩
  rw [List.getD_eq_getElem?_getD, hnm] at hlast
  simp only [Option.getD_some] at hlast
  unfold lastOff at hlast
  split at hlast
  · rename_i es hes
    rw [bs_txA, folderAt_text] at hes
    have hq : firstOf es nm = none := by simpa using hlast
    have := abs_from k (ws.map strL) root c es nm hwa hnm hes hq
    rw [e]
    unfold absProof
    rw [hp]
    simp only []
    rw [if_pos hs, this]; rfl
  · cases hlast
theorem abs_none {xs : List Pc} {root : Int} {path : List UInt8} {ws : List (List UInt8)} (hs : storeOk xs = true) (hp : pathParts path = some ws) (h : ∀ k, k < ws.length → absRight root path (pathProof xs root (joinP (ws.take k))) = false) : absProof xs root path = [] := by
  by_cases h0 : absProof xs root path = []
  · exact h0
  · exfalso
    have hr := (abs_facts h0).2
    unfold absProof at hr h0
    rw [hp] at hr h0
    simp only [] at hr h0
    rw [if_pos hs] at hr h0
    cases ha : absW xs root (ws.map strL) with
    | none => rw [ha] at h0; exact h0 rfl
    | some T =>
      rw [ha] at hr
      simp only [Option.getD_some] at hr
      obtain ⟨k, c, es, nm, hk, hwa, _, _, _, rfl⟩ := abs_at hs _ _ _ ha
      have hk' : k < ws.length := by simpa using hk
      have hc := h k hk'
      have hw : (walkTo xs root (joinP (ws.take k))).2 = true := by rw [walk_on hs (take_path hp k), List.map_take, hwa]
      obtain ⟨ws2, c2, _, hp2, _, _, e⟩ := proof_on hw
      obtain rfl := Option.some.inj ((take_path hp k).symm.trans hp2)
      rw [e, List.map_take, hr] at hc
      cases hc
theorem take_size {path : List UInt8} {ws : List (List UInt8)} (hp : pathParts path = some ws) (k : Nat) : (joinP (ws.take k)).length ≤ 40 := by
  obtain ⟨h1, h2, _⟩ := pathParts_in hp
  by_cases h0 : ws.take k = []
  · rw [h0]; decide
  · rw [joinP_on h0 (by rw [List.length_take]; omega) (fun x hx => h2 x (List.mem_of_mem_take hx))]
    have := flat_len_le (fun x : List UInt8 => 47 :: x) 9 (ws.take k) (fun x hx => by have := (word_len (h2 x (List.mem_of_mem_take hx))).2; simp; omega)
    rw [List.length_take] at this
    omega

set_option maxHeartbeats 2000000 in
set_option maxRecDepth 100000 in
theorem spec_PathProof_c (v : Value) (xs : List Pc) (root : Int) (path : ByteArray) (w : World) (R : List ByteArray) (hR : pathProof xs root (bs path) = R) (h : Pcs w w.heap.size v xs) (hx0 : ∀ x ∈ xs, x.text.size ≤ 1048576) (hl0 : xs.length ≤ 1048576) (hp0 : path.size ≤ 900) :
    Calls Tryz.prog 41 #[v, .int .i64 root, .string path] w fun e w' => ∃ v', e = .returned v' ∧ OwnS w' w.heap.size v' R ∧ Below w.heap.size w w' := by
  have HP : Hid (∀ wx, Below w.heap.size w wx → Pcs wx wx.heap.size v xs) := hid fun wx hx => h.on hx
  have HX := hid hx0
  have HL0 := hid hl0
  obtain ⟨⟨y0, ok⟩, hW⟩ : ∃ W, walkTo xs root (bs path) = W := ⟨_, rfl⟩
  have HW := hid hW
  obtain ⟨W1, hW1⟩ : ∃ W1, W1 = w.alloc (.cells #[] 9) := ⟨_, rfl⟩
  have hal : Below w.heap.size w W1 := by rw [hW1]; exact (Below.refl _ _).alloc (Nat.le_refl _) _
  have hown0 : OwnS W1 w.heap.size (.slice (some ⟨w.heap.size, 0, none⟩) 0 0) [] := by rw [hW1]; exact Own.made _ (Nat.le_refl _)
  obtain ⟨P, hPP⟩ : ∃ P, pathParts (bs path) = P := ⟨_, rfl⟩
  have HPA := hid hPP
  obtain ⟨parts, hpts⟩ : ∃ parts, (P.getD []).map strL = parts := ⟨_, rfl⟩
  have HPT := hid hpts
  obtain ⟨m, hml⟩ : ∃ m, parts.length = m := ⟨_, rfl⟩
  have HML := hid hml
  have hm3 : m ≤ 3 := by
    rw [← hml, ← hpts]
    cases P with
    | none => simp
    | some ws => exact (parts_small hPP).2
  have HR0 := hid hR
  clear h hx0 hl0 hPP hpts hml
  cases ok
  · have HR := hid (show R = [] by rw [← HR0.out]; exact proof_off (by rw [hW]))
    clear hR hW
    go_enter Tryz.func41, Tryz.ntmps41
    go_wp2_with fail
    rw [← hW1]
    refine (spec_PathParts_c path _ hp0).mono ?_
    rw [HPA.out, HPT.out]
    rintro e w2 ⟨pv, rfl, o2, b2⟩
    obtain ⟨pa, pc, rfl, _, _, _⟩ := (Rd.of_own o2).strs HML.out
    have d2 := bl_then hal b2
    have own2 := hown0.on b2
    clear o2 b2
    go_wp2_with fail
    refine (spec_WalkTo_c _ xs root path _ _ HW.out (HP.out _ d2) HX.out HL0.out hp0).mono ?_
    rintro e w3 ⟨rfl, b3⟩
    have d3 := bl_then d2 b3
    have own3 := own2.on b3
    have hm0 : (0 : Int) ≤ m := by omega
    clear own2 b3 d2 hW1 hal hown0
    go_wp2
    go_loopw [7, 12, 13, 14, 15, 16] (fun out kv _ _ _ _ wr => kv = .int .i64 (0 : Nat) ∧ out = .slice (some ⟨w.heap.size, 0, none⟩) 0 0 ∧ wr = w3) (fun _ _ _ _ _ _ _ => 0)
    case atStart => exact ⟨rfl, rfl, rfl⟩
    case round =>
      obtain ⟨rfl, rfl, rfl⟩ := hrel
      go_wp2
      go_ret
      exact ⟨_, rfl, by rw [HR.out]; exact own3, d3⟩
  obtain ⟨ws, c, hs, hp, _, hwa, hR2⟩ := proof_on (show (walkTo xs root (bs path)).2 = true by rw [hW])
  have HS := hid hs
  have hpe : ws.map strL = parts := by
    have e1 : P = some ws := HPA.out.symm.trans hp
    rw [← HPT.out, e1]; rfl
  have HWA := hid (show walkAt xs root parts = (c, true) by rw [← hpe]; exact hwa)
  have HR := hid (show wayT xs root parts = R by rw [← hpe, ← hR2, hR])
  clear hR hW hs hp hwa hR2 hpe
  go_enter Tryz.func41, Tryz.ntmps41
  go_wp2_with fail
  rw [← hW1]
  refine (spec_PathParts_c path _ hp0).mono ?_
  rw [HPA.out, HPT.out]
  rintro e w2 ⟨pv, rfl, o2, b2⟩
  have d2 := bl_then hal b2
  have own2 := hown0.on b2
  have hlt2 := hid o2.lt
  have hpb := hid fun g hg => (hown0.lt g hg).2
  obtain ⟨pa, pc, rfl, hpc, _, _⟩ := (Rd.of_own o2).strs HML.out
  go_wp2_with fail
  refine (spec_WalkTo_c _ xs root path _ _ HW.out (HP.out _ d2) HX.out HL0.out hp0).mono ?_
  rintro e w3 ⟨rfl, b3⟩
  have d3 := bl_then d2 b3
  have own3 := own2.on b3
  have o3 := o2.on b3
  have hsz3 := b3.size
  have hm0 : (0 : Int) ≤ m := by omega
  clear own2 b3 d2 o2 b2 hW1 hal hown0
  go_wp2
  go_loopw [7, 12, 13, 14, 15, 16] (fun out kv _ _ _ _ wr => ∃ (ov : Value) (k : Nat) (acc : List ByteArray), ov = out ∧ k ≤ m + 1 ∧ kv = .int .i64 k ∧ OwnS wr w.heap.size ov acc ∧ Hid (acc = (wayT xs root parts).take k) ∧ acc.length ≤ k ∧ OwnS wr W1.heap.size (.slice pa m pc) parts ∧ Hid (∀ g, ov.ownBlock = some g → g < W1.heap.size ∨ w3.heap.size ≤ g) ∧ Below w.heap.size w wr ∧ w3.heap.size ≤ wr.heap.size) (fun _ kv _ _ _ _ _ => m + 1 - (intOf kv).toNat)
  case atStart => exact ⟨_, 0, [], rfl, Nat.zero_le _, rfl, own3, hid (by simp), by simp, o3, hid fun g hg => .inl (hpb.out g hg), d3, Nat.le_refl _⟩
  case round =>
    obtain ⟨ov, k, acc, rfl, hk, rfl, hown, hacc, hlen, hol, hpb2, hb, hsz⟩ := hrel
    clear own3 o3 d3
    by_cases hlt : k ≤ m
    · obtain ⟨c', hw', hwk⟩ := walk_take parts root c HWA.out k (by have := HML.out; omega)
      have HW' := hid hw'
      have HK := hid (show acc ++ [txA xs c'] = (wayT xs root parts).take (k + 1) by rw [take_snoc' hwk, hacc.out])
      have HTQ := hid (show (getP xs c').getD ByteArray.empty = txA xs c' from rfl)
      have hkm : (k : Int) ≤ m := by omega
      have hkc : (k : Int) ≤ pc := by omega
      have HFR := hid (Rd.frontS (q := k) (Rd.of_own hol) HML.out hlt)
      have hB := hb.size
      clear hw' hwk
      go_wp2_with fail
      refine (spec_l9Walk_c _ _ xs root (parts.take k) _ _ HW'.out (HP.out _ hb) HS.out HFR.out).mono ?_
      rintro e w5 ⟨rfl, b5⟩
      have d5 := bl_then hb b5
      have own5 := hown.on b5
      have o5 := hol.on b5
      have hsz5 := Nat.le_trans hsz b5.size
      clear b5 hown hol hb HFR
      go_wp2_with fail
      refine (spec_l4Get_c _ xs c' _ _ (HP.out _ d5)).mono ?_
      rw [HTQ.out]
      rintro e w6 ⟨rfl, rfl⟩
      have hB5 := d5.size
      go_wp2_with (at_builtin; refine push_str (w0 := w) rfl _ _ rfl w.heap.size w.heap.size _ _ _ own5 d5 hB5 (Nat.le_refl _) rfl rfl (by omega) ?_; intro v' w' hown' hb' hB' hg')
      go_roundw
      case rel =>
        refine ⟨_, k + 1, _, rfl, by omega, by go_num, hown', HK, by simp; omega, Own.kept o5 hg'.1 ?_, hid fun g hg => ?_, hb', Nat.le_trans hsz5 hg'.1.size⟩
        · cases hv : Value.ownBlock (.slice pa m pc) with
          | none => exact .inl rfl
          | some g =>
            refine .inr (fun e => ?_)
            have h5 := hlt2.out g hv
            rcases hpb2.out g e.symm with h6 | h6
            · omega
            · omega
        · rcases hg'.2 g hg with h6 | h6
          · exact hpb2.out g h6
          · exact .inr (by omega)
      case measure => simp [intOf]; omega
    · have HA := hid (show acc = R by rw [← HR.out, hacc.out, take_all (n := m + 1) (by rw [wayT_len, HML.out]) (show m + 1 ≤ k by omega)])
      have hkm : ¬ ((k : Int) ≤ m) := by omega
      go_wp2
      go_ret
      exact ⟨_, rfl, by rw [← HA.out]; exact hown, hb⟩

set_option maxHeartbeats 2000000 in
set_option maxRecDepth 100000 in
theorem spec_AbsenceProof_c (v : Value) (xs : List Pc) (root : Int) (path : ByteArray) (w : World) (R : List ByteArray) (hR : absProof xs root (bs path) = R) (h : Pcs w w.heap.size v xs) (hx0 : ∀ x ∈ xs, x.text.size ≤ 1048576) (hl0 : xs.length ≤ 1048576) (hp0 : path.size ≤ 900) :
    Calls Tryz.prog 53 #[v, .int .i64 root, .string path] w fun e w' => ∃ v', e = .returned v' ∧ OwnS w' w.heap.size v' R ∧ Below w.heap.size w w' := by
  have HP : Hid (∀ wx, Below w.heap.size w wx → Pcs wx wx.heap.size v xs) := hid fun wx hx => h.on hx
  have HX := hid hx0
  have HL0 := hid hl0
  have HR0 := hid hR
  obtain ⟨P, hPP⟩ : ∃ P, pathParts (bs path) = P := ⟨_, rfl⟩
  have HPA := hid hPP
  clear h hx0 hl0 hR hPP
  cases P with
  | none =>
    have HR := hid (show R = [] by rw [← HR0.out]; unfold absProof; rw [HPA.out])
    go_enter Tryz.func53, Tryz.ntmps53
    go_wp2_with fail
    refine (spec_PathParts_c path _ hp0).mono ?_
    rw [HPA.out]
    rintro e w2 ⟨pv, rfl, o2, b2⟩
    have s2 := b2.size
    clear o2
    go_wp2
    go_ret
    exact ⟨_, rfl, by rw [HR.out]; exact Own.made _ s2, b2.alloc s2 _⟩
  | some ws =>
    cases hok : storeOk xs
    · have HR := hid (show R = [] by rw [← HR0.out]; unfold absProof; rw [HPA.out, hok]; rfl)
      have HK := hid hok
      clear hok
      go_enter Tryz.func53, Tryz.ntmps53
      go_wp2_with fail
      refine (spec_PathParts_c path _ hp0).mono ?_
      rw [HPA.out]
      rintro e w2 ⟨pv, rfl, o2, b2⟩
      have s2 := b2.size
      clear o2
      go_wp2_with fail
      refine (spec_StoreValid_c _ xs _ _ (HP.out _ b2) HX.out HL0.out).mono ?_
      rw [HK.out]
      rintro e w3 ⟨rfl, z, rfl⟩
      have d3 := bl_drewN b2 z
      go_wp2
      go_ret
      exact ⟨_, rfl, by rw [HR.out]; exact Own.made (w2.drewN z) s2, d3.alloc s2 _⟩
    have HS := hid hok
    obtain ⟨parts, hpts⟩ : ∃ parts, ws.map strL = parts := ⟨_, rfl⟩
    have HPT := hid hpts
    obtain ⟨m, hml⟩ : ∃ m, parts.length = m := ⟨_, rfl⟩
    have HML := hid hml
    have HWM := hid (show ws.length = m by rw [← hml, ← hpts]; simp)
    have hm3 : m ≤ 3 := by rw [← hml, ← hpts]; exact (parts_small HPA.out).2
    have HSM := hid (show ∀ x ∈ parts, x.size ≤ 1000 by rw [← hpts]; exact (parts_small HPA.out).1)
    have HJ := hid (show ∀ k, strL (joinP ((parts.take k).map bs)) = strL (joinP (ws.take k)) from fun k => by
      have e : ∀ l : List (List UInt8), (l.map strL).map bs = l := fun l => by
        rw [List.map_map]
        conv => rhs; rw [← List.map_id l]
        exact List.map_congr_left (fun x _ => by simp [bs_strL])
      rw [← hpts, ← List.map_take, e])
    clear hok hml hpts
    go_enter Tryz.func53, Tryz.ntmps53
    go_wp2_with fail
    refine (spec_PathParts_c path _ hp0).mono ?_
    rw [HPA.out]
    rintro e w2 ⟨pv, rfl, o2, b2⟩
    have r2 : Strs w2 w2.heap.size pv parts := by have := Rd.of_own o2; rw [Option.getD_some, HPT.out] at this; exact this
    obtain ⟨pa, pc, rfl, hpc, _, _⟩ := r2.strs HML.out
    have R2 := hid r2
    clear o2 r2
    go_wp2_with fail
    refine (spec_StoreValid_c _ xs _ _ (HP.out _ b2) HX.out HL0.out).mono ?_
    rw [HS.out]
    rintro e w3 ⟨rfl, z, rfl⟩
    have D2 := hid b2
    have s2 := b2.size
    clear b2
    go_wp2
    go_loopw [9, 10] (fun kv _ wr => ∃ k : Nat, k ≤ m ∧ kv = .int .i64 k ∧ Hid (∀ i, i < k → absRight root (bs path) (pathProof xs root (joinP (ws.take i))) = false) ∧ Below w2.heap.size w2 wr) (fun kv _ _ => m - (intOf kv).toNat)
    case atStart => exact ⟨0, Nat.zero_le _, rfl, hid (fun i hi => absurd hi (by omega)), bl_drewN (Below.refl _ _) z⟩
    case round =>
      obtain ⟨k, hk, rfl, hno, hb⟩ := hrel
      by_cases hlt : k < m
      · have hkm : (k : Int) < m := by omega
        have hkc : (k : Int) ≤ pc := by omega
        have HFR := hid (Rd.frontS (q := k) (R2.out.on hb) HML.out (by omega))
        have HSK := hid (show ∀ x ∈ parts.take k, x.size ≤ 1000 from fun x hx => HSM.out x (List.mem_of_mem_take hx))
        have HLK := hid (show (parts.take k).length ≤ 1000 by rw [List.length_take]; omega)
        obtain ⟨T, hT⟩ : ∃ T, pathProof xs root (joinP (ws.take k)) = T := ⟨_, rfl⟩
        have HT := hid hT
        have HTS := hid (show ∀ t ∈ T, t.size ≤ 1000000 from fun t ht => by rw [← hT] at ht; have := pathProof_small t ht; omega)
        obtain ⟨ab, hab⟩ : ∃ ab, absRight root (bs path) T = ab := ⟨_, rfl⟩
        have HAB := hid hab
        have HPS := hid (show (strL (joinP (ws.take k))).size ≤ 900 by rw [strL_size]; have := take_size HPA.out k; omega)
        clear hT hab
        go_wp2_with fail
        refine (spec_JoinPath_c _ (parts.take k) _ HFR.out HSK.out HLK.out).mono ?_
        rw [HJ.out]
        rintro e w5 ⟨rfl, rfl⟩
        go_wp2_with fail
        refine (spec_PathProof_c _ xs root (strL (joinP (ws.take k))) _ T (by rw [bs_strL]; exact HT.out) (HP.out _ (bl_then D2.out hb)) HX.out HL0.out HPS.out).mono ?_
        rintro e w6 ⟨tv, rfl, o6, b6⟩
        have d6 := bl_then hb b6
        have T6 := hid (Rd.of_own o6)
        have O6 := hid o6
        have hsz := hb.size
        clear o6 b6
        go_wp2_with fail
        refine (spec_AbsenceRight_c root path _ T _ ab HAB.out T6.out HTS.out hp0).mono ?_
        rintro e w7 ⟨rfl, b7⟩
        have d7 := bl_then d6 b7
        have O7 := hid (O6.out.on b7)
        clear b7 d6
        cases ab
        · have HNX := hid (show ∀ i, i < k + 1 → absRight root (bs path) (pathProof xs root (joinP (ws.take i))) = false from fun i hi => by
            rcases Nat.lt_succ_iff_lt_or_eq.1 hi with h | h
            · exact hno.out i h
            · rw [h, HT.out]; exact HAB.out)
          go_wp2
          go_roundw
          case rel => exact ⟨k + 1, by omega, by go_num, HNX, d7⟩
          case measure => simp [intOf]; omega
        · have HRF := hid (show R = T by
            have := abs_found HS.out HPA.out (k := k) (by have := HWM.out; omega) (by rw [HT.out]; exact HAB.out)
            rw [← HR0.out, this, HT.out])
          have d9 := bl_then D2.out d7
          go_wp2
          go_ret
          exact ⟨_, rfl, by rw [HRF.out]; exact O7.out.less (Nat.le_trans s2 hsz), d9⟩
      · have HRF := hid (show R = [] by
          rw [← HR0.out]
          exact abs_none HS.out HPA.out (fun i hi => hno.out i (by have := HWM.out; omega)))
        have d9 := bl_then D2.out hb
        have s9 := d9.size
        go_wp2
        go_ret
        exact ⟨_, rfl, by rw [HRF.out]; exact Own.made _ s9, d9.alloc s9 _⟩

end Go.Proofs.YtnaahincolooeaaGreatDoor
