/- Walks and plain facts, joined: ProofT', DrawPf', NamW'. -/
import Derived.Test.YtachfmlfmpaddaaGreatDoorMg2
import Derived.Test.YtachfmlfmpaddaaGreatDoorMg3
import Derived.Test.YtachfmlfmpaddaaGreatDoorMg4
import Derived.Test.YtachfmlfmpaddaaGreatDoorMg5
import Derived.Test.YtachfmlfmpaddaaGreatDoorMg6
import Derived.Test.YtachfmlfmpaddaaGreatDoorMg7
import Derived.Test.YtachfmlfmpaddaaGreatDoorMg8
import Derived.Test.YtachfmlfmpaddaaGreatDoorMg9
import Derived.Test.YtachfmlfmpaddaaGreatDoorMg11
import Derived.Test.YtachfmlfmpaddaaGreatDoorMg13
import Derived.Test.YtachfmlfmpaddaaGreatDoorMg14
import Derived.Test.YtachfmlfmpaddaaGreatDoorMg15
import Derived.Test.YtachfmlfmpaddaaGreatDoorMg16
import Derived.Test.YtachfmlfmpaddaaGreatDoorMg17
import Derived.Test.YtachfmlfmpaddaaGreatDoorMg20
import Derived.Test.YtachfmlfmpaddaaGreatDoorMg22
import Derived.Test.YtachfmlfmpaddaaGreatDoorMg23
import Derived.Test.YtachfmlfmpaddaaGreatDoorMg25
import Derived.Test.YtachfmlfmpaddaaGreatDoorMg30
import Derived.Test.YtachfmlfmpaddaaGreatDoorMg31
import Derived.Test.YtachfmlfmpaddaaGreatDoorMg33
import Derived.Test.YtachfmlfmpaddaaGreatDoorMg36
import Derived.Test.YtachfmlfmpaddaaGreatDoorMg37
import Derived.Test.YtachfmlfmpaddaaGreatDoorMg38
import Derived.Test.YtachfmlfmpaddaaGreatDoorMg40
import Derived.Test.YtachfmlfmpaddaaGreatDoorMg41
import Derived.Test.YtachfmlfmpaddaaGreatDoorMg44
set_option linter.unusedVariables false
set_option linter.unusedSimpArgs false

/- Walks: proofs of paths and of their absence, the reference's way. -/
namespace Go.Proofs.YtachfmlfmpaddaaGreatDoor
open Go.RowKit

theorem abs_from {xs : List Pc} : ∀ (k : Nat) (ws : List ByteArray) (pr c : Int) (es : List Ent) (nm : ByteArray), walkAt xs pr (ws.take k) = (c, true) → ws[k]? = some nm → folderAt xs c = some es → firstOf es nm = none → absW xs pr ws = some (wayT xs pr (ws.take k))
  | 0, [], pr, c, es, nm, hw, hn, hf, hq => by simp at hn
  | 0, x :: r, pr, c, es, nm, hw, hn, hf, hq => by
    rw [List.take_zero] at hw ⊢
    unfold walkAt at hw
    split at hw
    · simp only [Prod.mk.injEq, and_true] at hw
      simp only [List.getElem?_cons_zero, Option.some.injEq] at hn
      subst hw hn
      exact absW_off hf hq
    · cases hw
  | k + 1, [], pr, c, es, nm, hw, hn, hf, hq => by simp at hn
  | k + 1, x :: r, pr, c, es, nm, hw, hn, hf, hq => by
    rw [List.take_succ_cons] at hw ⊢
    cases hx : firstOf (entsOf (textAt xs pr)) x with
    | none => rw [walk_no hx] at hw; cases hw
    | some q =>
      rw [walk_some hx] at hw
      have ih := abs_from k r q c es nm hw (by simpa using hn) hf hq
      have hF : folderAt xs pr = some (entsOf (textAt xs pr)) := by rw [← folderAt_text]; exact first_folder hx
      rw [absW_on hF hx, ih]
      conv => rhs; unfold wayT
      rw [hx]; rfl
theorem take_path {path : List UInt8} {ws : List (List UInt8)} (hp : pathParts path = some ws) (k : Nat) : pathParts (joinP (ws.take k)) = some (ws.take k) := by
  obtain ⟨h1, h2, _⟩ := pathParts_in hp
  exact parts_join (by rw [List.length_take]; omega) (fun x hx => h2 x (List.mem_of_mem_take hx))
theorem abs_found {xs : List Pc} {root : Int} {path : List UInt8} {ws : List (List UInt8)} {k : Nat} (hs : storeOk xs = true) (hp : pathParts path = some ws) (hk : k < ws.length) (h : absRight root path (pathProof xs root (joinP (ws.take k))) = true) : absProof xs root path = pathProof xs root (joinP (ws.take k)) := by
  obtain ⟨ws', hp', h1, hl, ho, hlast⟩ := abs_parts h
  obtain rfl := Option.some.inj (hp.symm.trans hp')
  have hw : (walkTo xs root (joinP (ws.take k))).2 = true := by
    cases hc : (walkTo xs root (joinP (ws.take k))).2
    · rw [proof_off hc] at h1; simp at h1
    · rfl
  obtain ⟨ws2, c, _, hp2, _, hwa, e⟩ := proof_on hw
  obtain rfl := Option.some.inj ((take_path hp k).symm.trans hp2)
  have hlen : (wayT xs root ((ws.take k).map strL)).length = k + 1 := by rw [wayT_len]; simp; omega
  rw [e, hlen, way_last _ _ _ hwa, Nat.add_sub_cancel] at hlast
  rw [List.map_take] at hwa e
  obtain ⟨nm, hnm⟩ : ∃ nm, (ws.map strL)[k]? = some nm := ⟨_, List.getElem?_eq_getElem (by simpa using hk)⟩
  rw [List.getD_eq_getElem?_getD, hnm] at hlast
  simp only [Option.getD_some] at hlast
  unfold lastOff at hlast
  split at hlast
  · rename_i es hes
    rw [bs_txA, folderAt_text] at hes
    have hq : firstOf es nm = none := by simpa using hlast
    have := abs_from k (ws.map strL) root c es nm hwa hnm hes hq
    rw [e]
    unfold absProof
    rw [hp]
    simp only []
    rw [if_pos hs, this]; rfl
  · cases hlast
theorem abs_none {xs : List Pc} {root : Int} {path : List UInt8} {ws : List (List UInt8)} (hs : storeOk xs = true) (hp : pathParts path = some ws) (h : ∀ k, k < ws.length → absRight root path (pathProof xs root (joinP (ws.take k))) = false) : absProof xs root path = [] := by
  by_cases h0 : absProof xs root path = []
  · exact h0
  · exfalso
    have hr := (abs_facts h0).2
    unfold absProof at hr h0
    rw [hp] at hr h0
    simp only [] at hr h0
    rw [if_pos hs] at hr h0
    cases ha : absW xs root (ws.map strL) with
    | none => rw [ha] at h0; exact h0 rfl
    | some T =>
      rw [ha] at hr
      simp only [Option.getD_some] at hr
      obtain ⟨k, c, es, nm, hk, hwa, _, _, _, rfl⟩ := abs_at hs _ _ _ ha
      have hk' : k < ws.length := by simpa using hk
      have hc := h k hk'
      have hw : (walkTo xs root (joinP (ws.take k))).2 = true := by rw [walk_on hs (take_path hp k), List.map_take, hwa]
      obtain ⟨ws2, c2, _, hp2, _, _, e⟩ := proof_on hw
      obtain rfl := Option.some.inj ((take_path hp k).symm.trans hp2)
      rw [e, List.map_take, hr] at hc
      cases hc
theorem take_size {path : List UInt8} {ws : List (List UInt8)} (hp : pathParts path = some ws) (k : Nat) : (joinP (ws.take k)).length ≤ 40 := by
  obtain ⟨h1, h2, _⟩ := pathParts_in hp
  by_cases h0 : ws.take k = []
  · rw [h0]; decide
  · rw [joinP_on h0 (by rw [List.length_take]; omega) (fun x hx => h2 x (List.mem_of_mem_take hx))]
    have := flat_len_le (fun x : List UInt8 => 47 :: x) 9 (ws.take k) (fun x hx => by have := (word_len (h2 x (List.mem_of_mem_take hx))).2; simp; omega)
    rw [List.length_take] at this
    omega

set_option maxHeartbeats 2000000 in
set_option maxRecDepth 100000 in
theorem spec_PathProof_c (v : Value) (xs : List Pc) (root : Int) (path : ByteArray) (w : World) (R : List ByteArray) (hR : pathProof xs root (bs path) = R) (h : Pcs w w.heap.size v xs) (hx0 : ∀ x ∈ xs, x.text.size ≤ 1048576) (hl0 : xs.length ≤ 1048576) (hp0 : path.size ≤ 900) :
    Calls Tryz.prog 75 #[v, .int .i64 root, .string path] w fun e w' => ∃ v', e = .returned v' ∧ OwnS w' w.heap.size v' R ∧ Below w.heap.size w w' := by
  have HP : Hid (∀ wx, Below w.heap.size w wx → Pcs wx wx.heap.size v xs) := hid fun wx hx => h.on hx
  have HX := hid hx0
  have HL0 := hid hl0
  obtain ⟨⟨y0, ok⟩, hW⟩ : ∃ W, walkTo xs root (bs path) = W := ⟨_, rfl⟩
  have HW := hid hW
  obtain ⟨W1, hW1⟩ : ∃ W1, W1 = w.alloc (.cells #[] 9) := ⟨_, rfl⟩
  have hal : Below w.heap.size w W1 := by rw [hW1]; exact (Below.refl _ _).alloc (Nat.le_refl _) _
  have hown0 : OwnS W1 w.heap.size (.slice (some ⟨w.heap.size, 0, none⟩) 0 0) [] := by rw [hW1]; exact Own.made _ (Nat.le_refl _)
  obtain ⟨P, hPP⟩ : ∃ P, pathParts (bs path) = P := ⟨_, rfl⟩
  have HPA := hid hPP
  obtain ⟨parts, hpts⟩ : ∃ parts, (P.getD []).map strL = parts := ⟨_, rfl⟩
  have HPT := hid hpts
  obtain ⟨m, hml⟩ : ∃ m, parts.length = m := ⟨_, rfl⟩
  have HML := hid hml
  have hm3 : m ≤ 3 := by
    rw [← hml, ← hpts]
    cases P with
    | none => simp
    | some ws => exact (parts_small hPP).2
  have HR0 := hid hR
  clear h hx0 hl0 hPP hpts hml
  cases ok
  · have HR := hid (show R = [] by rw [← HR0.out]; exact proof_off (by rw [hW]))
    clear hR hW
    go_enter Tryz.func75, Tryz.ntmps75
    go_wp2_with fail
    rw [← hW1]
    refine (spec_PathParts_c path _ hp0).mono ?_
    rw [HPA.out, HPT.out]
    rintro e w2 ⟨pv, rfl, o2, b2⟩
    obtain ⟨pa, pc, rfl, _, _, _⟩ := (Rd.of_own o2).strs HML.out
    have d2 := bl_then hal b2
    have own2 := hown0.on b2
    clear o2 b2
    go_wp2_with fail
    refine (spec_WalkTo_c _ xs root path _ _ HW.out (HP.out _ d2) HX.out HL0.out hp0).mono ?_
    rintro e w3 ⟨rfl, b3⟩
    have d3 := bl_then d2 b3
    have own3 := own2.on b3
    have hm0 : (0 : Int) ≤ m := by omega
    clear own2 b3 d2 hW1 hal hown0
    go_wp2
    go_loopw [7, 12, 13, 14, 15, 16] (fun out kv _ _ _ _ wr => kv = .int .i64 (0 : Nat) ∧ out = .slice (some ⟨w.heap.size, 0, none⟩) 0 0 ∧ wr = w3) (fun _ _ _ _ _ _ _ => 0)
    case atStart => exact ⟨rfl, rfl, rfl⟩
    case round =>
      obtain ⟨rfl, rfl, rfl⟩ := hrel
      go_wp2
      go_ret
      exact ⟨_, rfl, by rw [HR.out]; exact own3, d3⟩
  obtain ⟨ws, c, hs, hp, _, hwa, hR2⟩ := proof_on (show (walkTo xs root (bs path)).2 = true by rw [hW])
  have HS := hid hs
  have hpe : ws.map strL = parts := by
    have e1 : P = some ws := HPA.out.symm.trans hp
    rw [← HPT.out, e1]; rfl
  have HWA := hid (show walkAt xs root parts = (c, true) by rw [← hpe]; exact hwa)
  have HR := hid (show wayT xs root parts = R by rw [← hpe, ← hR2, hR])
  clear hR hW hs hp hwa hR2 hpe
  go_enter Tryz.func75, Tryz.ntmps75
  go_wp2_with fail
  rw [← hW1]
  refine (spec_PathParts_c path _ hp0).mono ?_
  rw [HPA.out, HPT.out]
  rintro e w2 ⟨pv, rfl, o2, b2⟩
  have d2 := bl_then hal b2
  have own2 := hown0.on b2
  have hlt2 := hid o2.lt
  have hpb := hid fun g hg => (hown0.lt g hg).2
  obtain ⟨pa, pc, rfl, hpc, _, _⟩ := (Rd.of_own o2).strs HML.out
  go_wp2_with fail
  refine (spec_WalkTo_c _ xs root path _ _ HW.out (HP.out _ d2) HX.out HL0.out hp0).mono ?_
  rintro e w3 ⟨rfl, b3⟩
  have d3 := bl_then d2 b3
  have own3 := own2.on b3
  have o3 := o2.on b3
  have hsz3 := b3.size
  have hm0 : (0 : Int) ≤ m := by omega
  clear own2 b3 d2 o2 b2 hW1 hal hown0
  go_wp2
  go_loopw [7, 12, 13, 14, 15, 16] (fun out kv _ _ _ _ wr => ∃ (ov : Value) (k : Nat) (acc : List ByteArray), ov = out ∧ k ≤ m + 1 ∧ kv = .int .i64 k ∧ OwnS wr w.heap.size ov acc ∧ Hid (acc = (wayT xs root parts).take k) ∧ acc.length ≤ k ∧ OwnS wr W1.heap.size (.slice pa m pc) parts ∧ Hid (∀ g, ov.ownBlock = some g → g < W1.heap.size ∨ w3.heap.size ≤ g) ∧ Below w.heap.size w wr ∧ w3.heap.size ≤ wr.heap.size) (fun _ kv _ _ _ _ _ => m + 1 - (intOf kv).toNat)
  case atStart => exact ⟨_, 0, [], rfl, Nat.zero_le _, rfl, own3, hid (by simp), by simp, o3, hid fun g hg => .inl (hpb.out g hg), d3, Nat.le_refl _⟩
  case round =>
    obtain ⟨ov, k, acc, rfl, hk, rfl, hown, hacc, hlen, hol, hpb2, hb, hsz⟩ := hrel
    clear own3 o3 d3
    by_cases hlt : k ≤ m
    · obtain ⟨c', hw', hwk⟩ := walk_take parts root c HWA.out k (by have := HML.out; omega)
      have HW' := hid hw'
      have HK := hid (show acc ++ [txA xs c'] = (wayT xs root parts).take (k + 1) by rw [take_snoc' hwk, hacc.out])
      have HTQ := hid (show (getP xs c').getD ByteArray.empty = txA xs c' from rfl)
      have hkm : (k : Int) ≤ m := by omega
      have hkc : (k : Int) ≤ pc := by omega
      have HFR := hid (Rd.frontS (q := k) (Rd.of_own hol) HML.out hlt)
      have hB := hb.size
      clear hw' hwk
      go_wp2_with fail
      refine (spec_l9Walk_c _ _ xs root (parts.take k) _ _ HW'.out (HP.out _ hb) HS.out HFR.out).mono ?_
      rintro e w5 ⟨rfl, b5⟩
      have d5 := bl_then hb b5
      have own5 := hown.on b5
      have o5 := hol.on b5
      have hsz5 := Nat.le_trans hsz b5.size
      clear b5 hown hol hb HFR
      go_wp2_with fail
      refine (spec_l4Get_c _ xs c' _ _ (HP.out _ d5)).mono ?_
      rw [HTQ.out]
      rintro e w6 ⟨rfl, rfl⟩
      have hB5 := d5.size
      go_wp2_with (at_builtin; refine push_str (w0 := w) rfl _ _ rfl w.heap.size w.heap.size _ _ _ own5 d5 hB5 (Nat.le_refl _) rfl rfl (by omega) ?_; intro v' w' hown' hb' hB' hg')
      go_roundw
      case rel =>
        refine ⟨_, k + 1, _, rfl, by omega, by go_num, hown', HK, by simp; omega, Own.kept o5 hg'.1 ?_, hid fun g hg => ?_, hb', Nat.le_trans hsz5 hg'.1.size⟩
        · cases hv : Value.ownBlock (.slice pa m pc) with
          | none => exact .inl rfl
          | some g =>
            refine .inr (fun e => ?_)
            have h5 := hlt2.out g hv
            rcases hpb2.out g e.symm with h6 | h6
            · omega
            · omega
        · rcases hg'.2 g hg with h6 | h6
          · exact hpb2.out g h6
          · exact .inr (by omega)
      case measure => simp [intOf]; omega
    · have HA := hid (show acc = R by rw [← HR.out, hacc.out, take_all (n := m + 1) (by rw [wayT_len, HML.out]) (show m + 1 ≤ k by omega)])
      have hkm : ¬ ((k : Int) ≤ m) := by omega
      go_wp2
      go_ret
      exact ⟨_, rfl, by rw [← HA.out]; exact hown, hb⟩

set_option maxHeartbeats 2000000 in
set_option maxRecDepth 100000 in
theorem spec_AbsenceProof_c (v : Value) (xs : List Pc) (root : Int) (path : ByteArray) (w : World) (R : List ByteArray) (hR : absProof xs root (bs path) = R) (h : Pcs w w.heap.size v xs) (hx0 : ∀ x ∈ xs, x.text.size ≤ 1048576) (hl0 : xs.length ≤ 1048576) (hp0 : path.size ≤ 900) :
    Calls Tryz.prog 29 #[v, .int .i64 root, .string path] w fun e w' => ∃ v', e = .returned v' ∧ OwnS w' w.heap.size v' R ∧ Below w.heap.size w w' := by
  have HP : Hid (∀ wx, Below w.heap.size w wx → Pcs wx wx.heap.size v xs) := hid fun wx hx => h.on hx
  have HX := hid hx0
  have HL0 := hid hl0
  have HR0 := hid hR
  obtain ⟨P, hPP⟩ : ∃ P, pathParts (bs path) = P := ⟨_, rfl⟩
  have HPA := hid hPP
  clear h hx0 hl0 hR hPP
  cases P with
  | none =>
    have HR := hid (show R = [] by rw [← HR0.out]; unfold absProof; rw [HPA.out])
    go_enter Tryz.func29, Tryz.ntmps29
    go_wp2_with fail
    refine (spec_PathParts_c path _ hp0).mono ?_
    rw [HPA.out]
    rintro e w2 ⟨pv, rfl, o2, b2⟩
    have s2 := b2.size
    clear o2
    go_wp2
    go_ret
    exact ⟨_, rfl, by rw [HR.out]; exact Own.made _ s2, b2.alloc s2 _⟩
  | some ws =>
    cases hok : storeOk xs
    · have HR := hid (show R = [] by rw [← HR0.out]; unfold absProof; rw [HPA.out, hok]; rfl)
      have HK := hid hok
      clear hok
      go_enter Tryz.func29, Tryz.ntmps29
      go_wp2_with fail
      refine (spec_PathParts_c path _ hp0).mono ?_
      rw [HPA.out]
      rintro e w2 ⟨pv, rfl, o2, b2⟩
      have s2 := b2.size
      clear o2
      go_wp2_with fail
      refine (spec_StoreValid_c _ xs _ _ (HP.out _ b2) HX.out HL0.out).mono ?_
      rw [HK.out]
      rintro e w3 ⟨rfl, z, rfl⟩
      have d3 := bl_drewN b2 z
      go_wp2
      go_ret
      exact ⟨_, rfl, by rw [HR.out]; exact Own.made (w2.drewN z) s2, d3.alloc s2 _⟩
    have HS := hid hok
    obtain ⟨parts, hpts⟩ : ∃ parts, ws.map strL = parts := ⟨_, rfl⟩
    have HPT := hid hpts
    obtain ⟨m, hml⟩ : ∃ m, parts.length = m := ⟨_, rfl⟩
    have HML := hid hml
    have HWM := hid (show ws.length = m by rw [← hml, ← hpts]; simp)
    have hm3 : m ≤ 3 := by rw [← hml, ← hpts]; exact (parts_small HPA.out).2
    have HSM := hid (show ∀ x ∈ parts, x.size ≤ 1000 by rw [← hpts]; exact (parts_small HPA.out).1)
    have HJ := hid (show ∀ k, strL (joinP ((parts.take k).map bs)) = strL (joinP (ws.take k)) from fun k => by
      have e : ∀ l : List (List UInt8), (l.map strL).map bs = l := fun l => by
        rw [List.map_map]
        conv => rhs; rw [← List.map_id l]
        exact List.map_congr_left (fun x _ => by simp [bs_strL])
      rw [← hpts, ← List.map_take, e])
    clear hok hml hpts
    go_enter Tryz.func29, Tryz.ntmps29
    go_wp2_with fail
    refine (spec_PathParts_c path _ hp0).mono ?_
    rw [HPA.out]
    rintro e w2 ⟨pv, rfl, o2, b2⟩
    have r2 : Strs w2 w2.heap.size pv parts := by have := Rd.of_own o2; rw [Option.getD_some, HPT.out] at this; exact this
    obtain ⟨pa, pc, rfl, hpc, _, _⟩ := r2.strs HML.out
    have R2 := hid r2
    clear o2 r2
    go_wp2_with fail
    refine (spec_StoreValid_c _ xs _ _ (HP.out _ b2) HX.out HL0.out).mono ?_
    rw [HS.out]
    rintro e w3 ⟨rfl, z, rfl⟩
    have D2 := hid b2
    have s2 := b2.size
    clear b2
    go_wp2
    go_loopw [9, 10] (fun kv _ wr => ∃ k : Nat, k ≤ m ∧ kv = .int .i64 k ∧ Hid (∀ i, i < k → absRight root (bs path) (pathProof xs root (joinP (ws.take i))) = false) ∧ Below w2.heap.size w2 wr) (fun kv _ _ => m - (intOf kv).toNat)
    case atStart => exact ⟨0, Nat.zero_le _, rfl, hid (fun i hi => absurd hi (by omega)), bl_drewN (Below.refl _ _) z⟩
    case round =>
      obtain ⟨k, hk, rfl, hno, hb⟩ := hrel
      by_cases hlt : k < m
      · have hkm : (k : Int) < m := by omega
        have hkc : (k : Int) ≤ pc := by omega
        have HFR := hid (Rd.frontS (q := k) (R2.out.on hb) HML.out (by omega))
        have HSK := hid (show ∀ x ∈ parts.take k, x.size ≤ 1000 from fun x hx => HSM.out x (List.mem_of_mem_take hx))
        have HLK := hid (show (parts.take k).length ≤ 1000 by rw [List.length_take]; omega)
        obtain ⟨T, hT⟩ : ∃ T, pathProof xs root (joinP (ws.take k)) = T := ⟨_, rfl⟩
        have HT := hid hT
        have HTS := hid (show ∀ t ∈ T, t.size ≤ 1000000 from fun t ht => by rw [← hT] at ht; have := pathProof_small t ht; omega)
        obtain ⟨ab, hab⟩ : ∃ ab, absRight root (bs path) T = ab := ⟨_, rfl⟩
        have HAB := hid hab
        have HPS := hid (show (strL (joinP (ws.take k))).size ≤ 900 by rw [strL_size]; have := take_size HPA.out k; omega)
        clear hT hab
        go_wp2_with fail
        refine (spec_JoinPath_c _ (parts.take k) _ HFR.out HSK.out HLK.out).mono ?_
        rw [HJ.out]
        rintro e w5 ⟨rfl, rfl⟩
        go_wp2_with fail
        refine (spec_PathProof_c _ xs root (strL (joinP (ws.take k))) _ T (by rw [bs_strL]; exact HT.out) (HP.out _ (bl_then D2.out hb)) HX.out HL0.out HPS.out).mono ?_
        rintro e w6 ⟨tv, rfl, o6, b6⟩
        have d6 := bl_then hb b6
        have T6 := hid (Rd.of_own o6)
        have O6 := hid o6
        have hsz := hb.size
        clear o6 b6
        go_wp2_with fail
        refine (spec_AbsenceRight_c root path _ T _ ab HAB.out T6.out HTS.out hp0).mono ?_
        rintro e w7 ⟨rfl, b7⟩
        have d7 := bl_then d6 b7
        have O7 := hid (O6.out.on b7)
        clear b7 d6
        cases ab
        · have HNX := hid (show ∀ i, i < k + 1 → absRight root (bs path) (pathProof xs root (joinP (ws.take i))) = false from fun i hi => by
            rcases Nat.lt_succ_iff_lt_or_eq.1 hi with h | h
            · exact hno.out i h
            · rw [h, HT.out]; exact HAB.out)
          go_wp2
          go_roundw
          case rel => exact ⟨k + 1, by omega, by go_num, HNX, d7⟩
          case measure => simp [intOf]; omega
        · have HRF := hid (show R = T by
            have := abs_found HS.out HPA.out (k := k) (by have := HWM.out; omega) (by rw [HT.out]; exact HAB.out)
            rw [← HR0.out, this, HT.out])
          have d9 := bl_then D2.out d7
          go_wp2
          go_ret
          exact ⟨_, rfl, by rw [HRF.out]; exact O7.out.less (Nat.le_trans s2 hsz), d9⟩
      · have HRF := hid (show R = [] by
          rw [← HR0.out]
          exact abs_none HS.out HPA.out (fun i hi => hno.out i (by have := HWM.out; omega)))
        have d9 := bl_then D2.out hb
        have s9 := d9.size
        go_wp2
        go_ret
        exact ⟨_, rfl, by rw [HRF.out]; exact Own.made _ s9, d9.alloc s9 _⟩

end Go.Proofs.YtachfmlfmpaddaaGreatDoor

/- Walks: drawn proofs. -/
namespace Go.Proofs.YtachfmlfmpaddaaGreatDoor
open Go.RowKit

theorem gb_two {w w1 w2 : World} {g : Nat} (hd : Below w.heap.size w w1) (hg : w1.grownBy w2 (some g)) (h : w.heap.size ≤ g) : Below w.heap.size w w2 := hd.grown hg hd.size (fun b hb => by simp at hb; omega)
theorem own_setS {w : World} {B g n c j : Nat} {xs : List ByteArray} {s : ByteArray} (h : OwnS w B (.slice (some ⟨g, 0, none⟩) n c) xs) (hn : xs.length = n) (hj : j < n) : OwnS (w.setCell ⟨g, j, none⟩ (.string s)) B (.slice (some ⟨g, 0, none⟩) n c) (xs.set j s) := by
  have hf : ∀ l : List ByteArray, l.flatMap encS = l.map Value.string := fun l => by
    induction l with
    | nil => rfl
    | cons x r ih => rw [List.flatMap_cons, ih]; rfl
  rcases h.2 with ⟨hv, _⟩ | ⟨g', cap, cur, hv, hb, hh, hnc, hcm, hcs, hct⟩
  · simp at hv
  · simp only [Value.slice.injEq, Option.some.injEq, Addr.mk.injEq, and_true] at hv
    obtain ⟨rfl, hv2, rfl⟩ := hv
    rw [hf, hn] at hct
    refine ⟨by rw [hf]; simp, .inr ⟨g, c, cur.setIfInBounds j (.string s), by rw [List.length_set, hn], hb, setCell_heap hh, by rw [List.length_set]; exact hnc, hcm, by rw [Array.size_setIfInBounds]; exact hcs, ?_⟩⟩
    rw [hf, List.length_set, hn, Array.toList_setIfInBounds, List.map_set, ← hct, List.take_set]
theorem own_cellS {w : World} {B g n c j : Nat} {xs : List ByteArray} (h : OwnS w B (.slice (some ⟨g, 0, none⟩) n c) xs) (hn : xs.length = n) (hj : j < n) : (∃ u, w.cell? ⟨g, j, none⟩ = some u) ∧ w.frozen? ⟨g, j, none⟩ = false := by
  rcases h.2 with ⟨hv, _⟩ | ⟨g', cap, cur, hv, hb, hh, hnc, hcm, hcs, hct⟩
  · simp at hv
  · simp only [Value.slice.injEq, Option.some.injEq, Addr.mk.injEq, and_true] at hv
    obtain ⟨rfl, hv2, rfl⟩ := hv
    refine ⟨⟨cur[j]'(by omega), ?_⟩, frozen_of_row _ _ _ _ _ hh⟩
    simp only [World.cell?, hh]
    simp <;> omega
/-- A drawn root, a path and a proof. -/
def ProofB (w : World) (e : Ending) (w' : World) : Prop := ∃ (root : Int) (path : ByteArray) (tv : Value) (proof : List ByteArray), e = .returned (.tuple #[.int .i64 root, .string path, tv]) ∧ OwnS w' w.heap.size tv proof ∧ (∀ t ∈ proof, t.size ≤ 1000000) ∧ proof.length ≤ 5 ∧ path.size ≤ 40 ∧ Below w.heap.size w w'

set_option maxHeartbeats 2000000 in
set_option maxRecDepth 100000 in
theorem spec_l20Proof_c (v : Value) (l0 : List Int) (w : World) (h : Rd encU 1 w w.heap.size v l0) (hl : ∀ x ∈ l0, 0 ≤ x ∧ x ≤ 255) :
    Calls Tryz.prog 70 #[v] w (ProofB w) := by
  unfold ProofB
  have HV := hid h
  have HL0 := hid hl
  go_enter Tryz.func70, Tryz.ntmps70
  go_wp2_with fail
  refine (spec_l20Where_c v l0 w h hl).mono ?_
  rintro e w1 ⟨sv, xs, root, path, rfl, o1, hd, hps, b1⟩
  have S1 := hid (Rd.of_own o1)
  have HD := hid hd
  clear o1 hd h hl
  go_wp2_with fail
  refine (spec_l20Open_c v l0 w1 (HV.out.on b1) HL0.out).mono ?_
  rintro e w2 ⟨l, rfl, r2, b2⟩
  obtain ⟨g, hg⟩ : ∃ g, w1.heap.size = g := ⟨_, rfl⟩
  rw [hg] at r2
  rw [hg]
  have R2 := hid r2
  have S2 := hid (S1.out.on b2)
  have D2 := hid (bl_then b1 b2)
  have hgw : w.heap.size ≤ g := by rw [← hg]; exact b1.size
  have hg2 : g < w2.heap.size := r2.lt
  clear r2 b1 b2 S1 hg
  obtain ⟨T, hT⟩ : ∃ T, pathProof xs root (bs path) = T := ⟨_, rfl⟩
  have HT := hid hT
  obtain ⟨q, hq⟩ : ∃ q, T.length = q := ⟨_, rfl⟩
  have HQ := hid hq
  have HTS := hid (show ∀ t ∈ T, t.size ≤ 1000000 from fun t ht => by rw [← hT] at ht; have := pathProof_small t ht; omega)
  have hq4 : q ≤ 4 := by rw [← hq, ← hT]; exact pathProof_len
  clear hT hq
  go_wp2_with fail
  refine (spec_PathProof_c _ xs root path _ T HT.out S2.out HD.out.sizes2.1 HD.out.sizes2.2 (by omega)).mono ?_
  rintro e w3 ⟨tv, rfl, o3, b3⟩
  obtain ⟨ta, tc, rfl, _, _, _⟩ := (Rd.of_own o3).strs HQ.out
  have R3 := hid (R2.out.on b3)
  have D3 := hid (bl_then D2.out b3)
  have O3 := hid (o3.less (show g + 1 ≤ w2.heap.size by omega))
  have S3 := hid (S2.out.on b3)
  clear o3 b3 R2 D2 S2
  by_cases hq0 : q = 0
  · have hqd : ((q : Int) == 0) = true := by simp [hq0]
    clear hq0
    obtain ⟨T, hT⟩ : ∃ T, absProof xs root (bs path) = T := ⟨_, rfl⟩
    have HT := hid hT
    obtain ⟨q, hq⟩ : ∃ q, T.length = q := ⟨_, rfl⟩
    have HQ := hid hq
    have HTS := hid (show ∀ t ∈ T, t.size ≤ 1000000 from fun t ht => by rw [← hT] at ht; have := absProof_small t ht; omega)
    have hq4 : q ≤ 4 := by rw [← hq, ← hT]; exact absProof_len
    clear hT hq
    go_wp2_with fail
    refine (spec_AbsenceProof_c _ xs root path _ T HT.out S3.out HD.out.sizes2.1 HD.out.sizes2.2 (by omega)).mono ?_
    rintro e w4 ⟨tv, rfl, o4, b4⟩
    obtain ⟨ta, tc, rfl, _, _, _⟩ := (Rd.of_own o4).strs HQ.out
    have R := hid (R3.out.on b4)
    have D := hid (bl_then D3.out b4)
    have O := hid (o4.less (show g + 1 ≤ w3.heap.size by have := R3.out.lt; omega))
    clear o4 b4 R3 D3 S3 O3
    go_wp2_with fail
    refine (spec_pick_c g 0 l 8 _ R.out (by omega)).mono ?_
    rintro e w5 ⟨x, rfl, x0, x3, _, r5, g5⟩
    have R5 := hid r5
    have O5 := hid (O.out.far g5 (fun b hb => by simp at hb; omega))
    have D5 := hid (gb_two D.out g5 hgw)
    clear r5 g5 R O D
    by_cases h0 : x = 0
    · subst h0
      go_wp2_with fail
      refine (spec_l20Print_c g _ l 3 _ R5.out (by omega) (by omega) (by omega)).mono ?_
      rintro e w6 ⟨rx, p6, rfl, hp6, r6, g6⟩
      have O6 := hid (O5.out.far g6 (fun b hb => by simp at hb; omega))
      have d6 := gb_two D5.out g6 hgw
      clear r6 g6
      go_wp2
      go_ret3
      exact ⟨_, _, _, _, rfl, O6.out.less (by omega), HTS.out, by rw [HQ.out]; omega, hps, d6⟩
    have h0' : (x == 0) = false := by simp [h0]
    by_cases h1 : x = 1
    · subst h1
      go_wp2_with fail
      refine (spec_l20Path_c g _ l 3 _ R5.out (by omega) (by omega) (by omega)).mono ?_
      rintro e w6 ⟨s6, p6, rfl, hs6, _, hp6, r6, g6⟩
      have O6 := hid (O5.out.far g6 (fun b hb => by simp at hb; omega))
      have d6 := gb_two D5.out g6 hgw
      clear r6 g6
      go_wp2
      go_ret3
      exact ⟨_, _, _, _, rfl, O6.out.less (by omega), HTS.out, by rw [HQ.out]; omega, by omega, d6⟩
    have h1' : (x == 1) = false := by simp [h1]
    by_cases h2 : x = 2
    · subst h2
      go_wp2_with fail
      refine (spec_pick_c g _ l 3 _ (R5.out.alloc _) (by omega)).mono ?_
      rintro e w6 ⟨y, rfl, y0, y3, _, r6, g6⟩
      have hh := (g6.block w5.heap.size (by simp) (some_ne (by have := R5.out.lt; omega))).trans (heap_alloc_new w5 _)
      have y3' := y3 (by omega)
      obtain ⟨j, rfl⟩ : ∃ j : Nat, y = j := ⟨y.toNat, by omega⟩
      have hj : j < 3 := by omega
      obtain ⟨s, hs, hs0⟩ := strP_cell (p := sizeS) (t := 9) (cs := #[.string ⟨#[102, 104, 105]⟩, .string ⟨#[100]⟩, .string ⟨#[]⟩]) (by rfl) hj
      have hc := hs0 _ _ hh
      have hs12 := of_decide_eq_true hs
      have O6 := hid ((O5.out.alloc _).far g6 (fun b hb => by simp at hb; omega))
      have D6 := hid (gb_two D5.out (gb_unalloc g6) hgw)
      have HB6 := hid (show g + 1 ≤ w6.heap.size from r6.lt)
      clear hs0 hh r6 g6 y3 x3
      go_wp2_with (at_builtin; refine push_str (w0 := w) rfl _ _ rfl (g + 1) w.heap.size _ T s O6.out D6.out HB6.out (by omega) rfl rfl (by have := HQ.out; omega) ?_; intro v7 w7 o7 b7 _ _)
      go_ret3
      exact ⟨_, _, _, _, rfl, o7.less (by omega), (fun t ht => (List.mem_append.1 ht).elim (HTS.out t) (fun h => by simp only [List.mem_singleton] at h; rw [h]; omega)), by simp only [List.length_append, List.length_singleton]; have := HQ.out; omega, hps, b7⟩
    have h2' : (x == 2) = false := by simp [h2]
    by_cases h3 : x = 3
    · subst h3
      by_cases hqz : q = 0
      · subst hqz
        have hqz' : ¬ ((0 : Int) < ((0 : Nat) : Int)) := by omega
        go_wp2
        go_ret3
        exact ⟨_, _, _, _, rfl, O5.out.less (by omega), HTS.out, by rw [HQ.out]; omega, hps, D5.out⟩
      · have hqz' : (0 : Int) < q := by omega
        obtain ⟨tg, rfl⟩ : ∃ tg, ta = some ⟨tg, 0, none⟩ := by
          rcases O5.out.2 with ⟨e1, e2⟩ | ⟨g', cap, cur, hv, _⟩
          · simp only [Value.slice.injEq] at e1; omega
          · simp only [Value.slice.injEq] at hv; exact ⟨g', hv.1⟩
        go_wp2_with fail
        refine (spec_pick_c g _ l q _ R5.out (by omega)).mono ?_
        rintro e w6 ⟨y, rfl, y0, y3, _, r6, g6⟩
        have y3' := y3 (by omega)
        obtain ⟨i, rfl⟩ : ∃ i : Nat, y = i := ⟨y.toNat, by omega⟩
        have hiq : i < q := by omega
        have hiq' : (i : Int) < q := by omega
        have R6 := hid r6
        have O6 := hid (O5.out.far g6 (fun b hb => by simp at hb; omega))
        have D6 := hid (gb_two D5.out g6 hgw)
        clear r6 g6 y3 R5 O5 D5
        go_wp2_with fail
        refine (spec_pick_c g _ l 3 _ (R6.out.alloc _) (by omega)).mono ?_
        rintro e w7 ⟨y, rfl, z0, z3, _, r7, g7⟩
        have hh := (g7.block w6.heap.size (by simp) (some_ne (by have := R6.out.lt; omega))).trans (heap_alloc_new w6 _)
        have z3' := z3 (by omega)
        obtain ⟨j, rfl⟩ : ∃ j : Nat, y = j := ⟨y.toNat, by omega⟩
        have hj : j < 3 := by omega
        obtain ⟨s, hs, hs0⟩ := strP_cell (p := sizeS) (t := 9) (cs := #[.string ⟨#[102, 104, 111]⟩, .string ⟨#[100]⟩, .string ⟨#[10]⟩]) (by rfl) hj
        have hc := hs0 _ _ hh
        have hs12 := of_decide_eq_true hs
        have O7 := hid ((O6.out.alloc _).far g7 (fun b hb => by simp at hb; omega))
        have D7 := hid (gb_two D6.out (gb_unalloc g7) hgw)
        obtain ⟨hcs, hfz⟩ : (∃ u, w7.cell? ⟨tg, i, none⟩ = some u) ∧ w7.frozen? ⟨tg, i, none⟩ = false := own_cellS O7.out HQ.out hiq
        obtain ⟨u0, hu0⟩ := hcs
        clear hs0 hh r7 g7 z3 x3 R6 O6 D6
        go_wp2
        go_ret3
        refine ⟨_, _, _, _, rfl, (own_setS O7.out HQ.out hiq).less (by omega), (fun t ht => ?_), by rw [List.length_set, HQ.out]; omega, hps, ?_⟩
        · rcases List.mem_or_eq_of_mem_set ht with h | h
          · exact HTS.out t h
          · rw [h]; omega
        · exact D7.out.setCell (show w.heap.size ≤ tg by have := (O7.out.lt tg rfl).1; omega) _
    have h3' : (x == 3) = false := by simp [h3]
    go_wp2
    go_ret3
    exact ⟨_, _, _, _, rfl, O5.out.less (by omega), HTS.out, by rw [HQ.out]; omega, hps, D5.out⟩
  · have hqd : ((q : Int) == 0) = false := by simp [hq0]
    have R := R3
    have D := D3
    have O := O3
    clear hq0 R3 D3 O3 S3
    go_wp2_with fail
    refine (spec_pick_c g 0 l 8 _ R.out (by omega)).mono ?_
    rintro e w5 ⟨x, rfl, x0, x3, _, r5, g5⟩
    have R5 := hid r5
    have O5 := hid (O.out.far g5 (fun b hb => by simp at hb; omega))
    have D5 := hid (gb_two D.out g5 hgw)
    clear r5 g5 R O D
    by_cases h0 : x = 0
    · subst h0
      go_wp2_with fail
      refine (spec_l20Print_c g _ l 3 _ R5.out (by omega) (by omega) (by omega)).mono ?_
      rintro e w6 ⟨rx, p6, rfl, hp6, r6, g6⟩
      have O6 := hid (O5.out.far g6 (fun b hb => by simp at hb; omega))
      have d6 := gb_two D5.out g6 hgw
      clear r6 g6
      go_wp2
      go_ret3
      exact ⟨_, _, _, _, rfl, O6.out.less (by omega), HTS.out, by rw [HQ.out]; omega, hps, d6⟩
    have h0' : (x == 0) = false := by simp [h0]
    by_cases h1 : x = 1
    · subst h1
      go_wp2_with fail
      refine (spec_l20Path_c g _ l 3 _ R5.out (by omega) (by omega) (by omega)).mono ?_
      rintro e w6 ⟨s6, p6, rfl, hs6, _, hp6, r6, g6⟩
      have O6 := hid (O5.out.far g6 (fun b hb => by simp at hb; omega))
      have d6 := gb_two D5.out g6 hgw
      clear r6 g6
      go_wp2
      go_ret3
      exact ⟨_, _, _, _, rfl, O6.out.less (by omega), HTS.out, by rw [HQ.out]; omega, by omega, d6⟩
    have h1' : (x == 1) = false := by simp [h1]
    by_cases h2 : x = 2
    · subst h2
      go_wp2_with fail
      refine (spec_pick_c g _ l 3 _ (R5.out.alloc _) (by omega)).mono ?_
      rintro e w6 ⟨y, rfl, y0, y3, _, r6, g6⟩
      have hh := (g6.block w5.heap.size (by simp) (some_ne (by have := R5.out.lt; omega))).trans (heap_alloc_new w5 _)
      have y3' := y3 (by omega)
      obtain ⟨j, rfl⟩ : ∃ j : Nat, y = j := ⟨y.toNat, by omega⟩
      have hj : j < 3 := by omega
      obtain ⟨s, hs, hs0⟩ := strP_cell (p := sizeS) (t := 9) (cs := #[.string ⟨#[102, 104, 105]⟩, .string ⟨#[100]⟩, .string ⟨#[]⟩]) (by rfl) hj
      have hc := hs0 _ _ hh
      have hs12 := of_decide_eq_true hs
      have O6 := hid ((O5.out.alloc _).far g6 (fun b hb => by simp at hb; omega))
      have D6 := hid (gb_two D5.out (gb_unalloc g6) hgw)
      have HB6 := hid (show g + 1 ≤ w6.heap.size from r6.lt)
      clear hs0 hh r6 g6 y3 x3
      go_wp2_with (at_builtin; refine push_str (w0 := w) rfl _ _ rfl (g + 1) w.heap.size _ T s O6.out D6.out HB6.out (by omega) rfl rfl (by have := HQ.out; omega) ?_; intro v7 w7 o7 b7 _ _)
      go_ret3
      exact ⟨_, _, _, _, rfl, o7.less (by omega), (fun t ht => (List.mem_append.1 ht).elim (HTS.out t) (fun h => by simp only [List.mem_singleton] at h; rw [h]; omega)), by simp only [List.length_append, List.length_singleton]; have := HQ.out; omega, hps, b7⟩
    have h2' : (x == 2) = false := by simp [h2]
    by_cases h3 : x = 3
    · subst h3
      by_cases hqz : q = 0
      · subst hqz
        have hqz' : ¬ ((0 : Int) < ((0 : Nat) : Int)) := by omega
        go_wp2
        go_ret3
        exact ⟨_, _, _, _, rfl, O5.out.less (by omega), HTS.out, by rw [HQ.out]; omega, hps, D5.out⟩
      · have hqz' : (0 : Int) < q := by omega
        obtain ⟨tg, rfl⟩ : ∃ tg, ta = some ⟨tg, 0, none⟩ := by
          rcases O5.out.2 with ⟨e1, e2⟩ | ⟨g', cap, cur, hv, _⟩
          · simp only [Value.slice.injEq] at e1; omega
          · simp only [Value.slice.injEq] at hv; exact ⟨g', hv.1⟩
        go_wp2_with fail
        refine (spec_pick_c g _ l q _ R5.out (by omega)).mono ?_
        rintro e w6 ⟨y, rfl, y0, y3, _, r6, g6⟩
        have y3' := y3 (by omega)
        obtain ⟨i, rfl⟩ : ∃ i : Nat, y = i := ⟨y.toNat, by omega⟩
        have hiq : i < q := by omega
        have hiq' : (i : Int) < q := by omega
        have R6 := hid r6
        have O6 := hid (O5.out.far g6 (fun b hb => by simp at hb; omega))
        have D6 := hid (gb_two D5.out g6 hgw)
        clear r6 g6 y3 R5 O5 D5
        go_wp2_with fail
        refine (spec_pick_c g _ l 3 _ (R6.out.alloc _) (by omega)).mono ?_
        rintro e w7 ⟨y, rfl, z0, z3, _, r7, g7⟩
        have hh := (g7.block w6.heap.size (by simp) (some_ne (by have := R6.out.lt; omega))).trans (heap_alloc_new w6 _)
        have z3' := z3 (by omega)
        obtain ⟨j, rfl⟩ : ∃ j : Nat, y = j := ⟨y.toNat, by omega⟩
        have hj : j < 3 := by omega
        obtain ⟨s, hs, hs0⟩ := strP_cell (p := sizeS) (t := 9) (cs := #[.string ⟨#[102, 104, 111]⟩, .string ⟨#[100]⟩, .string ⟨#[10]⟩]) (by rfl) hj
        have hc := hs0 _ _ hh
        have hs12 := of_decide_eq_true hs
        have O7 := hid ((O6.out.alloc _).far g7 (fun b hb => by simp at hb; omega))
        have D7 := hid (gb_two D6.out (gb_unalloc g7) hgw)
        obtain ⟨hcs, hfz⟩ : (∃ u, w7.cell? ⟨tg, i, none⟩ = some u) ∧ w7.frozen? ⟨tg, i, none⟩ = false := own_cellS O7.out HQ.out hiq
        obtain ⟨u0, hu0⟩ := hcs
        clear hs0 hh r7 g7 z3 x3 R6 O6 D6
        go_wp2
        go_ret3
        refine ⟨_, _, _, _, rfl, (own_setS O7.out HQ.out hiq).less (by omega), (fun t ht => ?_), by rw [List.length_set, HQ.out]; omega, hps, ?_⟩
        · rcases List.mem_or_eq_of_mem_set ht with h | h
          · exact HTS.out t h
          · rw [h]; omega
        · exact D7.out.setCell (show w.heap.size ≤ tg by have := (O7.out.lt tg rfl).1; omega) _
    have h3' : (x == 3) = false := by simp [h3]
    go_wp2
    go_ret3
    exact ⟨_, _, _, _, rfl, O5.out.less (by omega), HTS.out, by rw [HQ.out]; omega, hps, D5.out⟩

set_option maxHeartbeats 2000000 in
set_option maxRecDepth 100000 in
theorem spec_DrawProofRight_c (v : Value) (l : List Int) (w : World) (h : Rd encU 1 w w.heap.size v l) (hl : ∀ x ∈ l, 0 ≤ x ∧ x ≤ 255) :
    Calls Tryz.prog 22 #[v] w (ProofB w) := by
  go_enter Tryz.func22, Tryz.ntmps22
  go_wp2_with fail
  refine (spec_l20Proof_c v l w h hl).mono ?_
  rintro e w1 ⟨root, path, tv, proof, rfl, o, hs, hn, hp, b⟩
  go_wp2
  go_ret3
  exact ⟨root, path, _, proof, rfl, o, hs, hn, hp, b⟩

set_option maxHeartbeats 2000000 in
set_option maxRecDepth 100000 in
theorem spec_DrawProofContent_c (v : Value) (l : List Int) (w : World) (h : Rd encU 1 w w.heap.size v l) (hl : ∀ x ∈ l, 0 ≤ x ∧ x ≤ 255) :
    Calls Tryz.prog 31 #[v] w (ProofB w) := by
  go_enter Tryz.func31, Tryz.ntmps31
  go_wp2_with fail
  refine (spec_l20Proof_c v l w h hl).mono ?_
  rintro e w1 ⟨root, path, tv, proof, rfl, o, hs, hn, hp, b⟩
  go_wp2
  go_ret3
  exact ⟨root, path, _, proof, rfl, o, hs, hn, hp, b⟩


end Go.Proofs.YtachfmlfmpaddaaGreatDoor

/- Walks: files of a name. -/
namespace Go.Proofs.YtachfmlfmpaddaaGreatDoor
open Go.RowKit

theorem ofRowW {w : World} {b : Nat} {cs : Array Value} {t : TypeId} (h : w.heap[b]? = some (.cells cs t (0, 0))) (j : Nat) {v : Value} (hv : cs[j]? = some v) : w.cell? ⟨b, j, none⟩ = some v := by simp [World.cell?, h, hv]

set_option maxHeartbeats 2000000 in
set_option maxRecDepth 100000 in
theorem spec_l20Word_c (g p : Nat) (l : List Int) (n : Int) (w : World) (h : Reader w g l p) (hp : p ≤ 109951162777) (hn0 : 0 ≤ n) (hn9 : n ≤ 1000000) :
    Calls Tryz.prog 82 #[.pointer (some ⟨g, 0, none⟩), .int .i64 n] w (Texted 9 2 w g l p) := by
  go_enter Tryz.func82, Tryz.ntmps82
  go_wp2_with fail
  refine (spec_odd_c g p l n _ h (by omega) hn0 hn9).mono ?_
  rintro e w1 ⟨x, p1, rfl, _, hp1, r1, g1⟩
  have hgl : g < w1.heap.size := r1.lt
  have R := hid r1
  have G1 := hid g1
  clear r1 h g1
  cases x
  all_goals
    go_wp2_with fail
    refine (spec_pick_c g p1 l 5 _ (R.out.alloc _) (by omega)).mono ?_
    rintro e w2 ⟨x, rfl, x0, x3, _, r2, g2⟩
    have hh := (g2.block w1.heap.size (by simp) (some_ne (by omega))).trans (heap_alloc_new w1 _)
    have x3' := x3 (by omega)
    have R2 := hid r2
    have G2 := hid (G1.out.trans (gb_unalloc g2))
    have k0 := ofRowW hh 0 rfl
    have k1 := ofRowW hh 1 rfl
    have k2 := ofRowW hh 2 rfl
    have k3 := ofRowW hh 3 rfl
    have k4 := ofRowW hh 4 rfl
    clear r2 g2 x3 hh
    obtain rfl | rfl | rfl | rfl | rfl : x = 0 ∨ x = 1 ∨ x = 2 ∨ x = 3 ∨ x = 4 := by omega
    all_goals
      go_wp2
      go_ret
      exact ⟨_, _, rfl, by decide, by omega, R2.out, G2.out⟩

theorem gb_twoN {w w1 w2 : World} {g : Nat} (hd : Below w.heap.size w w1) (hg : w1.grownBy w2 (some g)) (h : w.heap.size ≤ g) : Below w.heap.size w w2 := hd.grown hg hd.size (fun b hb => by simp at hb; omega)
/-- A drawn store, a root and a word. -/
def NamB (w : World) (e : Ending) (w' : World) : Prop := ∃ (v : Value) (xs : List Pc) (root : Int) (word : ByteArray), e = .returned (.tuple #[v, .int .i64 root, .string word]) ∧ OwnP w' w.heap.size v xs ∧ DrawnH xs ∧ word.size ≤ 100 ∧ Below w.heap.size w w'

set_option maxHeartbeats 2000000 in
set_option maxRecDepth 100000 in
theorem spec_DrawFilesNamed_c (v : Value) (l0 : List Int) (w : World) (h : Rd encU 1 w w.heap.size v l0) (hl : ∀ x ∈ l0, 0 ≤ x ∧ x ≤ 255) :
    Calls Tryz.prog 34 #[v] w (NamB w) := by
  unfold NamB
  have HV := hid h
  have HL0 := hid hl
  go_enter Tryz.func34, Tryz.ntmps34
  go_wp2_with fail
  refine (spec_l20Rooted_c v l0 w h hl).mono ?_
  rintro e w1 ⟨sv, xs, root, rfl, o1, hd, b1⟩
  have S1 := hid o1
  have HD := hid hd
  have hlt1 := hid o1.lt
  clear o1 hd h hl
  go_wp2_with fail
  refine (spec_l20Open_c v l0 w1 (HV.out.on b1) HL0.out).mono ?_
  rintro e w2 ⟨l, rfl, r2, b2⟩
  obtain ⟨g, hg⟩ : ∃ g, w1.heap.size = g := ⟨_, rfl⟩
  have HSB := hid (show ∀ b, sv.ownBlock = some b → b < g from fun b hb => by rw [← hg]; exact (hlt1.out b hb).2)
  rw [hg] at r2
  rw [hg]
  have S2 := hid (S1.out.on b2)
  have D2 := hid (bl_then b1 b2)
  have hgw : w.heap.size ≤ g := by rw [← hg]; exact b1.size
  clear b1 b2 S1 hg
  go_wp2_with fail
  refine (spec_l20Word_c g _ l 9 _ r2 (by omega) (by omega) (by omega)).mono ?_
  rintro e w3 ⟨t, p3, rfl, ht, hp3, r3, g3⟩
  have O3 := hid (S2.out.kept g3 (.inr (fun e => by have := HSB.out g e; omega)))
  have d3 := gb_twoN D2.out g3 hgw
  clear r3 g3 r2
  go_wp2
  go_ret3
  exact ⟨_, xs, root, t, rfl, O3.out, HD.out, by omega, d3⟩

theorem lastW_at {p word y : ByteArray} {ws : List ByteArray} {m : Nat} (hp : pathParts (bs p) = some (ws.map bs)) (hm : ws.length = m) (hy : ws[m - 1]? = some y) : lastW p word = decide (y = word) := by
  unfold lastW
  rw [hp]
  simp only
  have h1 : (ws.map bs).getLast? = some (bs y) := by
    rw [List.getLast?_map, List.getLast?_eq_getElem?, hm, hy]; rfl
  rw [h1]
  apply decide_eq_decide.2
  constructor
  · intro e
    have := congrArg strL (Option.some.inj e)
    rw [strL_bs, strL_bs] at this
    exact this
  · rintro rfl; rfl
theorem filt_succ {fs : List ByteArray} {k : Nat} {p : ByteArray} {f : ByteArray → Bool} (h : fs[k]? = some p) : (fs.take (k + 1)).filter f = (fs.take k).filter f ++ (if f p then [p] else []) := by
  rw [List.take_add_one, h, List.filter_append]
  cases hf : f p <;> simp [hf]
theorem parts_back {p : ByteArray} {ws : List ByteArray} (h : pathParts (bs p) = some (ws.map bs)) : ((pathParts (bs p)).getD []).map strL = ws := by
  rw [h]
  simp only [Option.getD_some, List.map_map]
  exact (List.map_congr_left (g := id) (fun x _ => strL_bs x)).trans (List.map_id _)

set_option maxHeartbeats 2000000 in
set_option maxRecDepth 100000 in
theorem impl_FilesNamed_c (v : Value) (xs : List Pc) (root : Int) (word : ByteArray) (w : World) (h : Pcs w w.heap.size v xs) (hg : Glob w) (hm : Mx w) :
    Calls Tryz.prog 35 #[v, .int .i64 root, .string word] w fun e w' => ∃ v', e = .returned v' ∧ OwnS w' w.heap.size v' (filesNamed xs root word) ∧ Below w.heap.size w w' := by
  have HH := hid h
  have HG := hid hg
  have HM := hid hm
  obtain ⟨fs, hfs⟩ : ∃ fs, allFiles xs root = fs := ⟨_, rfl⟩
  have HFS := hid hfs
  have HFN := hid (show filesNamed xs root word = fs.filter (fun p => lastW p word) by unfold filesNamed; rw [hfs])
  obtain ⟨n, hn⟩ : ∃ n, fs.length = n := ⟨_, rfl⟩
  have HN := hid hn
  have hn27 : n ≤ 27 := by rw [← hn, ← hfs]; exact allFiles_len _ _
  clear h hg hm hfs hn
  go_enter Tryz.func35, Tryz.ntmps35
  go_wp2_with fail
  refine (impl_AllFiles_c _ xs root _ HH.out HG.out).mono ?_
  rw [HFS.out]
  rintro e w2 ⟨xv, rfl, o2, b2⟩
  have s2 := b2.size
  have HD2 := hid b2
  obtain ⟨fa, fc, rfl, _, _, h3⟩ := (Rd.of_own o2).strs HN.out
  have H3 := hid h3
  clear o2 h3 b2
  go_wp2
  go_loopw [7, 9, 10, 11, 16] (fun av _ _ _ kv wr => ∃ (k : Nat) (acc : List ByteArray), k ≤ n ∧ kv = .int .i64 k ∧ OwnS wr w2.heap.size av acc ∧ Hid (acc = (fs.take k).filter (fun p => lastW p word)) ∧ acc.length ≤ k ∧ Below w2.heap.size w2 wr) (fun _ _ _ _ kv _ => n - (intOf kv).toNat)
  case atStart => exact ⟨0, [], Nat.zero_le _, rfl, Own.nil_, hid (by simp), by simp, Below.refl _ _⟩
  case round =>
    obtain ⟨k, acc, hk, rfl, hown, hacc, hlen, hb⟩ := hrel
    by_cases hkn0 : k < n
    · obtain ⟨b, o, p, rfl, hbl, hx, k0⟩ := H3.out k hkn0
      have j0 := (hb.cell (p := ⟨b, o + k, none⟩) hbl).trans k0
      have hkn : (k : Int) < n := by omega
      have hmem : p ∈ allFiles xs root := by rw [HFS.out]; exact List.mem_of_getElem? hx.out
      have hps : p.size ≤ 1000 := by have := files_path hmem; omega
      obtain ⟨_, ws, h0, hl3, hpp, _, _⟩ := among_read hmem
      obtain ⟨m, hm⟩ : ∃ m, ws.length = m := ⟨_, rfl⟩
      have HPP := hid hpp
      have HWM := hid hm
      have hm1 : 1 ≤ m := by
        rw [← hm]
        rcases ws with _ | ⟨a, r⟩
        · exact absurd rfl h0
        · simp
      have hm3 : m ≤ 3 := by omega
      have HACC := hid (show (fs.take (k + 1)).filter (fun p => lastW p word) = acc ++ (if lastW p word then [p] else []) by rw [filt_succ hx.out, hacc.out])
      have HOWN := hid hown
      clear k0 hmem h0 hl3 hpp hm hown
      go_wp2_with fail
      refine (impl_PathParts_c p _ hps (HM.out.on (bl_then HD2.out hb))).mono ?_
      rw [parts_back HPP.out, show (pathParts (bs p)).isSome = true by rw [HPP.out]; rfl]
      rintro e w5 ⟨pv, rfl, o5, b5⟩
      obtain ⟨pa, pc, rfl, _, _, h5⟩ := (Rd.of_own o5).strs HWM.out
      obtain ⟨b', o', y, rfl, hbl', hy, c5⟩ := h5 (m - 1) (by omega)
      have d5 := bl_then hb b5
      have OUT5 := HOWN.out.on b5
      have hB5 := d5.size
      have hw1 : IntKind.i64.wrap ((m : Int) - 1) = ((m - 1 : Nat) : Int) := by rw [IntWalk.i64_in _ (by omega)]; omega
      have hqm : ((m - 1 : Nat) : Int) < m := by omega
      have hse := str_eqE (u := y) (t := word)
      have HLW := hid (lastW_at (word := word) HPP.out HWM.out hy.out)
      obtain ⟨q, hq⟩ : ∃ q, m - 1 = q := ⟨_, rfl⟩
      rw [hq] at hw1 hqm c5
      obtain ⟨dp, hdp⟩ : ∃ dp, decide (y = word) = dp := ⟨_, rfl⟩
      rw [hdp] at hse HLW
      have HLE := hid hlen
      clear o5 h5 b5 hb j0 hdp hy hq HOWN
      cases dp
      · have HA1 := hid (show acc = (fs.take (k + 1)).filter (fun p => lastW p word) by rw [HACC.out, HLW.out]; simp)
        go_wp2
        go_roundw
        case rel => exact ⟨k + 1, _, by omega, by go_num, OUT5, HA1, by omega, d5⟩
        case measure => simp [intOf]; omega
      · have HA1 := hid (show acc ++ [p] = (fs.take (k + 1)).filter (fun p => lastW p word) by rw [HACC.out, HLW.out]; simp)
        go_wp2_with (at_builtin; refine push_str (w0 := w2) rfl _ _ rfl w2.heap.size w2.heap.size _ _ _ OUT5 d5 hB5 (Nat.le_refl _) rfl rfl (by omega) ?_; intro v' w' hown' hb' hB' _)
        go_roundw
        case rel => exact ⟨k + 1, _, by omega, by go_num, hown', HA1, by simp only [List.length_append, List.length_singleton]; omega, hb'⟩
        case measure => simp [intOf]; omega
    · have HA := hid (show acc = filesNamed xs root word by rw [HFN.out, hacc.out, take_all HN.out (show n ≤ k by omega)])
      have d3 := bl_then HD2.out hb
      go_wp2
      go_ret
      exact ⟨_, rfl, by rw [← HA.out]; exact hown.less s2, d3⟩

set_option maxHeartbeats 2000000 in
set_option maxRecDepth 100000 in
theorem spec_FilesNamed_c (v : Value) (xs : List Pc) (root : Int) (word : ByteArray) (w : World) (h : Pcs w w.heap.size v xs) (hx0 : ∀ x ∈ xs, x.text.size ≤ 1048576) (hl0 : xs.length ≤ 1048576) :
    Calls Tryz.prog 36 #[v, .int .i64 root, .string word] w fun e w' => ∃ v', e = .returned v' ∧ OwnS w' w.heap.size v' (filesNamed xs root word) ∧ Below w.heap.size w w' := by
  have HH := hid h
  have HX := hid hx0
  have HL := hid hl0
  obtain ⟨fs, hfs⟩ : ∃ fs, allFiles xs root = fs := ⟨_, rfl⟩
  have HFS := hid hfs
  have HFN := hid (show filesNamed xs root word = fs.filter (fun p => lastW p word) by unfold filesNamed; rw [hfs])
  obtain ⟨n, hn⟩ : ∃ n, fs.length = n := ⟨_, rfl⟩
  have HN := hid hn
  have hn27 : n ≤ 27 := by rw [← hn, ← hfs]; exact allFiles_len _ _
  obtain ⟨W1, hW1⟩ : ∃ W1, W1 = w.alloc (.cells #[] 9) := ⟨_, rfl⟩
  have hal : Below w.heap.size w W1 := by rw [hW1]; exact (Below.refl _ _).alloc (Nat.le_refl _) _
  have hown0 : OwnS W1 w.heap.size (.slice (some ⟨w.heap.size, 0, none⟩) 0 0) [] := by rw [hW1]; exact Own.made w (Nat.le_refl _)
  clear h hx0 hl0 hfs hn
  go_enter Tryz.func36, Tryz.ntmps36
  go_wp2_with fail
  rw [← hW1]
  refine (spec_AllFiles_c _ xs root _ (HH.out.on hal) HX.out HL.out).mono ?_
  rw [HFS.out]
  rintro e w2 ⟨xv, rfl, o2, b2⟩
  have HOWN2 := hid (hown0.on b2)
  have HD2 := hid (bl_then hal b2)
  have s2 : w.heap.size ≤ w2.heap.size := HD2.out.size
  obtain ⟨fa, fc, rfl, _, _, h3⟩ := (Rd.of_own o2).strs HN.out
  have hlt2 := o2.lt
  have hs1 : W1.heap.size = w.heap.size + 1 := by rw [hW1]; simp
  have H3 := hid (show ∀ i, i < n → ∃ b o x, fa = some ⟨b, o, none⟩ ∧ b < w2.heap.size ∧ (Value.slice (some ⟨w.heap.size, 0, none⟩) 0 0).ownBlock ≠ some b ∧ Hid (fs[i]? = some x) ∧ w2.cell? ⟨b, o + i, none⟩ = some (.string x) from fun i hi => by
    obtain ⟨b, o, x, e, l, x2, c⟩ := h3 i hi
    subst e
    refine ⟨b, o, x, rfl, l, fun e => ?_, x2, c⟩
    have h1 := (hlt2 b rfl).1
    have e' : w.heap.size = b := Option.some.inj (show some w.heap.size = some b from e)
    omega)
  clear o2 h3 b2 hal hown0 hW1 hlt2 hs1
  go_wp2
  go_loopw [7, 9, 10, 11] (fun av kv _ _ wr => ∃ (ov : Value) (k : Nat) (acc : List ByteArray), ov = av ∧ k ≤ n ∧ kv = .int .i64 k ∧ OwnS wr w.heap.size ov acc ∧ Hid (acc = (fs.take k).filter (fun p => lastW p word)) ∧ acc.length ≤ k ∧ Below w.heap.size w wr ∧ Hid (∀ i, i < n → ∃ b o x, fa = some ⟨b, o, none⟩ ∧ b < wr.heap.size ∧ ov.ownBlock ≠ some b ∧ Hid (fs[i]? = some x) ∧ wr.cell? ⟨b, o + i, none⟩ = some (.string x))) (fun _ kv _ _ _ => n - (intOf kv).toNat)
  case atStart => exact ⟨_, 0, [], rfl, Nat.zero_le _, rfl, HOWN2.out, hid (by simp), by simp, HD2.out, H3⟩
  case round =>
    obtain ⟨ov, k, acc, rfl, hk, rfl, hown, hacc, hlen, hb, h3⟩ := hrel
    by_cases hkn0 : k < n
    · obtain ⟨b, o, p, rfl, hbl, _, hx, j0⟩ := h3.out k hkn0
      have hkn : (k : Int) < n := by omega
      have hmem : p ∈ allFiles xs root := by rw [HFS.out]; exact List.mem_of_getElem? hx.out
      have hps : p.size ≤ 900 := by have := files_path hmem; omega
      obtain ⟨_, ws, h0, hl3, hpp, _, _⟩ := among_read hmem
      obtain ⟨m, hm⟩ : ∃ m, ws.length = m := ⟨_, rfl⟩
      have HPP := hid hpp
      have HWM := hid hm
      have hm1 : 1 ≤ m := by
        rw [← hm]
        rcases ws with _ | ⟨a, r⟩
        · exact absurd rfl h0
        · simp
      have hm3 : m ≤ 3 := by omega
      have HACC := hid (show (fs.take (k + 1)).filter (fun p => lastW p word) = acc ++ (if lastW p word then [p] else []) by rw [filt_succ hx.out, hacc.out])
      have HOWN := hid hown
      clear hmem h0 hl3 hpp hm hown
      go_wp2_with fail
      refine (spec_PathParts_c p _ hps).mono ?_
      rw [parts_back HPP.out, show (pathParts (bs p)).isSome = true by rw [HPP.out]; rfl]
      rintro e w5 ⟨pv, rfl, o5, b5⟩
      obtain ⟨pa, pc, rfl, _, _, h5⟩ := (Rd.of_own o5).strs HWM.out
      obtain ⟨b', o', y, rfl, hbl', hy, c5⟩ := h5 (m - 1) (by omega)
      have d5 := bl_then hb b5
      have OUT5 := HOWN.out.on b5
      have hB5 := d5.size
      have j5 := (b5.cell (p := ⟨b, o + k, none⟩) hbl).trans j0
      have H5 := hid (show ∀ i, i < n → ∃ b1 o1 x, some (⟨b, o, none⟩ : Addr) = some ⟨b1, o1, none⟩ ∧ b1 < w5.heap.size ∧ ov.ownBlock ≠ some b1 ∧ Hid (fs[i]? = some x) ∧ w5.cell? ⟨b1, o1 + i, none⟩ = some (.string x) from fun i hi => by
        obtain ⟨b1, o1, x1, e1, l1, n1, x2, c1⟩ := h3.out i hi
        exact ⟨b1, o1, x1, e1, Nat.lt_of_lt_of_le l1 b5.size, n1, x2, (b5.cell (p := ⟨b1, o1 + i, none⟩) l1).trans c1⟩)
      have hw1 : IntKind.i64.wrap ((m : Int) - 1) = ((m - 1 : Nat) : Int) := by rw [IntWalk.i64_in _ (by omega)]; omega
      have hqm : ((m - 1 : Nat) : Int) < m := by omega
      have hm0 : (0 : Int) < m := by omega
      have hse := str_eqE (u := y) (t := word)
      have HLW := hid (lastW_at (word := word) HPP.out HWM.out hy.out)
      obtain ⟨q, hq⟩ : ∃ q, m - 1 = q := ⟨_, rfl⟩
      rw [hq] at hw1 hqm c5
      obtain ⟨dp, hdp⟩ : ∃ dp, decide (y = word) = dp := ⟨_, rfl⟩
      rw [hdp] at hse HLW
      clear o5 h5 b5 hb hdp hy hq HOWN h3
      cases dp
      · have HA1 := hid (show acc = (fs.take (k + 1)).filter (fun p => lastW p word) by rw [HACC.out, HLW.out]; simp)
        go_wp2
        go_roundw
        case rel => exact ⟨_, k + 1, _, rfl, by omega, by go_num, OUT5, HA1, by omega, d5, H5⟩
        case measure => simp [intOf]; omega
      · have HA1 := hid (show acc ++ [p] = (fs.take (k + 1)).filter (fun p => lastW p word) by rw [HACC.out, HLW.out]; simp)
        go_wp2_with (at_builtin; refine push_str (w0 := w) rfl _ _ rfl w.heap.size w.heap.size _ _ _ OUT5 d5 hB5 (Nat.le_refl _) rfl rfl (by omega) ?_; intro v' w' hown' hb' hB' hgn')
        have H6 := hid (show ∀ i, i < n → ∃ b1 o1 x, some (⟨b, o, none⟩ : Addr) = some ⟨b1, o1, none⟩ ∧ b1 < w'.heap.size ∧ v'.ownBlock ≠ some b1 ∧ Hid (fs[i]? = some x) ∧ w'.cell? ⟨b1, o1 + i, none⟩ = some (.string x) from fun i hi => by
          obtain ⟨b1, o1, x1, e1, l1, n1, x2, c1⟩ := H5.out i hi
          refine ⟨b1, o1, x1, e1, Nat.lt_of_lt_of_le l1 hgn'.1.size, fun e => ?_, x2, ?_⟩
          · rcases hgn'.2 b1 e with h | h
            · exact n1 h
            · omega
          · have := hgn'.1.block b1 l1 (fun e => n1 e.symm)
            simp only [World.cell?, this] at c1 ⊢
            exact c1)
        go_roundw
        case rel => exact ⟨_, k + 1, _, rfl, by omega, by go_num, hown', HA1, by simp only [List.length_append, List.length_singleton]; omega, hb', H6⟩
        case measure => simp [intOf]; omega
    · have HA := hid (show acc = filesNamed xs root word by rw [HFN.out, hacc.out, take_all HN.out (show n ≤ k by omega)])
      go_wp2
      go_ret
      exact ⟨_, rfl, by rw [← HA.out]; exact hown, hb⟩

end Go.Proofs.YtachfmlfmpaddaaGreatDoor
