/- Walks and plain facts, joined: DropW, LwP, Sync. -/
import Derived.Test.YtnaahincolooeaaGreatDoorMg15
import Derived.Test.YtnaahincolooeaaGreatDoorMg21
import Derived.Test.YtnaahincolooeaaGreatDoorMg24
import Derived.Test.YtnaahincolooeaaGreatDoorMg25
set_option linter.unusedVariables false
set_option linter.unusedSimpArgs false

/- Walks: the reference's way of taking a name away. -/
namespace Go.Proofs.YtnaahincolooeaaGreatDoor
open Go.RowKit

theorem leftE_ok {es : List Ent} (h : entsOk es = true) (nm : ByteArray) (l : Int) : entsOk (leftE es nm l) = true := by
  unfold leftE
  split
  · unfold putEnt
    rw [if_pos h]
    split
    · assumption
    · exact h
  · rw [dropEnt_on h]; exact dropE_ok h nm
theorem drop_neg {s : List Pc} {pr : Int} {nm : ByteArray} {rest : List ByteArray} (h : childOf (entsOf (textAt s pr)) nm < 0) : dropIn s pr (nm :: rest) = (s, -1, false) := by unfold dropIn; rw [if_pos h]
theorem drop_one {s : List Pc} {pr : Int} {nm : ByteArray} (h : ¬ childOf (entsOf (textAt s pr)) nm < 0) : dropIn s pr [nm] = dropEnd s (leftE (entsOf (textAt s pr)) nm (-1)) := by unfold dropIn; rw [if_neg h, if_pos rfl]
theorem drop_fail {s : List Pc} {pr : Int} {nm : ByteArray} {rest : List ByteArray} (h : ¬ childOf (entsOf (textAt s pr)) nm < 0) (h0 : rest ≠ []) (hf : (dropIn s (childOf (entsOf (textAt s pr)) nm) rest).2.2 = false) : dropIn s pr (nm :: rest) = (s, -1, false) := by
  conv => lhs; unfold dropIn
  rw [if_neg h, if_neg h0, if_pos hf]
theorem drop_more {s s1 : List Pc} {pr l1 : Int} {nm : ByteArray} {rest : List ByteArray} (h : ¬ childOf (entsOf (textAt s pr)) nm < 0) (h0 : rest ≠ []) (hf : dropIn s (childOf (entsOf (textAt s pr)) nm) rest = (s1, l1, true)) : dropIn s pr (nm :: rest) = dropEnd s1 (leftE (entsOf (textAt s pr)) nm l1) := by
  conv => lhs; unfold dropIn
  rw [if_neg h, if_neg h0, hf]; simp
theorem entsOf_none' {l : List UInt8} (h : (readFolder l).isSome = false) : entsOf l = [] := by
  unfold entsOf
  cases hr : readFolder l with
  | none => rfl
  | some x => rw [hr] at h; cases h

set_option maxHeartbeats 2000000 in
set_option maxRecDepth 100000 in
theorem spec_l10Drop_c (parts : List ByteArray) : ∀ (v pv : Value) (xs : List Pc) (pr : Int) (w : World) (R : List Pc × Int × Bool), parts ≠ [] → dropIn xs pr parts = R → Pcs w w.heap.size v xs → storeOk xs = true → Strs w w.heap.size pv parts → (∀ x ∈ parts, x.size ≤ 1000) → parts.length ≤ 1000 →
    Calls Tryz.prog 64 #[v, .int .i64 pr, pv] w (SetPost w R) := by
  induction parts with
  | nil => intro v pv xs pr w R h0; exact absurd rfl h0
  | cons nm rest ih =>
    intro v pv xs pr w R _ hR h hs hp hx hl
    obtain ⟨m, hm⟩ : ∃ m, (nm :: rest).length = m := ⟨_, rfl⟩
    obtain ⟨pa, pc, rfl, hpc, hpc63, hp3⟩ := hp.strs hm
    have hm1 : 1 ≤ m := by simp at hm; omega
    obtain ⟨bp, op, t0, rfl, hbp, hx0, kp⟩ := hp3 0 (by omega)
    obtain rfl : nm = t0 := by have := hx0.out; simp at this; exact this
    rw [Nat.add_zero] at kp
    have HIH := hid ih
    have HM := hid hm
    have HS := hid hs
    have HP := hid hp
    have HX := hid hx
    have HH := hid h
    have HR := hid hR
    have HL := hid hl
    have HT := hid (text_small hs pr)
    have HKP := hid kp
    have hm9 : m ≤ 1000 := by omega
    clear hm hs hp hx h hR hp3 hx0 ih hl
    obtain ⟨fo, hfo⟩ : ∃ fo, (readFolder (bs ((getP xs pr).getD ByteArray.empty))).isSome = fo := ⟨_, rfl⟩
    obtain ⟨es, hes⟩ : ∃ es, entsOf (bs ((getP xs pr).getD ByteArray.empty)) = es := ⟨_, rfl⟩
    have HFO := hid hfo
    have HES := hid hes
    have HEA := hid (show entsOf (textAt xs pr) = es from hes)
    have HOK := hid (show entsOk es = true by rw [← hes]; exact entsOf_ok _)
    obtain ⟨n, hn⟩ : ∃ n, es.length = n := ⟨_, rfl⟩
    have HN := hid hn
    have hn3 : n ≤ 3 := by rw [← hn]; exact (ents_in HOK.out).1
    have hfn : 0 < n → fo = true := by
      intro h0
      cases fo
      · have := entsOf_none' hfo; rw [hes] at this; rw [this] at hn; simp at hn; omega
      · rfl
    have HFN := hid hfn
    obtain ⟨ch, hch⟩ : ∃ ch, childOf es nm = ch := ⟨_, rfl⟩
    have HCH := hid hch
    have HMZ := hid (show (0 : Int) < m by omega)
    clear hfo hes hn hfn hch kp
    cases fo
    · have h00 : n = 0 := by
        rcases Nat.eq_zero_or_pos n with h | h
        · exact h
        · have := HFN.out h; cases this
      have he0 : es = [] := List.eq_nil_of_length_eq_zero (HN.out.trans h00)
      have HES' := hid (show entsOf (bs ((getP xs pr).getD ByteArray.empty)) = [] by rw [HES.out, he0])
      obtain rfl : R = (xs, -1, false) := by rw [← HR.out]; exact drop_neg (by rw [HEA.out, he0]; show (-1 : Int) < 0; omega)
      clear h00 he0
      go_enter Tryz.func64, Tryz.ntmps64
      go_wp2_with fail
      refine (spec_l4Get_c _ xs pr _ _ HH.out).mono ?_
      rintro e w1 ⟨rfl, rfl⟩
      go_wp2_with fail
      refine (spec_ReadFolder_c _ _ (Nat.le_trans HT.out (by omega))).mono ?_
      rw [HFO.out, HES'.out]
      rintro e wc ⟨lv, rfl, o2, hb⟩
      obtain ⟨la, lc, rfl, _, _, _⟩ := (Rd.of_own o2).ents (n := 0) rfl
      have h9 := hid (HH.out.on hb)
      clear o2
      go_wp2
      go_loop [13, 14] (fun cv i => i = .int .i64 (0 : Nat) ∧ cv = .int .i64 (-1)) (fun _ _ => 0)
      case atStart => exact ⟨rfl, rfl⟩
      case round =>
        obtain ⟨rfl, rfl⟩ := hrel
        go_wp2
        go_ret3
        exact ⟨_, rfl, h9.out, hb⟩
    clear HFN
    go_enter Tryz.func64, Tryz.ntmps64
    go_wp2_with fail
    refine (spec_l4Get_c _ xs pr _ _ HH.out).mono ?_
    rintro e w1 ⟨rfl, rfl⟩
    go_wp2_with fail
    refine (spec_ReadFolder_c _ _ (Nat.le_trans HT.out (by omega))).mono ?_
    rw [HFO.out, HES.out]
    rintro e wc ⟨lv, rfl, o2, hb⟩
    obtain ⟨la, lc, rfl, _, _, hl3⟩ := (Rd.of_own o2).ents HN.out
    have HL2 := hid (Rd.of_own o2)
    have kpc := (hb.cell (p := ⟨bp, op, none⟩) hbp).trans HKP.out
    clear o2
    go_wp2
    go_loopw [13, 14] (fun cv i wr => ∃ k z : Nat, k ≤ n ∧ i = .int .i64 k ∧ cv = .int .i64 (childOf (es.take k) nm) ∧ wr = wc.drewN z) (fun _ i _ => n - (intOf i).toNat)
    case atStart => exact ⟨0, 0, Nat.zero_le _, rfl, rfl, rfl⟩
    case round =>
      obtain ⟨k, z, hk, rfl, rfl, rfl⟩ := hrel
      by_cases hlt : k < n
      · obtain ⟨b, o, t, r, rfl, hbl, hx, k0, k1⟩ := hl3 k hlt
        have HC := hid (child_succ (nm := nm) hx.out)
        have hkn : (k : Int) < n := by omega
        have hmz := HMZ.out
        have hse := str_eqE (u := t) (t := nm)
        clear hl3
        by_cases hte : t = nm
        · have hd1 : (t.toList == nm.toList) = true := by rw [hse]; exact decide_eq_true hte
          have HC2 := hid (HC.out.trans (if_pos hte))
          clear hse hte
          go_wp2
          go_quiet (fail)
          go_wp2
          go_roundw
          case rel => exact ⟨k + 1, _, by omega, by go_num, by rw [HC2.out], rfl⟩
          case measure => simp [intOf]; omega
        · have hd1 : (t.toList == nm.toList) = false := by rw [hse]; exact decide_eq_false hte
          have HC2 := hid (HC.out.trans (if_neg hte))
          clear hse hte
          go_wp2
          go_quiet (fail)
          go_wp2
          go_roundw
          case rel => exact ⟨k + 1, _, by omega, by go_num, by rw [HC2.out], rfl⟩
          case measure => simp [intOf]; omega
      · have hce : childOf (es.take k) nm = ch := by rw [take_all HN.out (show n ≤ k by omega)]; exact HCH.out
        rw [hce]
        obtain ⟨wd, hwd⟩ : ∃ wd, wd = wc.drewN z := ⟨_, rfl⟩
        have hbd : Below w.heap.size w wd := by rw [hwd]; exact bl_drewN hb z
        have hld : Hid (Ents wd wd.heap.size (.slice la n lc) es) := by rw [hwd]; exact HL2.out.drewN z
        rw [← hwd]
        clear hce hwd hl3 kpc HL2 hb
        by_cases hc0 : ch < 0
        · obtain rfl : R = (xs, -1, false) := by rw [← HR.out]; exact drop_neg (by rw [HEA.out, HCH.out]; exact hc0)
          have h9 := hid (HH.out.on hbd)
          go_wp2
          go_ret3
          exact ⟨_, rfl, h9.out, hbd⟩
        have HC0 := hid (show 0 ≤ childOf (entsOf (textAt xs pr)) nm by rw [HEA.out, HCH.out]; omega)
        have HEC := hid (show childOf (entsOf (textAt xs pr)) nm = ch by rw [HEA.out, HCH.out])
        go_upto_if 60 with fail
        go_cut [0, 15, 16, 17, 18] (fun sv lv _ _ _ wx => ∃ (xs1 : List Pc) (l1 : Int), Pcs wx wx.heap.size sv xs1 ∧ lv = .int .i64 l1 ∧ Below wd.heap.size wd wx ∧ Hid (storeOk xs1 = true) ∧ Hid (R = dropEnd xs1 (leftE es nm l1)))
        case first =>
          by_cases hr0 : rest = []
          · have hmd : decide ((1 : Int) < (m : Int)) = false := by have := HM.out; rw [hr0] at this; simp at this ⊢; omega
            have hmp : (m : Int) ≤ 1 := by have := HM.out; rw [hr0] at this; simp at this; omega
            have HO9 := hid (show R = dropEnd xs (leftE es nm (-1)) by rw [← HR.out, hr0, drop_one (Int.not_lt.2 HC0.out), HEA.out])
            have h9 := hid (HH.out.on hbd)
            clear hr0
            go_wp2
            go_meet
            exact ⟨xs, -1, h9.out, rfl, Below.refl _ _, HS, HO9⟩
          · have hmd : decide ((1 : Int) < (m : Int)) = true := by
              have := HM.out
              cases rest with
              | nil => exact absurd rfl hr0
              | cons x r => simp at this ⊢; omega
            have hmp : (1 : Int) < m := by simp at hmd; omega
            have HR0 := hid hr0
            have HTL := hid (Rd.tailS HP.out HM.out (if_neg (by omega) : (if pc = 1 then (some ⟨bp, op, none⟩ : Option Addr) else some ⟨bp, op + 1, none⟩) = some ⟨bp, op + 1, none⟩))
            have h1m : (1 : Int) ≤ m := by omega
            have h1c : (1 : Int) ≤ pc := by omega
            obtain ⟨⟨xs1, l1, ok⟩, hR1⟩ : ∃ R1, dropIn xs ch rest = R1 := ⟨_, rfl⟩
            have HR1 := hid hR1
            have HS1 := hid (show storeOk xs1 = true by have := dropIn_ok rest xs ch HS.out; rw [hR1] at this; exact this)
            clear hr0 hR1
            go_wp2_with fail
            refine (HIH.out _ _ xs ch _ (xs1, l1, ok) HR0.out HR1.out (HH.out.on hbd) HS.out (HTL.out.on hbd) (fun x hx => HX.out x (by simp [hx])) (by have := HL.out; simp at this; omega)).mono ?_
            rintro e w5 ⟨sv, rfl, s5, b5⟩
            have d5 := bl_then hbd b5
            have S5 := hid s5
            clear h1m h1c s5
            cases ok
            · obtain rfl : R = (xs, -1, false) := by rw [← HR.out]; exact drop_fail (Int.not_lt.2 HC0.out) HR0.out (by rw [HEC.out, HR1.out])
              have h9 := hid (HH.out.on d5)
              clear b5
              go_wp2
              go_ret3
              exact ⟨_, rfl, h9.out, d5⟩
            · have HO9 := hid (show R = dropEnd xs1 (leftE es nm l1) by rw [← HR.out, drop_more (Int.not_lt.2 HC0.out) HR0.out (by rw [HEC.out, HR1.out]), HEA.out])
              go_wp2
              go_meet
              exact ⟨xs1, l1, S5.out, rfl, b5, HS1, HO9⟩
        case rest =>
          obtain ⟨xs1, l1, s5, rfl, hb5, HS1, HO9⟩ := hcut
          have S5 := hid s5
          have L5 := hid (hld.out.on hb5)
          have d5 := bl_then hbd hb5
          have kp5 := (d5.cell (p := ⟨bp, op, none⟩) hbp).trans HKP.out
          have hmz := HMZ.out
          have HXN := hid (show ∀ x ∈ es, x.name.size ≤ 1048576 from fun x hx => by have := name_len (ents_all HOK.out hx); omega)
          have HNM := hid (show nm.size ≤ 1048576 by have := HX.out nm (by simp); omega)
          have HNL := hid (show es.length ≤ 1048570 by have := HN.out; omega)
          clear s5 hb5 hbd hld
          go_wp2_with fail
          refine (spec_DropEntry_c _ es nm _ L5.out HXN.out HNL.out).mono ?_
          rintro e w6 ⟨rv, rfl, o6, b6⟩
          have d6 := bl_then d5 b6
          have S6 := hid (S5.out.on b6)
          have L6 := hid (L5.out.on b6)
          have kp6 := (d6.cell (p := ⟨bp, op, none⟩) hbp).trans HKP.out
          have O6 := hid (Rd.of_own o6)
          clear o6 b6 d5 S5 L5 kp5
          go_upto_if 84 with fail
          go_cut [19] (fun rw_ wx => Ents wx wx.heap.size rw_ (leftE es nm l1) ∧ Below w6.heap.size w6 wx)
          case first =>
            by_cases hl0 : 0 ≤ l1
            · have hd : decide (0 ≤ l1) = true := by simp; omega
              have HLE := hid (show leftE es nm l1 = (putEnt es ⟨nm, l1⟩).1 by unfold leftE; rw [if_pos hl0])
              go_wp2_with fail
              refine (spec_PutEntry_c _ es ⟨nm, l1⟩ _ L6.out HXN.out HNL.out HNM.out).mono ?_
              rintro e w7 ⟨mv, rfl, o7, b7⟩
              have O7 := hid (Rd.of_own o7)
              clear o7
              go_wp2
              go_meet
              exact ⟨by rw [HLE.out]; exact O7.out, b7⟩
            · have hd : decide (0 ≤ l1) = false := by simp; omega
              have HLE := hid (show leftE es nm l1 = (dropEnt es nm).1 by unfold leftE; rw [if_neg hl0])
              go_wp2
              go_meet
              exact ⟨by rw [HLE.out]; exact O6.out, Below.refl _ _⟩
          case rest =>
            obtain ⟨hr7, hb7⟩ := hcut
            have d7 := bl_then d6 hb7
            have S7 := hid (S6.out.on hb7)
            have R7 := hid hr7
            clear hb7 kp6
            obtain ⟨fs, hfs⟩ : ∃ fs, leftE es nm l1 = fs := ⟨_, rfl⟩
            have HFS := hid (show entsOk fs = true by rw [← hfs]; exact leftE_ok HOK.out nm l1)
            rw [hfs] at R7 HO9 hr7
            obtain ⟨q, hq⟩ : ∃ q, fs.length = q := ⟨_, rfl⟩
            obtain ⟨fa, fc, rfl, _, _, _⟩ := hr7.ents hq
            have HQ := hid hq
            clear hfs hr7 hq
            by_cases hq0 : q = 0
            · have hqd : ((q : Int) == 0) = true := by rw [hq0]; rfl
              obtain rfl : R = (xs1, -1, true) := by
                rw [HO9.out]; unfold dropEnd
                rw [if_pos (List.eq_nil_of_length_eq_zero (HQ.out.trans hq0))]
              clear hq0
              go_wp2
              go_ret3
              exact ⟨_, rfl, S7.out, d7⟩
            · have hqd : ((q : Int) == 0) = false := by simp; omega
              have HX1 := hid (show ∀ x ∈ fs, x.name.size ≤ 1048576 from fun x hx => by have := name_len (ents_all HFS.out hx); omega)
              have HL1 := hid (show fs.length ≤ 1048576 by have := (ents_in HFS.out).1; omega)
              have HFT := hid (show (strL (folderText fs)).size ≤ 4611686018427387904 by rw [strL_size]; have := folder_len HFS.out; omega)
              obtain ⟨⟨xs2, p2, ok2⟩, hpq⟩ : ∃ P, putS xs1 (strL (folderText fs)) = P := ⟨_, rfl⟩
              have HPQ := hid hpq
              obtain rfl : R = (xs2, p2, ok2) := by
                rw [HO9.out]; unfold dropEnd
                rw [if_neg (fun e => hq0 (by rw [← HQ.out, e]; rfl)), hpq]
              have HT1 := hid (fun (x : Pc) (hx : x ∈ xs1) => show x.text.size ≤ 1048576 by have := st_text HS1.out hx; omega)
              have HN1 := hid (show xs1.length ≤ 1048576 by have := (st_in HS1.out).1; omega)
              clear hpq hq0
              go_wp2_with fail
              refine (spec_FolderText_c _ fs _ _ R7.out HX1.out HL1.out).mono ?_
              rintro e w7 ⟨rfl, z7, rfl⟩
              have d8 := bl_drewN d7 z7
              have h8 := hid (S7.out.drewN z7)
              go_wp2_with fail
              refine (spec_PutText_c _ xs1 _ _ h8.out HT1.out HN1.out HFT.out).mono ?_
              rw [HPQ.out]
              rintro e w8 ⟨fv, rfl, o8, b8⟩
              have d9 := bl_then d8 b8
              have O8 := hid (Rd.of_own o8)
              clear o8 b8 d8
              go_wp2
              go_ret3
              exact ⟨_, rfl, O8.out, d9⟩

end Go.Proofs.YtnaahincolooeaaGreatDoor

/- What the laws on wanted, sent and taken texts, on named and missing prints and on what is reached say, in plain Lean. No program in sight. -/
namespace Go.Proofs.YtnaahincolooeaaGreatDoor
open Go.RowKit

theorem hasI_wantStep {l : List Pc} {out : List Int} {n y : Int} : y ∈ wantStep l out n ↔ (y ∈ out ∨ (y = n ∧ hasP l n = false)) := by
  unfold wantStep
  cases hp : hasP l n
  · cases hi : hasI out n
    · simp
    · simp only [Bool.false_or, if_true]
      constructor
      · exact .inl
      · rintro (h | ⟨rfl, _⟩)
        · exact h
        · exact hasI_iff.1 hi
  · simp
theorem want_mem {l : List Pc} {y : Int} : ∀ (ns out : List Int), y ∈ ns.foldl (wantStep l) out ↔ (y ∈ out ∨ (y ∈ ns ∧ hasP l y = false))
  | [], out => by simp
  | n :: r, out => by
    rw [List.foldl_cons, want_mem r, hasI_wantStep]
    constructor
    · rintro ((h | ⟨rfl, h⟩) | h)
      · exact .inl h
      · exact .inr ⟨by simp, h⟩
      · exact .inr ⟨by simp [h.1], h.2⟩
    · rintro (h | ⟨h, h2⟩)
      · exact .inl (.inl h)
      · rcases List.mem_cons.1 h with rfl | h
        · exact .inl (.inr ⟨rfl, h2⟩)
        · exact .inr ⟨h, h2⟩
theorem wantedOf_mem {l : List Pc} (h : storeOk l = true) {ns : List Int} {y : Int} : y ∈ wantedOf l ns ↔ (y ∈ ns ∧ hasP l y = false) := by
  unfold wantedOf wantFrom; rw [h]; simp [want_mem]
theorem wanted_has {l : List Pc} (h : storeOk l = true) {ns : List Int} {y : Int} (hy : y ∈ ns) : hasI (wantedOf l ns) y = !hasP l y := by
  rw [Bool.eq_iff_iff, hasI_iff, wantedOf_mem h]
  simp [hy]
theorem want_nodup {l : List Pc} : ∀ (ns out : List Int), out.Nodup → (ns.foldl (wantStep l) out).Nodup
  | [], out, h => h
  | n :: r, out, h => by
    rw [List.foldl_cons]
    refine want_nodup r _ ?_
    unfold wantStep
    split
    · exact h
    · rename_i hc
      rw [List.nodup_append]
      refine ⟨h, by simp, ?_⟩
      intro a ha b hb
      simp at hb; subst hb
      rintro rfl
      exact hc (by rw [hasI_iff.2 ha]; simp)
theorem want_same {l : List Pc} : ∀ (ns out : List Int), (out ++ ns).Nodup → (∀ y ∈ ns, hasP l y = false) → ns.foldl (wantStep l) out = out ++ ns
  | [], out, _, _ => by simp
  | n :: r, out, h, h2 => by
    rw [List.foldl_cons]
    have hs : wantStep l out n = out ++ [n] := by
      unfold wantStep
      rw [h2 n (by simp)]
      have : hasI out n = false := by
        cases hi : hasI out n
        · rfl
        · exfalso
          have := hasI_iff.1 hi
          rw [List.nodup_append] at h
          exact h.2.2 n this n (by simp) rfl
      rw [this]; rfl
    rw [hs, want_same r _ (by simpa using h) (fun y hy => h2 y (by simp [hy]))]
    simp
theorem send_map {l : List Pc} : ∀ (ns : List Int) (out : List ByteArray), ns.foldl (sendStep l) out = out ++ ns.filterMap (getP l)
  | [], out => by simp
  | n :: r, out => by
    rw [List.foldl_cons, send_map r]
    unfold sendStep
    rw [List.filterMap_cons]
    cases getP l n <;> simp
theorem sendTexts_on {l : List Pc} (h : storeOk l = true) (ns : List Int) : sendTexts l ns = ns.filterMap (getP l) := by
  unfold sendTexts sendFrom; rw [h, if_pos rfl, send_map]; rfl
theorem filterMap_len {α β : Type} (f : α → Option β) (p : α → Bool) : ∀ (l : List α), (∀ x ∈ l, p x = (f x).isSome) → (l.filterMap f).length = (l.filter p).length
  | [], _ => rfl
  | x :: r, h => by
    have h1 := h x (by simp)
    have ih := filterMap_len f p r (fun y hy => h y (by simp [hy]))
    rw [List.filterMap_cons, List.filter_cons, h1]
    cases f x with
    | none => simpa using ih
    | some y => simpa using ih
/-- FnSendTexts. -/
theorem lw_send {l : List Pc} (h : storeOk l = true) (ns : List Int) : (sendTexts l ns).length = (ns.filter fun n => !hasI (wantedOf l ns) n).length := by
  rw [sendTexts_on h]
  exact filterMap_len _ _ ns (fun n hn => by rw [wanted_has h hn]; simp [hasP])
theorem lw_send2 {l : List Pc} {ns : List Int} {t : ByteArray} (ht : t ∈ sendTexts l ns) : hasI ns (printOf (bs t)) = true := by
  cases h : storeOk l
  · unfold sendTexts at ht; rw [h] at ht; simp at ht
  · rw [sendTexts_on h] at ht
    obtain ⟨n, hn, hg⟩ := List.mem_filterMap.1 ht
    have hm := st_all h ((getP_iff h).1 hg)
    rw [hasI_iff, ← (pcOk_iff.1 hm).2]
    exact hn
/-- FnWantedOf. -/
theorem wantedOf_le {l : List Pc} {ns : List Int} : (wantedOf l ns).length ≤ ns.length := by
  unfold wantedOf
  split
  · have := wantFrom_len l ns []; unfold wantFrom; simpa using this
  · simp

/-! ### FnTakeTexts -/
theorem take_get {ps : List Int} : ∀ (ts : List ByteArray) (s : List Pc × Nat), storeOk s.1 = true →
    storeOk (ts.foldl (takeStep ps) s).1 = true ∧ (∀ n u, getP s.1 n = some u → getP (ts.foldl (takeStep ps) s).1 n = some u) ∧
    (∀ n, hasP (ts.foldl (takeStep ps) s).1 n = true → hasP s.1 n = true ∨ n ∈ ps) ∧
    s.2 ≤ (ts.foldl (takeStep ps) s).2 ∧ (ts.foldl (takeStep ps) s).2 ≤ s.2 + ts.length ∧ (ts.foldl (takeStep ps) s).1.length + (ts.foldl (takeStep ps) s).2 ≤ s.1.length + s.2 + ts.length
  | [], s, h => ⟨h, fun _ _ h => h, fun _ h => .inl h, Nat.le_refl _, by simp, by simp⟩
  | t :: r, s, h => by
    rw [List.foldl_cons]
    obtain ⟨i1, i2, i3, i4, i5, i6⟩ := take_get r (takeStep ps s t) (takeStep_ok h)
    by_cases hc : ((putS s.1 t).2.2 && hasI ps (putS s.1 t).2.1) = true
    · have e : takeStep ps s t = ((putS s.1 t).1, s.2) := by unfold takeStep; rw [if_pos hc]
      rw [e] at i1 i2 i3 i4 i5 i6 ⊢
      obtain ⟨hp, hi⟩ := Bool.and_eq_true_iff.1 hc
      obtain ⟨p1, p2, p3, p4⟩ := put_get h hp
      have hl : (putS s.1 t).1.length ≤ s.1.length + 1 := by
        rcases put_cases (t := t) h with e | ⟨_, _, e⟩ | ⟨_, _, _, e⟩
        · rw [e]; simp
        · rw [e]; simp
        · rw [e]; simp [insP_len]
      refine ⟨i1, fun n u hn => i2 n u ((p4 n u).2 (.inl hn)), fun n hn => ?_, i4, ?_, ?_⟩
      · rcases i3 n hn with h1 | h1
        · obtain ⟨u, hu⟩ := has_get h1
          rcases (p4 n u).1 hu with h2 | ⟨rfl, _⟩
          · exact .inl (get_has h2)
          · right
            rw [p3] at hi
            exact hasI_iff.1 hi
        · exact .inr h1
      · simp only [List.length_cons] at i5 ⊢; omega
      · simp only [List.length_cons] at i6 ⊢; omega
    · have e : takeStep ps s t = (s.1, s.2 + 1) := by unfold takeStep; rw [if_neg hc]
      rw [e] at i1 i2 i3 i4 i5 i6 ⊢
      refine ⟨i1, i2, i3, ?_, ?_, ?_⟩
      · simp only at i4; omega
      · simp only [List.length_cons] at i5 ⊢; omega
      · simp only [List.length_cons] at i6 ⊢; omega
theorem lw_take {l : List Pc} (h : storeOk l = true) (ps : List Int) (ts : List ByteArray) : ∃ (x : List Pc) (b : Nat), takeTexts l ps ts = (x, (b : Int)) ∧ storeOk x = true ∧ Le l x ∧ (∀ p ∈ x, hasP l p.print = true ∨ hasI ps p.print = true) ∧ b ≤ ts.length ∧ x.length + b ≤ l.length + ts.length := by
  obtain ⟨i1, i2, i3, i4, i5, i6⟩ := take_get (ps := ps) ts (l, 0) h
  refine ⟨(takeFrom l ps ts).1, (takeFrom l ps ts).2, by unfold takeTexts; rw [h]; rfl, i1, i2, fun p hp => ?_, ?_, ?_⟩
  · exact (i3 p.print (hasP_iff.2 ⟨p, hp, rfl⟩)).imp id hasI_iff.2
  · simpa [takeFrom] using i5
  · simpa [takeFrom] using i6

/-! ### FnMissingPrints -/
theorem missing_mem {l : List Pc} (h : storeOk l = true) {y : Int} : y ∈ missingOf l ↔ (y ∈ named l ∧ hasP l y = false) := by unfold missingOf; exact wantedOf_mem h
theorem missing_nodup (l : List Pc) : (missingOf l).Nodup := by
  unfold missingOf wantedOf
  split
  · exact want_nodup _ _ (by simp)
  · simp
theorem missing_hasP {l : List Pc} {y : Int} (hy : y ∈ missingOf l) : hasP l y = false := by
  cases h : storeOk l
  · rw [missingOf_off h] at hy; simp at hy
  · exact ((missing_mem h).1 hy).2
theorem missing_want (l : List Pc) : wantedOf l (missingOf l) = missingOf l := by
  cases h : storeOk l
  · rw [missingOf_off h]; unfold wantedOf; rw [h]; rfl
  · conv => lhs; unfold wantedOf
    rw [if_pos h]
    have := want_same (l := l) (missingOf l) [] (by simpa using missing_nodup l) (fun y hy => missing_hasP hy)
    simpa [wantFrom] using this
theorem missing_once {l : List Pc} {k : Nat} {y : Int} (h : (missingOf l)[k]? = some y) : hasI ((missingOf l).take k) y = false := by
  cases hh : hasI ((missingOf l).take k) y
  · rfl
  · exfalso
    have hm := hasI_iff.1 hh
    obtain ⟨j, hj, e⟩ := List.getElem_of_mem hm
    have hn := missing_nodup l
    obtain ⟨hk, ek⟩ := List.getElem?_eq_some_iff.1 h
    simp only [List.length_take] at hj
    rw [List.getElem_take] at e
    exact List.pairwise_iff_getElem.1 hn j k (by omega) hk (by omega) (by rw [e, ek])

/-! ### FnNameCounts -/
def cntHas (l : List Pc) (ns : List Int) : Nat := (ns.filter fun n => hasP l n).length
theorem sum_set : ∀ (L : List Int) (i : Nat) (x z : Int), L[i]? = some x → (L.set i z).sum = L.sum - x + z
  | [], i, x, z, h => by simp at h
  | a :: r, 0, x, z, h => by simp at h; subst h; simp; omega
  | a :: r, i + 1, x, z, h => by
    have := sum_set r i x z (by simpa using h)
    simp only [List.set_cons_succ, List.sum_cons, this]; omega
theorem cnt_sum {l : List Pc} (hs : storeOk l = true) (ns : List Int) : (cntIn l ns).sum = (cntHas l ns : Int) := by
  have key : ∀ n : Nat, ∀ ns : List Int, ns.length = n → (cntIn l ns).sum = (cntHas l ns : Int) := by
    intro n
    induction n with
    | zero =>
      intro ns hn
      obtain rfl := List.length_eq_zero_iff.1 hn
      rw [cnt_nil]
      simp [cntHas]
    | succ n ih =>
      intro ns hn
      rcases List.eq_nil_or_concat ns with rfl | ⟨t, y, rfl⟩
      · simp at hn
      · rw [List.concat_eq_append] at hn ⊢
        have iht := ih t (by simp at hn; omega)
        have hc : cntHas l (t ++ [y]) = cntHas l t + if hasP l y then 1 else 0 := by
          unfold cntHas
          rw [List.filter_append, List.length_append]
          cases hp : hasP l y <;> simp [hp]
        rw [hc]
        cases hp : hasP l y
        · rw [cnt_no t hp, iht]; simp
        · rw [cnt_yes t hs hp]
          obtain ⟨x, hx, hxy⟩ := has_at hs hp
          have hg := cnt_get t hx
          rw [hxy] at hg
          rw [sum_set _ _ _ _ hg, iht]
          simp; omega
  exact key ns.length ns rfl
theorem counts_sum {l : List Pc} (hs : storeOk l = true) : (countsOf l).sum = (cntHas l (named l) : Int) := by
  rw [countsOf_on hs]; exact cnt_sum hs _
/-- What the law's second loop takes away for one print. -/
noncomputable def missW (l : List Pc) (n : Int) : Int := if hasI (missingOf l) n then 0 else 1
theorem miss_named {l : List Pc} (hs : storeOk l = true) : ((named l).map (missW l)).sum = (cntHas l (named l) : Int) := by
  have key : ∀ ns : List Int, (∀ n ∈ ns, n ∈ named l) → (ns.map (missW l)).sum = (cntHas l ns : Int) := by
    intro ns
    induction ns with
    | nil => intro _; rfl
    | cons n r ih =>
      intro h
      rw [List.map_cons, List.sum_cons, ih (fun x hx => h x (by simp [hx]))]
      unfold missW cntHas
      rw [List.filter_cons]
      cases hp : hasP l n
      · rw [if_pos (hasI_iff.2 ((missing_mem hs).2 ⟨h n (by simp), hp⟩))]; simp
      · rw [if_neg (fun hc => by have := ((missing_mem hs).1 (hasI_iff.1 hc)).2; rw [hp] at this; cases this)]
        simp; omega
  exact key _ (fun _ h => h)
theorem lw_count {l : List Pc} (hs : storeOk l = true) : (countsOf l).sum - ((named l).map (missW l)).sum = 0 := by rw [counts_sum hs, miss_named hs]; omega
theorem counts_full {l : List Pc} (hs : storeOk l = true) : (countsOf l).length = l.length := by rw [countsOf_on hs, cnt_len]

/-! ### FnTopPrints, FnLostPrints -/
/-- No folder leads to itself. -/
def Acy (l : List Pc) : Prop := ∃ rank : Int → Nat, ∀ x ∈ l, ∀ y ∈ prs x, hasP l y = true → rank y < rank x.print
theorem Good.acy {l : List Pc} (h : Good l) : Acy l := by
  obtain ⟨hs, rank, hr⟩ := h
  exact ⟨rank, fun x hx y hy _ => (hr x.print x.text ((getP_iff hs).2 hx) y hy).2⟩
theorem top_mem {l : List Pc} (hs : storeOk l = true) {y : Int} : y ∈ topsOf l ↔ ∃ x ∈ l, x.print = y ∧ y ∉ named l := by
  unfold topsOf
  rw [List.mem_flatMap, countsOf_on hs]
  constructor
  · rintro ⟨⟨z, x⟩, hzx, hy⟩
    obtain ⟨i, hi, e⟩ := List.getElem_of_mem hzx
    have hi2 : i < l.length := by simp at hi; omega
    simp only [List.getElem_zip, Prod.mk.injEq] at e
    have hx : l[i]? = some x := by rw [List.getElem?_eq_getElem hi2, e.2]
    have hg := cnt_get (named l) hx
    have hz : (cntIn l (named l))[i]? = some z := by
      rw [List.getElem?_eq_getElem (by rw [cnt_len]; exact hi2)]
      rw [e.1]
    rw [hg] at hz
    have hz' := Option.some.inj hz
    unfold topF at hy
    simp only at hy
    split at hy
    · rename_i h0
      simp at hy; subst hy
      refine ⟨x, List.mem_of_getElem? hx, rfl, ?_⟩
      have : (named l).count x.print = 0 := by omega
      exact List.count_eq_zero.1 this
    · simp at hy
  · rintro ⟨x, hx, rfl, hn⟩
    obtain ⟨i, hi, e⟩ := List.getElem_of_mem hx
    have hx' : l[i]? = some x := by rw [List.getElem?_eq_getElem hi, e]
    have hg := cnt_get (named l) hx'
    rw [List.count_eq_zero.2 hn] at hg
    refine ⟨((0 : Nat), x), ?_, by simp [topF]⟩
    obtain ⟨h1, h2⟩ := List.getElem?_eq_some_iff.1 hg
    rw [List.mem_iff_getElem]
    refine ⟨i, by simp; omega, ?_⟩
    rw [List.getElem_zip, h2, e]
theorem named_mem {l : List Pc} {y : Int} : y ∈ named l ↔ ∃ x ∈ l, y ∈ prs x := by unfold named; exact List.mem_flatMap
theorem tops_reach {l : List Pc} (hs : storeOk l = true) (ha : Acy l) : ∀ x ∈ l, Rch l (topsOf l) x.print := by
  obtain ⟨rank, hr⟩ := ha
  obtain ⟨M, hM⟩ : ∃ M, ∀ x ∈ l, rank x.print ≤ M := ⟨(l.map fun x => rank x.print).sum, fun x hx => by
    have := sum_ge (f := rank) (l := l.map (·.print)) (List.mem_map.2 ⟨x, hx, rfl⟩)
    simpa [Function.comp_def] using this⟩
  have key : ∀ d : Nat, ∀ x ∈ l, M - rank x.print ≤ d → Rch l (topsOf l) x.print := by
    intro d
    induction d with
    | zero =>
      intro x hx hd
      have h1 := hM x hx
      refine rch_root ((top_mem hs).2 ⟨x, hx, rfl, fun hn => ?_⟩) (has_mem hx)
      obtain ⟨z, hz, hy⟩ := named_mem.1 hn
      have h2 := hr z hz _ hy (has_mem hx)
      have h3 := hM z hz
      omega
    | succ d ih =>
      intro x hx hd
      by_cases hn : x.print ∈ named l
      · obtain ⟨z, hz, hy⟩ := named_mem.1 hn
        have h2 := hr z hz _ hy (has_mem hx)
        have h3 := hM z hz
        exact rch_step hz (ih z hz (by omega)) hy (has_mem hx)
      · exact rch_root ((top_mem hs).2 ⟨x, hx, rfl, hn⟩) (has_mem hx)
  exact fun x hx => key _ x hx (Nat.le_refl _)
/-- The prints that are not reached. -/
noncomputable def lostOf (l : List Pc) (roots : List Int) : List Int := if storeOk l then (l.filter fun p => !inR l roots p.print).map (·.print) else []
theorem lostOf_off {l : List Pc} {roots : List Int} (h : storeOk l = false) : lostOf l roots = [] := by unfold lostOf; rw [h]; rfl
theorem lostOf_on {l : List Pc} {roots : List Int} (h : storeOk l = true) : lostOf l roots = (l.filter fun p => !inR l roots p.print).map (·.print) := by unfold lostOf; rw [h]; rfl
theorem lost_none {l : List Pc} {roots : List Int} (h : ∀ x ∈ l, Rch l roots x.print) : lostOf l roots = [] := by
  unfold lostOf
  split
  · rw [List.map_eq_nil_iff, List.filter_eq_nil_iff]
    intro x hx
    rw [inR_iff.2 (h x hx)]; simp
  · rfl
theorem filter_both {α : Type} (p : α → Bool) : ∀ l : List α, (l.filter fun x => !p x).length + (l.filter p).length = l.length
  | [] => rfl
  | x :: r => by
    have := filter_both p r
    rw [List.filter_cons, List.filter_cons]
    cases p x <;> simp <;> omega
theorem lost_all {l : List Pc} {roots : List Int} (h : storeOk l = true) : (lostOf l roots).length + (reachOf l roots).length = l.length := by
  rw [lostOf_on h, reachOf_on h, List.length_map, List.length_map]
  exact filter_both _ l
theorem rch_more {l : List Pc} {roots more : List Int} {y : Int} (h : Rch l roots y) (hm : ∀ z ∈ roots, z ∈ more) : Rch l more y := fun S hS => h S ⟨fun z hz hp => hS.1 z (hm z hz) hp, hS.2⟩
theorem lost_more {l : List Pc} {roots : List Int} (h : storeOk l = true) : lostOf l (roots ++ lostOf l roots) = [] := by
  refine lost_none (fun x hx => ?_)
  cases hr : inR l roots x.print
  · refine rch_root ?_ (has_mem hx)
    rw [List.mem_append, lostOf_on h]
    exact .inr (List.mem_map.2 ⟨x, List.mem_filter.2 ⟨hx, by simp [hr]⟩, rfl⟩)
  · exact rch_more (inR_iff.1 hr) (fun z hz => List.mem_append_left _ hz)
theorem lostOf_len {l : List Pc} {roots : List Int} : (lostOf l roots).length ≤ 40 := by
  cases h : storeOk l
  · rw [lostOf_off h]; simp
  · have := lost_all (roots := roots) h
    have := (st_in h).1
    omega
theorem topsOf_le {l : List Pc} : (topsOf l).length ≤ l.length := by
  unfold topsOf
  have h1 : ∀ z : List (Int × Pc), (z.flatMap topF).length ≤ z.length := by
    intro z
    induction z with
    | nil => simp
    | cons a r ih =>
      rw [List.flatMap_cons, List.length_append]
      have : (topF a).length ≤ 1 := by unfold topF; split <;> simp
      rw [List.length_cons]; omega
  refine Nat.le_trans (h1 _) ?_
  rw [List.length_zip]
  omega

/-! ### Drawn stores that are turned -/
theorem nmd_prs (x : Pc) : prs x = nmd x.text := rfl
def TURNED : ByteArray := ⟨#[116, 117, 114, 110, 101, 100]⟩
theorem nmd_turned : nmd TURNED = [] := by
  unfold nmd entsOf
  rw [readFolder_no (fun es h he => by rw [folder_on h] at he; have := congrArg List.head? he; simp [TURNED, bs] at this)]
  rfl
/-- A store that was drawn: not empty, small, and no valid part of it has a folder that leads to itself. -/
def DrawnH (l : List Pc) : Prop := l.length ≤ 41 ∧ (∀ x ∈ l, x.text.size ≤ 60) ∧ ∀ l' : List Pc, (∀ x ∈ l', x ∈ l) → storeOk l' = true → Acy l'
def Drawn (l : List Pc) : Prop := l ≠ [] ∧ DrawnH l
theorem acy_sub {l l' : List Pc} (h : Acy l) (hs : ∀ x ∈ l', x ∈ l) : Acy l' := by
  obtain ⟨rank, hr⟩ := h
  refine ⟨rank, fun x hx y hy hp => hr x (hs x hx) y hy ?_⟩
  obtain ⟨u, hu, rfl⟩ := hasP_iff.1 hp
  exact has_mem (hs u hu)
theorem DrawnH.acy {l : List Pc} (h : DrawnH l) (hs : storeOk l = true) : Acy l := h.2.2 l (fun _ hx => hx) hs
theorem Good.drawn {l : List Pc} (h : Good l) (h0 : l ≠ []) : Drawn l := ⟨h0, by have := (st_in h.1).1; omega, fun x hx => st_text h.1 hx, fun l' hl _ => acy_sub h.acy hl⟩
theorem drawn_print {l : List Pc} (h : Good l) (h0 : l ≠ []) {j : Nat} {x : Pc} (hx : l[j]? = some x) (r : Int) : Drawn (l.set j ⟨r, x.text⟩) := by
  have hm := List.mem_of_getElem? hx
  refine ⟨by simpa using h0, by have := (st_in h.1).1; simp; omega, fun y hy => ?_, fun l' hl hs => acy_sub h.acy (fun y hy => ?_)⟩
  · rcases List.mem_or_eq_of_mem_set hy with h1 | rfl
    · exact st_text h.1 h1
    · have := st_text h.1 hm; exact this
  · rcases List.mem_or_eq_of_mem_set (hl y hy) with h1 | rfl
    · exact h1
    · have h1 := (pcOk_iff.1 (st_all hs hy)).2
      have h2 := (pcOk_iff.1 (st_all h.1 hm)).2
      simp only at h1
      have e : (⟨r, x.text⟩ : Pc) = x := by
        obtain ⟨p, t⟩ := x
        simp only at h1 h2 ⊢
        rw [h1, h2]
      rw [e]; exact hm
theorem drawn_twice {l : List Pc} (h : Good l) {x : Pc} (hx : l[0]? = some x) : Drawn (l ++ [x]) := by
  have hm := List.mem_of_getElem? hx
  have hsub : ∀ y ∈ l ++ [x], y ∈ l := fun y hy => by
    rcases List.mem_append.1 hy with h1 | h1
    · exact h1
    · simp at h1; subst h1; exact hm
  exact ⟨by simp, by have := (st_in h.1).1; simp; omega, fun y hy => st_text h.1 (hsub y hy), fun l' hl _ => acy_sub h.acy (fun y hy => hsub y (hl y hy))⟩
theorem drawn_text {l : List Pc} (h : Good l) (h0 : l ≠ []) {j : Nat} {x : Pc} (hx : l[j]? = some x) : Drawn (l.set j ⟨x.print, TURNED⟩) := by
  have hm := List.mem_of_getElem? hx
  refine ⟨by simpa using h0, by have := (st_in h.1).1; simp; omega, fun y hy => ?_, fun l' hl hs => ?_⟩
  · rcases List.mem_or_eq_of_mem_set hy with h1 | rfl
    · exact st_text h.1 h1
    · simp [TURNED, ByteArray.size]
  · obtain ⟨rank, hr⟩ := h.acy
    refine ⟨rank, fun y hy z hz hp => ?_⟩
    have hpl : hasP l z = true := by
      obtain ⟨u, hu, rfl⟩ := hasP_iff.1 hp
      rcases List.mem_or_eq_of_mem_set (hl u hu) with h1 | rfl
      · exact has_mem h1
      · have := has_mem hm; exact this
    rcases List.mem_or_eq_of_mem_set (hl y hy) with h1 | rfl
    · exact hr y h1 z hz hpl
    · rw [nmd_prs] at hz; simp only [nmd_turned] at hz; simp at hz
theorem drawn_sub {l l' : List Pc} (h : DrawnH l) (hn : l'.length ≤ l.length) (hl : ∀ x ∈ l', x ∈ l) : DrawnH l' := ⟨by have := h.1; omega, fun x hx => h.2.1 x (hl x hx), fun m hm hs => h.2.2 m (fun x hx => hl x (hm x hx)) hs⟩

end Go.Proofs.YtnaahincolooeaaGreatDoor

/- Walks: stores that are synced. -/
namespace Go.Proofs.YtnaahincolooeaaGreatDoor
open Go.RowKit

theorem Own.oneI (w : World) (x : Int) : OwnI (w.alloc (.cells #[.int .i64 x] 3)) w.heap.size (.slice (some ⟨w.heap.size, 0, none⟩) 1 1) [x] :=
  ⟨rfl, .inr ⟨w.heap.size, 1, #[.int .i64 x], rfl, Nat.le_refl _, heap_alloc_new _ _, Nat.le_refl 1, by decide, rfl, rfl⟩⟩
theorem sendFrom_small {l : List Pc} (hs : storeOk l = true) : ∀ (ns : List Int) (out : List ByteArray), (∀ t ∈ out, t.size ≤ 60) → ∀ t ∈ ns.foldl (sendStep l) out, t.size ≤ 60
  | [], out, h => h
  | n :: r, out, h => by
    rw [List.foldl_cons]
    refine sendFrom_small hs r _ ?_
    unfold sendStep
    split
    · rename_i t ht
      intro x hx
      rcases List.mem_append.1 hx with h1 | h1
      · exact h x h1
      · obtain rfl : x = t := by simpa using h1
        exact (getP_text hs ht).2.2
    · exact h
theorem sendTexts_small {l : List Pc} {ns : List Int} : ∀ t ∈ sendTexts l ns, t.size ≤ 60 := by
  unfold sendTexts
  split
  · rename_i hs
    exact sendFrom_small hs ns [] (by simp)
  · simp
theorem sendTexts_len {l : List Pc} {ns : List Int} : (sendTexts l ns).length ≤ ns.length := by
  unfold sendTexts
  split
  · have := sendFrom_len l ns []
    simpa [sendFrom] using this
  · simp
theorem wantedOf_len {l : List Pc} {ns : List Int} : (wantedOf l ns).length ≤ ns.length := by
  unfold wantedOf
  split
  · have := wantFrom_len l ns []
    simpa [wantFrom] using this
  · simp
noncomputable def syncOf (xs ys : List Pc) (root : Int) : List Pc × Int :=
  if storeOk xs = true ∧ storeOk ys = true then ((takeTexts xs (wantedOf xs (reachOf ys [root])) (sendTexts ys (wantedOf xs (reachOf ys [root])))).1, ((sendTexts ys (wantedOf xs (reachOf ys [root]))).length : Int)) else ([], -1)
theorem syncOf_off {xs ys : List Pc} {root : Int} (h : ¬ (storeOk xs = true ∧ storeOk ys = true)) : syncOf xs ys root = ([], -1) := by unfold syncOf; rw [if_neg h]



theorem spec_ReachOf_e (v u : Value) (xs : List Pc) (rts R : List Int) (hR : reachOf xs rts = R) (w : World) (h : Pcs w w.heap.size v xs) (h' : Ints w w.heap.size u rts) (hx0 : ∀ x ∈ xs, x.text.size ≤ 1048576) (hl0 : xs.length ≤ 1048576) :
    Calls Tryz.prog 139 #[v, u] w fun e w' => ∃ v', e = .returned v' ∧ OwnI w' w.heap.size v' R ∧ Below w.heap.size w w' := hR ▸ spec_ReachOf_c v u xs rts w h h' hx0 hl0



end Go.Proofs.YtnaahincolooeaaGreatDoor
