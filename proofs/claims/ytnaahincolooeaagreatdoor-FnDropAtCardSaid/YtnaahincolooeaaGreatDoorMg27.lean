/- Walks and plain facts, joined: WalkW, Lost. -/
import Derived.Test.YtnaahincolooeaaGreatDoorMg15
import Derived.Test.YtnaahincolooeaaGreatDoorMg26
set_option linter.unusedVariables false
set_option linter.unusedSimpArgs false

/- Walks: the reference's way through folders. -/
namespace Go.Proofs.YtnaahincolooeaaGreatDoor
open Go.RowKit

theorem first_at {es : List Ent} {nm : ByteArray} {j : Nat} {x : Ent} (hx : es[j]? = some x) (hn : x.name = nm) (h : ∀ i y, i < j → es[i]? = some y → y.name ≠ nm) : firstOf es nm = some x.print := by
  unfold firstOf
  have : es.find? (fun e => decide (e.name = nm)) = some x := by
    induction es generalizing j with
    | nil => simp at hx
    | cons e r ih =>
      rw [List.find?_cons]
      cases j with
      | zero => simp at hx; subst hx; simp [hn]
      | succ j =>
        have h0 := h 0 e (by omega) (by simp)
        simp only [h0, decide_false]
        exact ih (by simpa using hx) (fun i y hi hy => h (i + 1) y (by omega) (by simpa using hy))
  rw [this]; rfl
theorem first_none {es : List Ent} {nm : ByteArray} (h : ∀ (i : Nat) (y : Ent), es[i]? = some y → y.name ≠ nm) : firstOf es nm = none := by
  unfold firstOf
  rw [Option.map_eq_none_iff, List.find?_eq_none]
  intro x hx
  obtain ⟨i, hi, e⟩ := List.getElem_of_mem hx
  have := h i x (by rw [List.getElem?_eq_getElem hi, e])
  simpa using this
theorem walk_some {s : List Pc} {pr ch : Int} {nm : ByteArray} {rest : List ByteArray} (h : firstOf (entsOf (textAt s pr)) nm = some ch) : walkAt s pr (nm :: rest) = walkAt s ch rest := by conv => lhs; unfold walkAt; rw [h]
theorem walk_no {s : List Pc} {pr : Int} {nm : ByteArray} {rest : List ByteArray} (h : firstOf (entsOf (textAt s pr)) nm = none) : walkAt s pr (nm :: rest) = (-1, false) := by unfold walkAt; rw [h]
theorem drop_cons {α : Type} {l : List α} {k : Nat} {x : α} (h : l[k]? = some x) : l.drop k = x :: l.drop (k + 1) := by
  obtain ⟨hk, rfl⟩ := List.getElem?_eq_some_iff.1 h
  exact List.drop_eq_getElem_cons hk

set_option maxHeartbeats 2000000 in
set_option maxRecDepth 100000 in
theorem spec_l9Walk_c (v pv : Value) (xs : List Pc) (pr : Int) (parts : List ByteArray) (w : World) (R : Int × Bool) (hR : walkAt xs pr parts = R) (h : Pcs w w.heap.size v xs) (hs : storeOk xs = true) (hp : Strs w w.heap.size pv parts) :
    Calls Tryz.prog 63 #[v, .int .i64 pr, pv] w fun e w' => e = .returned (.tuple #[.int .i64 R.1, .bool R.2]) ∧ Below w.heap.size w w' := by
  obtain ⟨m, hm⟩ : ∃ m, parts.length = m := ⟨_, rfl⟩
  obtain ⟨pa, pc, rfl, hpc, hpc63, hp3⟩ := hp.strs hm
  have HM := hid hm
  have HS := hid hs
  have HH := hid h
  have HR := hid hR
  clear hm hs h hR hp
  go_enter Tryz.func63, Tryz.ntmps63
  go_wp2
  go_loopw [1, 8] (fun q i wr => ∃ (k : Nat) (y : Int), k ≤ m ∧ i = .int .i64 k ∧ q = .int .i64 y ∧ Hid (walkAt xs y (parts.drop k) = R) ∧ Below w.heap.size w wr) (fun _ i _ => m - (intOf i).toNat)
  case atStart => exact ⟨0, pr, Nat.zero_le _, rfl, rfl, hid (by simpa using HR.out), Below.refl _ _⟩
  case round =>
    obtain ⟨k, y, hk, rfl, rfl, hw, hb⟩ := hrel
    by_cases hlt : k < m
    · obtain ⟨bp, op, nm, rfl, hbp, hx, kp⟩ := hp3 k hlt
      have HT := hid (text_small HS.out y)
      have HW := hid (show walkAt xs y (nm :: parts.drop (k + 1)) = R by rw [← drop_cons hx.out]; exact hw.out)
      have HKP := hid kp
      obtain ⟨fo, hfo⟩ : ∃ fo, (readFolder (bs ((getP xs y).getD ByteArray.empty))).isSome = fo := ⟨_, rfl⟩
      obtain ⟨es, hes⟩ : ∃ es, entsOf (bs ((getP xs y).getD ByteArray.empty)) = es := ⟨_, rfl⟩
      have HFO := hid hfo
      have HES := hid hes
      have HEA := hid (show entsOf (textAt xs y) = es from hes)
      obtain ⟨n, hn⟩ : ∃ n, es.length = n := ⟨_, rfl⟩
      have HN := hid hn
      have hn3 : n ≤ 3 := by rw [← hn, ← hes]; exact (ents_in (entsOf_ok _)).1
      have hfn : fo = false → n = 0 := by
        rintro rfl
        have := entsOf_none' hfo; rw [hes] at this; rw [this] at hn; simpa using hn.symm
      have HFN := hid hfn
      clear hfo hes hn hfn kp hp3 hw
      cases fo
      · have h00 : n = 0 := HFN.out rfl
        have he0 : es = [] := List.eq_nil_of_length_eq_zero (HN.out.trans h00)
        have HES' := hid (show entsOf (bs ((getP xs y).getD ByteArray.empty)) = [] by rw [HES.out, he0])
        obtain rfl : R = (-1, false) := by rw [← HW.out]; exact walk_no (by rw [HEA.out, he0]; rfl)
        clear h00 he0
        go_wp2_with fail
        refine (spec_l4Get_c _ xs y _ _ (HH.out.on hb)).mono ?_
        rintro e w1 ⟨rfl, rfl⟩
        go_wp2_with fail
        refine (spec_ReadFolder_c _ _ (Nat.le_trans HT.out (by omega))).mono ?_
        rw [HFO.out, HES'.out]
        rintro e wc ⟨lv, rfl, o2, hb2⟩
        obtain ⟨la, lc, rfl, _, _, _⟩ := (Rd.of_own o2).ents (n := 0) rfl
        have hbc := bl_then hb hb2
        clear o2 hb2
        go_wp2
        go_loop [1, 13, 14] (fun qv fv i => i = .int .i64 (0 : Nat) ∧ fv = .bool false) (fun _ _ _ => 0)
        case atStart => exact ⟨rfl, rfl⟩
        case round =>
          obtain ⟨rfl, rfl⟩ := hrel
          go_wp2
          go_ret2
          exact ⟨rfl, hbc⟩
      clear HFN
      go_wp2_with fail
      refine (spec_l4Get_c _ xs y _ _ (HH.out.on hb)).mono ?_
      rintro e w1 ⟨rfl, rfl⟩
      go_wp2_with fail
      refine (spec_ReadFolder_c _ _ (Nat.le_trans HT.out (by omega))).mono ?_
      rw [HFO.out, HES.out]
      rintro e wc ⟨lv, rfl, o2, hb2⟩
      obtain ⟨la, lc, rfl, _, _, hl3⟩ := (Rd.of_own o2).ents HN.out
      have hbc := bl_then hb hb2
      have kpc := (hbc.cell (p := ⟨bp, op + k, none⟩) hbp).trans HKP.out
      clear o2 hb2 hb
      go_wp2
      go_loopw [1, 13, 14] (fun qv fv i wr => ∃ j z : Nat, j ≤ n ∧ i = .int .i64 j ∧ qv = .int .i64 y ∧ fv = .bool false ∧ Hid (∀ i x, i < j → es[i]? = some x → x.name ≠ nm) ∧ wr = wc.drewN z) (fun _ _ i _ => n - (intOf i).toNat)
      case atStart => exact ⟨0, 0, Nat.zero_le _, rfl, rfl, rfl, hid (fun i x hi => absurd hi (by omega)), rfl⟩
      case round =>
        obtain ⟨j, z, hj, rfl, rfl, rfl, hno, rfl⟩ := hrel
        by_cases hjn : j < n
        · obtain ⟨b, o, t, r, rfl, hbl, hx2, k0, k1⟩ := hl3 j hjn
          have hkn : (j : Int) < n := by omega
          have hkm : (k : Int) < m := by omega
          have hse := str_eqE (u := t) (t := nm)
          clear hl3
          by_cases hte : t = nm
          · have hd1 : (t.toList == nm.toList) = true := by rw [hse]; exact decide_eq_true hte
            have HF := hid (show walkAt xs r (parts.drop (k + 1)) = R by rw [← HW.out, walk_some (by rw [HEA.out]; exact first_at hx2.out hte hno.out)])
            clear hse hte
            go_wp2
            go_quiet (fail)
            go_wp2
            go_roundw
            case rel => exact ⟨k + 1, r, by omega, by go_num, rfl, HF, bl_drewN hbc _⟩
            case measure => simp [intOf]; omega
          · have hd1 : (t.toList == nm.toList) = false := by rw [hse]; exact decide_eq_false hte
            have HF := hid (show ∀ i x, i < j + 1 → es[i]? = some x → x.name ≠ nm from fun i x hi hx' => by
              rcases Nat.lt_succ_iff_lt_or_eq.1 hi with h | h
              · exact hno.out i x h hx'
              · rw [h, hx2.out] at hx'
                rw [← Option.some.inj hx']; exact hte)
            clear hse hte
            go_wp2
            go_quiet (fail)
            go_wp2
            go_roundw
            case rel => exact ⟨j + 1, _, by omega, by go_num, rfl, rfl, HF, rfl⟩
            case measure => simp [intOf]; omega
        · obtain rfl : R = (-1, false) := by
            rw [← HW.out]
            exact walk_no (by rw [HEA.out]; exact first_none (fun i x hx' => hno.out i x (by have := (List.getElem?_eq_some_iff.1 hx').1; have := HN.out; omega) hx'))
          clear hl3
          go_wp2
          go_ret2
          exact ⟨rfl, bl_drewN hbc _⟩
    · have HF := hid (show walkAt xs y [] = R by rw [← hw.out, List.drop_of_length_le (by have := HM.out; omega)])
      clear hp3
      cases hp : hasP xs y
      · obtain rfl : R = (-1, false) := by rw [← HF.out]; unfold walkAt; rw [hp]; rfl
        have HP := hid hp
        clear hp
        go_wp2_with fail
        refine (spec_l4Get_c _ xs y _ _ (HH.out.on hb)).mono ?_
        rw [HP.out]
        rintro e w1 ⟨rfl, rfl⟩
        go_wp2
        go_ret2
        exact ⟨rfl, hb⟩
      · obtain rfl : R = (y, true) := by rw [← HF.out]; unfold walkAt; rw [hp]; rfl
        have HP := hid hp
        clear hp
        go_wp2_with fail
        refine (spec_l4Get_c _ xs y _ _ (HH.out.on hb)).mono ?_
        rw [HP.out]
        rintro e w1 ⟨rfl, rfl⟩
        go_wp2
        go_ret2
        exact ⟨rfl, hb⟩

end Go.Proofs.YtnaahincolooeaaGreatDoor

/- Walks: what no root reaches. -/
namespace Go.Proofs.YtnaahincolooeaaGreatDoor
open Go.RowKit




theorem inR_has {l : List Pc} {roots : List Int} {x : Pc} (hs : storeOk l = true) (hx : x ∈ l) : hasI (reachOf l roots) x.print = inR l roots x.print := by
  rw [Bool.eq_iff_iff, hasI_iff, reachOf_on hs, List.mem_map]
  constructor
  · rintro ⟨y, hy, e⟩
    have := (List.mem_filter.1 hy).2
    rw [e] at this
    exact this
  · intro h
    exact ⟨x, List.mem_filter.2 ⟨hx, h⟩, rfl⟩


end Go.Proofs.YtnaahincolooeaaGreatDoor
