/- Walks and plain facts, joined: WalkW, Sweep. -/
import Derived.Test.YtachfmlfmpaddaaGreatDoorMg25
set_option linter.unusedVariables false
set_option linter.unusedSimpArgs false

/- Walks: the reference's way through folders. -/
namespace Go.Proofs.YtachfmlfmpaddaaGreatDoor
open Go.RowKit

theorem first_at {es : List Ent} {nm : ByteArray} {j : Nat} {x : Ent} (hx : es[j]? = some x) (hn : x.name = nm) (h : ∀ i y, i < j → es[i]? = some y → y.name ≠ nm) : firstOf es nm = some x.print := by
  unfold firstOf
  have : es.find? (fun e => decide (e.name = nm)) = some x := by
    induction es generalizing j with
    | nil => simp at hx
    | cons e r ih =>
      rw [List.find?_cons]
      cases j with
      | zero => simp at hx; subst hx; simp [hn]
      | succ j =>
        have h0 := h 0 e (by omega) (by simp)
        simp only [h0, decide_false]
        exact ih (by simpa using hx) (fun i y hi hy => h (i + 1) y (by omega) (by simpa using hy))
  rw [this]; rfl
theorem first_none {es : List Ent} {nm : ByteArray} (h : ∀ (i : Nat) (y : Ent), es[i]? = some y → y.name ≠ nm) : firstOf es nm = none := by
  unfold firstOf
  rw [Option.map_eq_none_iff, List.find?_eq_none]
  intro x hx
  obtain ⟨i, hi, e⟩ := List.getElem_of_mem hx
  have := h i x (by rw [List.getElem?_eq_getElem hi, e])
  simpa using this
theorem walk_some {s : List Pc} {pr ch : Int} {nm : ByteArray} {rest : List ByteArray} (h : firstOf (entsOf (textAt s pr)) nm = some ch) : walkAt s pr (nm :: rest) = walkAt s ch rest := by conv => lhs; unfold walkAt; rw [h]
theorem walk_no {s : List Pc} {pr : Int} {nm : ByteArray} {rest : List ByteArray} (h : firstOf (entsOf (textAt s pr)) nm = none) : walkAt s pr (nm :: rest) = (-1, false) := by unfold walkAt; rw [h]
theorem drop_cons {α : Type} {l : List α} {k : Nat} {x : α} (h : l[k]? = some x) : l.drop k = x :: l.drop (k + 1) := by
  obtain ⟨hk, rfl⟩ := List.getElem?_eq_some_iff.1 h
  exact List.drop_eq_getElem_cons hk

set_option maxHeartbeats 2000000 in
set_option maxRecDepth 100000 in
theorem spec_l9Walk_c (v pv : Value) (xs : List Pc) (pr : Int) (parts : List ByteArray) (w : World) (R : Int × Bool) (hR : walkAt xs pr parts = R) (h : Pcs w w.heap.size v xs) (hs : storeOk xs = true) (hp : Strs w w.heap.size pv parts) :
    Calls Tryz.prog 122 #[v, .int .i64 pr, pv] w fun e w' => e = .returned (.tuple #[.int .i64 R.1, .bool R.2]) ∧ Below w.heap.size w w' := by
  obtain ⟨m, hm⟩ : ∃ m, parts.length = m := ⟨_, rfl⟩
  obtain ⟨pa, pc, rfl, hpc, hpc63, hp3⟩ := hp.strs hm
  have HM := hid hm
  have HS := hid hs
  have HH := hid h
  have HR := hid hR
  clear hm hs h hR hp
  go_enter Tryz.func122, Tryz.ntmps122
  go_wp2
  go_loopw [1, 8] (fun q i wr => ∃ (k : Nat) (y : Int), k ≤ m ∧ i = .int .i64 k ∧ q = .int .i64 y ∧ Hid (walkAt xs y (parts.drop k) = R) ∧ Below w.heap.size w wr) (fun _ i _ => m - (intOf i).toNat)
  case atStart => exact ⟨0, pr, Nat.zero_le _, rfl, rfl, hid (by simpa using HR.out), Below.refl _ _⟩
  case round =>
    obtain ⟨k, y, hk, rfl, rfl, hw, hb⟩ := hrel
    by_cases hlt : k < m
    · obtain ⟨bp, op, nm, rfl, hbp, hx, kp⟩ := hp3 k hlt
      have HT := hid (text_small HS.out y)
      have HW := hid (show walkAt xs y (nm :: parts.drop (k + 1)) = R by rw [← drop_cons hx.out]; exact hw.out)
      have HKP := hid kp
      obtain ⟨fo, hfo⟩ : ∃ fo, (readFolder (bs ((getP xs y).getD ByteArray.empty))).isSome = fo := ⟨_, rfl⟩
      obtain ⟨es, hes⟩ : ∃ es, entsOf (bs ((getP xs y).getD ByteArray.empty)) = es := ⟨_, rfl⟩
      have HFO := hid hfo
      have HES := hid hes
      have HEA := hid (show entsOf (textAt xs y) = es from hes)
      obtain ⟨n, hn⟩ : ∃ n, es.length = n := ⟨_, rfl⟩
      have HN := hid hn
      have hn3 : n ≤ 3 := by rw [← hn, ← hes]; exact (ents_in (entsOf_ok _)).1
      have hfn : fo = false → n = 0 := by
        rintro rfl
        have := entsOf_none' hfo; rw [hes] at this; rw [this] at hn; simpa using hn.symm
      have HFN := hid hfn
      clear hfo hes hn hfn kp hp3 hw
      cases fo
      · have h00 : n = 0 := HFN.out rfl
        have he0 : es = [] := List.eq_nil_of_length_eq_zero (HN.out.trans h00)
        have HES' := hid (show entsOf (bs ((getP xs y).getD ByteArray.empty)) = [] by rw [HES.out, he0])
        obtain rfl : R = (-1, false) := by rw [← HW.out]; exact walk_no (by rw [HEA.out, he0]; rfl)
        clear h00 he0
        go_wp2_with fail
        refine (spec_l4Get_c _ xs y _ _ (HH.out.on hb)).mono ?_
        rintro e w1 ⟨rfl, rfl⟩
        go_wp2_with fail
        refine (spec_ReadFolder_c _ _ (Nat.le_trans HT.out (by omega))).mono ?_
        rw [HFO.out, HES'.out]
        rintro e wc ⟨lv, rfl, o2, hb2⟩
        obtain ⟨la, lc, rfl, _, _, _⟩ := (Rd.of_own o2).ents (n := 0) rfl
        have hbc := bl_then hb hb2
        clear o2 hb2
        go_wp2
        go_loop [1, 13, 14] (fun qv fv i => i = .int .i64 (0 : Nat) ∧ fv = .bool false) (fun _ _ _ => 0)
        case atStart => exact ⟨rfl, rfl⟩
        case round =>
          obtain ⟨rfl, rfl⟩ := hrel
          go_wp2
          go_ret2
          exact ⟨rfl, hbc⟩
      clear HFN
      go_wp2_with fail
      refine (spec_l4Get_c _ xs y _ _ (HH.out.on hb)).mono ?_
      rintro e w1 ⟨rfl, rfl⟩
      go_wp2_with fail
      refine (spec_ReadFolder_c _ _ (Nat.le_trans HT.out (by omega))).mono ?_
      rw [HFO.out, HES.out]
      rintro e wc ⟨lv, rfl, o2, hb2⟩
      obtain ⟨la, lc, rfl, _, _, hl3⟩ := (Rd.of_own o2).ents HN.out
      have hbc := bl_then hb hb2
      have kpc := (hbc.cell (p := ⟨bp, op + k, none⟩) hbp).trans HKP.out
      clear o2 hb2 hb
      go_wp2
      go_loopw [1, 13, 14] (fun qv fv i wr => ∃ j z : Nat, j ≤ n ∧ i = .int .i64 j ∧ qv = .int .i64 y ∧ fv = .bool false ∧ Hid (∀ i x, i < j → es[i]? = some x → x.name ≠ nm) ∧ wr = wc.drewN z) (fun _ _ i _ => n - (intOf i).toNat)
      case atStart => exact ⟨0, 0, Nat.zero_le _, rfl, rfl, rfl, hid (fun i x hi => absurd hi (by omega)), rfl⟩
      case round =>
        obtain ⟨j, z, hj, rfl, rfl, rfl, hno, rfl⟩ := hrel
        by_cases hjn : j < n
        · obtain ⟨b, o, t, r, rfl, hbl, hx2, k0, k1⟩ := hl3 j hjn
          have hkn : (j : Int) < n := by omega
          have hkm : (k : Int) < m := by omega
          have hse := str_eqE (u := t) (t := nm)
          clear hl3
          by_cases hte : t = nm
          · have hd1 : (t.toList == nm.toList) = true := by rw [hse]; exact decide_eq_true hte
            have HF := hid (show walkAt xs r (parts.drop (k + 1)) = R by rw [← HW.out, walk_some (by rw [HEA.out]; exact first_at hx2.out hte hno.out)])
            clear hse hte
            go_wp2
            go_quiet (fail)
            go_wp2
            go_roundw
            case rel => exact ⟨k + 1, r, by omega, by go_num, rfl, HF, bl_drewN hbc _⟩
            case measure => simp [intOf]; omega
          · have hd1 : (t.toList == nm.toList) = false := by rw [hse]; exact decide_eq_false hte
            have HF := hid (show ∀ i x, i < j + 1 → es[i]? = some x → x.name ≠ nm from fun i x hi hx' => by
              rcases Nat.lt_succ_iff_lt_or_eq.1 hi with h | h
              · exact hno.out i x h hx'
              · rw [h, hx2.out] at hx'
                rw [← Option.some.inj hx']; exact hte)
            clear hse hte
            go_wp2
            go_quiet (fail)
            go_wp2
            go_roundw
            case rel => exact ⟨j + 1, _, by omega, by go_num, rfl, rfl, HF, rfl⟩
            case measure => simp [intOf]; omega
        · obtain rfl : R = (-1, false) := by
            rw [← HW.out]
            exact walk_no (by rw [HEA.out]; exact first_none (fun i x hx' => hno.out i x (by have := (List.getElem?_eq_some_iff.1 hx').1; have := HN.out; omega) hx'))
          clear hl3
          go_wp2
          go_ret2
          exact ⟨rfl, bl_drewN hbc _⟩
    · have HF := hid (show walkAt xs y [] = R by rw [← hw.out, List.drop_of_length_le (by have := HM.out; omega)])
      clear hp3
      cases hp : hasP xs y
      · obtain rfl : R = (-1, false) := by rw [← HF.out]; unfold walkAt; rw [hp]; rfl
        have HP := hid hp
        clear hp
        go_wp2_with fail
        refine (spec_l4Get_c _ xs y _ _ (HH.out.on hb)).mono ?_
        rw [HP.out]
        rintro e w1 ⟨rfl, rfl⟩
        go_wp2
        go_ret2
        exact ⟨rfl, hb⟩
      · obtain rfl : R = (y, true) := by rw [← HF.out]; unfold walkAt; rw [hp]; rfl
        have HP := hid hp
        clear hp
        go_wp2_with fail
        refine (spec_l4Get_c _ xs y _ _ (HH.out.on hb)).mono ?_
        rw [HP.out]
        rintro e w1 ⟨rfl, rfl⟩
        go_wp2
        go_ret2
        exact ⟨rfl, hb⟩

end Go.Proofs.YtachfmlfmpaddaaGreatDoor

/- Walks: what is left of a store when what no root reaches is swept away. -/
namespace Go.Proofs.YtachfmlfmpaddaaGreatDoor
open Go.RowKit

noncomputable def sweepOf (l : List Pc) (roots : List Int) : List Pc := if storeOk l then l.filter fun p => inR l roots p.print else []
noncomputable def inS (l : List Pc) (roots : List Int) (p : Pc) : Bool := storeOk l && inR l roots p.print
theorem sweepOf_off {l : List Pc} {roots : List Int} (h : storeOk l = false) : sweepOf l roots = [] := by unfold sweepOf; rw [h]; rfl
theorem sweepOf_on {l : List Pc} {roots : List Int} (h : storeOk l = true) : sweepOf l roots = l.filter fun p => inR l roots p.print := by unfold sweepOf; rw [h]; rfl
theorem sweep_in {l : List Pc} {roots : List Int} : sweepOf l roots = l.filter fun p => inS l roots p := by
  cases h : storeOk l
  · rw [sweepOf_off h]
    symm
    rw [List.filter_eq_nil_iff]
    intro p _
    unfold inS; rw [h]; simp
  · rw [sweepOf_on h]
    refine List.filter_congr (fun p _ => ?_)
    unfold inS; rw [h]; rfl
theorem inS_has {l : List Pc} {roots : List Int} {x : Pc} (hx : x ∈ l) : hasI (reachOf l roots) x.print = inS l roots x := by
  unfold inS
  cases h : storeOk l
  · rw [reachOf_off h]; rfl
  · rw [inR_has h hx]; rfl
theorem push_pc {ops : Array Oper} {rest : List Oper} {o : Oper} {a : Act} {Q : Exit → Act → World → Prop} {w0 wr : World} (hgd : o.guard = none) (s x : Operand) (ho : o.op = .call { callee := .builtin .append, args := #[s, x], argTypes := #[23, 23] }) (B B0 : Nat) (v : Value) (acc : List Pc) (y : Pc)
    (hown : OwnP wr B v acc) (hb : Below B0 w0 wr) (hB : B ≤ wr.heap.size) (hB0 : B0 ≤ B) (hs : a.eval s = v) (hx : a.eval x = .slice (some ⟨wr.heap.size, 0, none⟩) 1 1) (hn : acc.length < 1099511627775)
    (h : ∀ v' w', OwnP w' B v' (acc ++ [y]) → Below B0 w0 w' → B ≤ w'.heap.size → wr.grownBy w' v.ownBlock ∧ (∀ g, v'.ownBlock = some g → v.ownBlock = some g ∨ wr.heap.size ≤ g) → wpList Tryz.prog ops Q rest (a.put o.dst v') w') :
    wpList Tryz.prog ops Q (o :: rest) a (wr.alloc (.cells #[.int .i64 y.print, .string y.text] 60)) := by
  obtain ⟨i0, hi, hz0, hz1, hz2⟩ := info_parts info_pcO
  exact wpList_push (enc := encP) hgd s x 23 ho B B0 60 i0 _ 2 24 Tryz.underlying23 hi hz0 hz1 hz2 rfl (by decide) v acc y hown hb hB hB0 hs hx rfl (by simp [Value.oneCell']) hn (by decide) h

set_option maxHeartbeats 2000000 in
set_option maxRecDepth 100000 in
theorem spec_SweepStore_c (v u : Value) (xs : List Pc) (rts : List Int) (w : World) (h : Pcs w w.heap.size v xs) (h' : Ints w w.heap.size u rts) (hx0 : ∀ x ∈ xs, x.text.size ≤ 1048576) (hl0 : xs.length ≤ 1048576) :
    Calls Tryz.prog 55 #[v, u] w fun e w' => ∃ v', e = .returned v' ∧ OwnP w' w.heap.size v' (sweepOf xs rts) ∧ Below w.heap.size w w' := by
  obtain ⟨n, hn⟩ : ∃ n, xs.length = n := ⟨_, rfl⟩
  obtain ⟨a, c, rfl, _, _, h3⟩ := h.pcs hn
  have H3 := hid h3
  have HN := hid hn
  have HX := hid hx0
  have HL := hid hl0
  have HP : Hid (∀ wx, Below w.heap.size w wx → Pcs wx wx.heap.size (.slice a n c) xs) := fun wx hx' => h.on hx'
  have HI : Hid (∀ wx, Below w.heap.size w wx → Ints wx wx.heap.size u rts) := fun wx hx' => h'.on hx'
  have hn20 : n ≤ 1048576 := by omega
  obtain ⟨W1, hW1⟩ : ∃ W1, W1 = w.alloc (.cells #[] 60) := ⟨_, rfl⟩
  have hal : Below w.heap.size w W1 := by rw [hW1]; exact (Below.refl _ _).alloc (Nat.le_refl _) _
  have hown0 : OwnP W1 w.heap.size (.slice (some ⟨w.heap.size, 0, none⟩) 0 0) [] := by rw [hW1]; exact Own.made _ (Nat.le_refl _)
  clear hn h3 hx0 hl0 h h'
  go_enter Tryz.func55, Tryz.ntmps55
  go_wp2_with fail
  rw [← hW1]
  refine (spec_ReachOf_c _ _ xs rts _ (HP.out _ hal) (HI.out _ hal) HX.out HL.out).mono ?_
  rintro e w1 ⟨rv, rfl, o1, b1'⟩
  have b1 := bl_then hal b1'
  have hown1 := hown0.on b1'
  have hs1 := b1.size
  have hlt1 := hid o1.lt
  have hpb : Hid (∀ g, Value.ownBlock (.slice (some ⟨w.heap.size, 0, none⟩) 0 0) = some g → g < W1.heap.size) := hid fun g hg => (hown0.lt g hg).2
  obtain ⟨R, hR⟩ : ∃ R, reachOf xs rts = R := ⟨_, rfl⟩
  rw [hR] at o1
  have HRR := hid hR
  obtain ⟨q, hq⟩ : ∃ q, R.length = q := ⟨_, rfl⟩
  obtain ⟨ra, rc, rfl, _, _, _⟩ := (Rd.of_own o1).ints hq
  have hq40 : q ≤ 40 := by have := reachOf_len (l := xs) (roots := rts); rw [hR, hq] at this; exact this
  have HQ := hid hq
  clear hal hown0 hW1 b1' hR hq
  go_wp2
  go_loopw [5, 7] (fun out i wr => ∃ (k : Nat) (acc : List Pc), k ≤ n ∧ i = .int .i64 k ∧ OwnP wr w.heap.size out acc ∧ Hid (acc = (xs.take k).filter fun p => inS xs rts p) ∧ acc.length ≤ k ∧ OwnI wr W1.heap.size (.slice ra q rc) R ∧ Hid (∀ g, out.ownBlock = some g → g < W1.heap.size ∨ w1.heap.size ≤ g) ∧ Below w.heap.size w wr ∧ w1.heap.size ≤ wr.heap.size) (fun _ i _ => n - (intOf i).toNat)
  case atStart => exact ⟨0, [], Nat.zero_le _, rfl, hown1, rfl, Nat.zero_le _, o1, hid fun g hg => .inl (hpb.out g hg), b1, Nat.le_refl _⟩
  case round =>
    obtain ⟨k, acc, hk, rfl, hown, hacc, hlen, hol, hpb2, hb, hsz⟩ := hrel
    clear o1 hown1 b1
    by_cases hlt : k < n
    · obtain ⟨b, o, r, t, rfl, hbl, hx, k0, k1⟩ := H3.out k hlt
      have HF := hid (filter_succ (fun p : Pc => inS xs rts p) hx.out)
      have HB := hid hbl
      have HK0 := hid k0
      have hkn : (k : Int) < n := by omega
      obtain ⟨z, hz⟩ : ∃ z, inS xs rts ⟨r, t⟩ = z := ⟨_, rfl⟩
      have HZ := hid hz
      have HH := hid (show hasI R r = z by rw [← hz, ← HRR.out]; exact inS_has (List.mem_of_getElem? hx.out))
      have j0 := (hb.cell (p := ⟨b, o + k * 2, none⟩) HB.out).trans k0
      have j1 := (hb.cell (p := ⟨b, o + k * 2 + 1, none⟩) HB.out).trans k1
      have hB := hb.size
      clear k0 k1 hz
      go_wp2_with fail
      refine (spec_l19Has_c _ R r _ _ (Rd.of_own hol)).mono ?_
      rw [HH.out]
      rintro e w4 ⟨rfl, rfl⟩
      cases z
      · have HS := hid (show ((xs.take (k + 1)).filter fun p => inS xs rts p) = acc by rw [HF.out, ← hacc.out]; simp only [HZ.out]; simp)
        go_wp2
        go_roundw
        case rel => exact ⟨k + 1, acc, by omega, by go_num, hown, hid HS.out.symm, by omega, hol, hpb2, hb, hsz⟩
        case measure => simp [intOf]; omega
      · have HS := hid (show ((xs.take (k + 1)).filter fun p => inS xs rts p) = acc ++ [⟨r, t⟩] by rw [HF.out, ← hacc.out]; simp only [HZ.out]; simp)
        go_wp2_with (at_builtin; refine push_pc (w0 := w) rfl _ _ rfl w.heap.size w.heap.size _ acc ⟨r, t⟩ hown hb hB (Nat.le_refl _) rfl rfl (by omega) ?_; intro v' w' hown' hb' hB' hg')
        go_roundw
        case rel =>
          have hsz4 : w1.heap.size ≤ w'.heap.size := by have := hg'.1.size; omega
          refine ⟨k + 1, _, by omega, by go_num, hown', hid HS.out.symm, by simp; omega, Own.kept hol hg'.1 ?_, hid fun g hg => ?_, hb', hsz4⟩
          · cases hra : (Value.slice ra q rc).ownBlock with
            | none => exact .inl rfl
            | some g =>
              refine .inr (fun e => ?_)
              have h5 := hlt1.out g hra
              rcases hpb2.out g e.symm with h6 | h6
              · omega
              · omega
          · rcases hg'.2 g hg with h6 | h6
            · exact hpb2.out g h6
            · exact .inr (by omega)
        case measure => simp [intOf]; omega
    · have HA := hid (show acc = sweepOf xs rts by rw [sweep_in, hacc.out, take_all HN.out (show n ≤ k by omega)])
      go_wp2
      go_ret
      exact ⟨_, rfl, by rw [← HA.out]; exact hown, hb⟩

end Go.Proofs.YtachfmlfmpaddaaGreatDoor
