/- Walks and plain facts, joined: PathQ, SetW. -/
import Derived.Test.YtachfmlfmpaddaaGreatDoorMg12
import Derived.Test.YtachfmlfmpaddaaGreatDoorMg22
import Derived.Deep.DeepCutAuto
set_option linter.unusedVariables false
set_option linter.unusedSimpArgs false

/- Walks: a path's words, the program's way. -/
namespace Go.Proofs.YtachfmlfmpaddaaGreatDoor
open Go.RowKit

theorem splitK_more : ∀ (k k' : Nat) (l : List UInt8), l.length ≤ k → l.length ≤ k' → Go.Lib.splitK [47] 0 k l = Go.Lib.splitK [47] 0 k' l
  | 0, k', l, h, _ => by
    obtain rfl : l = [] := List.eq_nil_of_length_eq_zero (by omega)
    rw [spl_none (by simp), spl_none (by simp)]
  | k + 1, 0, l, _, h => by
    obtain rfl : l = [] := List.eq_nil_of_length_eq_zero (by omega)
    rw [spl_none (by simp), spl_none (by simp)]
  | k + 1, k' + 1, l, h, h' => by
    rcases cut_ways 47 l with h1 | ⟨a, r, e, h1⟩
    · rw [spl_none h1, spl_none h1]
    · subst e
      rw [spl_some h1, spl_some h1, splitK_more k k' r (by simp at h; omega) (by simp at h'; omega)]
/-- What strings.SplitN hands back, as words. -/
noncomputable def cutW (R : List UInt8) : List ByteArray := (Go.Lib.splitK [47] 0 3 R).map strL
theorem cutW_bs (R : List UInt8) : (cutW R).map bs = Go.Lib.splitK [47] 0 3 R := strs_bs _
theorem splitB_cutW (R : List UInt8) : Go.Lib.splitB ⟨#[47]⟩ 0 (min 4 ((strL R).size + 1) - 1) (strL R) = cutW R := by
  have h1 := Go.Lib.splitB_data ⟨#[47]⟩ 0 (min 4 ((strL R).size + 1) - 1) (strL R)
  have h2 : Go.Lib.splitK [47] 0 (min 4 ((strL R).size + 1) - 1) R = Go.Lib.splitK [47] 0 3 R := by
    rw [strL_size]
    by_cases h : 3 ≤ R.length
    · rw [show min 4 (R.length + 1) - 1 = 3 by omega]
    · exact splitK_more _ _ _ (by omega) (by omega)
  have h3 : (Go.Lib.splitB ⟨#[47]⟩ 0 (min 4 ((strL R).size + 1) - 1) (strL R)).map bs = Go.Lib.splitK [47] 0 3 R := by
    rw [← h2]; exact h1
  have h4 : ∀ l : List ByteArray, (l.map bs).map strL = l := fun l => by
    rw [List.map_map]
    conv => rhs; rw [← List.map_id l]
    exact List.map_congr_left (fun x _ => by simp [strL_bs])
  rw [← h4 (Go.Lib.splitB ⟨#[47]⟩ 0 (min 4 ((strL R).size + 1) - 1) (strL R)), h3]
  rfl
theorem own_split (w : World) (l : List ByteArray) (N : Nat) (h : l.length ≤ N) (hN : N ≤ 4) : OwnS (w.alloc (.cells (Go.Lib.cellsOf l N) 9)) w.heap.size (.slice (some ⟨w.heap.size, 0, none⟩) l.length N) l := by
  have hfl : ∀ l : List ByteArray, l.flatMap encS = l.map Value.string := fun l => by rw [List.map_eq_flatMap]
  refine ⟨by rw [hfl]; simp, .inr ⟨w.heap.size, N, Go.Lib.cellsOf l N, rfl, Nat.le_refl _, heap_alloc_new _ _, h, by unfold maxLen; omega, (Go.Lib.cellsOf_size h).trans (Nat.mul_one N).symm, ?_⟩⟩
  rw [hfl, Nat.mul_one]
  unfold Go.Lib.cellsOf
  rw [List.take_append_of_le_length (by simp)]
  exact List.take_of_length_le (by simp)
theorem cutW_len (R : List UInt8) : (cutW R).length ≤ min 4 (R.length + 1) := by
  rw [← splitB_cutW R, strL_size]
  have := Go.Lib.splitB_length_le ⟨#[47]⟩ 0 (min 4 (R.length + 1) - 1) (strL R)
  omega

set_option maxHeartbeats 2000000 in
set_option maxRecDepth 100000 in
theorem impl_PathParts_c (s : ByteArray) (w : World) (hs : s.size ≤ 1000) (hm : Mx w) :
    Calls Tryz.prog 37 #[.string s] w fun e w' => ∃ v', e = .returned (.tuple #[v', .bool (pathParts (bs s)).isSome]) ∧ OwnS w' w.heap.size v' (((pathParts (bs s)).getD []).map strL) ∧ Below w.heap.size w w' := by
  have hb1 := str_beq' s [47]
  rw [show (strL [47]).toList = [47] by rw [ByteArray.toList_eq]; rfl] at hb1
  by_cases h1 : bs s = [47]
  · have HO := hid (show pathParts (bs s) = some [] by unfold pathParts; rw [if_pos h1])
    have hq : (s.toList == [47]) = true := by rw [hb1]; exact decide_eq_true h1
    clear hb1 h1
    go_enter Tryz.func37, Tryz.ntmps37
    go_wp2
    go_ret2
    exact ⟨_, by rw [HO.out]; rfl, by rw [HO.out]; exact Own.nil_, Below.refl _ _⟩
  have hq : (s.toList == [47]) = false := by rw [hb1]; exact decide_eq_false h1
  have H1 := hid h1
  clear hb1 h1
  by_cases hpre : ∃ R, bs s = 47 :: R
  · obtain ⟨R, hR⟩ := hpre
    have HR := hid hR
    have hRl : R.length ≤ 999 := by have := bs_len s; rw [hR] at this; simp at this; omega
    obtain ⟨m, hmx⟩ := hm
    have HP := hid (parts_cut hR H1.out)
    have hcl := cutW_len R
    have hsz := strL_size R
    obtain ⟨N, hN⟩ : ∃ N, min 4 ((strL R).size + 1) = N := ⟨_, rfl⟩
    have hN4 : N ≤ 4 := by omega
    obtain ⟨q, hq0⟩ : ∃ q, (cutW R).length = q := ⟨_, rfl⟩
    have hqN : q ≤ N := by rw [← hN, hsz]; omega
    have HSP := hid (splitB_cutW R)
    rw [hN] at HSP
    have HC := hid (show Calls Tryz.prog 86 #[.string (strL R), .string ⟨#[47]⟩, .int .i64 (4 : Int)] w fun e w' => e = .returned (.slice (some ⟨w.heap.size, 0, none⟩) q N) ∧ w' = w.alloc (.cells (Go.Lib.cellsOf (cutW R) N) 9) by
      have := strings_SplitN_c (strL R) ⟨#[47]⟩ 4 m w (by rw [hsz]; omega) hmx (by decide) (by omega) (by omega)
      rw [hN, HSP.out, hq0] at this
      exact this)
    obtain ⟨W1, hW1⟩ : ∃ W1, W1 = w.alloc (.cells (Go.Lib.cellsOf (cutW R) N) 9) := ⟨_, rfl⟩
    have o1 : OwnS W1 w.heap.size (.slice (some ⟨w.heap.size, 0, none⟩) q N) (cutW R) := by rw [hW1, ← hq0]; exact own_split w (cutW R) N (by omega) hN4
    have b1 : Below w.heap.size w W1 := by rw [hW1]; exact (Below.refl _ _).alloc (Nat.le_refl _) _
    have O1 := hid o1
    have B1 := hid b1
    have HQ := hid hq0
    rw [← hW1] at HC
    obtain ⟨J, hJ⟩ : ∃ J, joinP ((cutW R).map bs) = J := ⟨_, rfl⟩
    have HJ := hid hJ
    rw [cutW_bs] at hJ
    rw [hJ] at HP
    have hse := str_beq' s J
    clear hW1 hmx hR hcl hsz hN hq0 o1 b1 HSP hJ H1
    go_enter Tryz.func37, Tryz.ntmps37
    go_wp2_with (go_at_call 85; refine (CutPrefix_yes_c s 47 R _ HR.out (by omega)).mono ?_; rintro e w' ⟨rfl, rfl⟩)
    refine HC.out.mono ?_
    rintro e w' ⟨rfl, rfl⟩
    go_wp2_with fail
    refine (impl_JoinPath_c _ (cutW R) _ (Rd.of_own O1.out) (by rw [HQ.out]; omega)).mono ?_
    rw [HJ.out]
    rintro e w2 ⟨rfl, b2⟩
    have O2 := hid (O1.out.on b2)
    have B2 := hid (bl_then B1.out b2)
    have hse2 : ((strL J).toList == s.toList) = decide (bs s = J) := by rw [← hse, Bool.eq_iff_iff, beq_iff_eq, beq_iff_eq]; exact ⟨Eq.symm, Eq.symm⟩
    by_cases hJs : J = bs s
    · have HP2 := hid (show pathParts (bs s) = some (Go.Lib.splitK [47] 0 3 R) by rw [HP.out, if_pos hJs])
      have hd : ((strL J).toList == s.toList) = true := by rw [hse2]; exact decide_eq_true hJs.symm
      clear hse hse2 hJs b2
      go_wp2
      go_ret2
      exact ⟨_, by rw [HP2.out]; rfl, by rw [HP2.out]; exact O2.out, B2.out⟩
    · have HP2 := hid (show pathParts (bs s) = none by rw [HP.out, if_neg hJs])
      have hd : ((strL J).toList == s.toList) = false := by rw [hse2]; exact decide_eq_false (fun e => hJs e.symm)
      clear hse hse2 hJs b2
      go_wp2
      go_ret2
      exact ⟨_, by rw [HP2.out]; rfl, by rw [HP2.out]; exact Own.nil_, B2.out⟩
  · have HN := hid (show ∀ r, bs s ≠ 47 :: r from fun r e => hpre ⟨r, e⟩)
    have HP := hid (parts_no HN.out)
    clear hpre hm
    go_enter Tryz.func37, Tryz.ntmps37
    go_wp2_with (go_at_call 85; refine (CutPrefix_no_c s 47 _ HN.out (by omega)).mono ?_; rintro e w' ⟨rfl, rfl⟩)
    go_ret2
    exact ⟨_, by rw [HP.out]; rfl, by rw [HP.out]; exact Own.nil_, Below.refl _ _⟩

end Go.Proofs.YtachfmlfmpaddaaGreatDoor

/- Walks: the reference's way of setting a print at names. -/
namespace Go.Proofs.YtachfmlfmpaddaaGreatDoor
open Go.RowKit

/-! ### The rest of a row -/
theorem flat_drop {α : Type} {enc : α → List Value} {k : Nat} (hk : ∀ x : α, (enc x).length = k) : ∀ (xs : List α) (i : Nat), (xs.drop i).flatMap enc = (xs.flatMap enc).drop (i * k)
  | [], i => by simp
  | x :: r, 0 => by simp
  | x :: r, i + 1 => by
    rw [List.drop_succ_cons, List.flatMap_cons, flat_drop hk r i, show (i + 1) * k = (enc x).length + i * k by rw [hk, Nat.succ_mul]; omega, ← List.drop_drop, List.drop_left]
theorem Rd.backG {α : Type} {enc : α → List Value} {k : Nat} (hk : ∀ x : α, (enc x).length = k) {w : World} {B n c q : Nat} {a : Option Addr} {xs : List α} (h : Rd enc k w B (.slice a n c) xs) (hn : xs.length = n) (hq : q ≤ n) :
    Rd enc k w B (.slice (if c = q then a else a.map (fun (x : Addr) => x.add (q * k))) (n - q) (c - q)) (xs.drop q) := by
  obtain ⟨a', c', hv, h1, h2, h3, h4⟩ := h
  simp only [Value.slice.injEq] at hv
  obtain ⟨rfl, rfl, rfl⟩ := hv
  refine ⟨_, c - q, by rw [List.length_drop], by rw [List.length_drop]; omega, Nat.le_trans (Nat.sub_le _ _) h2, by rw [flat_drop hk, List.length_drop, h3, List.length_drop, Nat.sub_mul], fun h0 => ?_⟩
  rw [List.length_drop] at h0
  obtain ⟨b, o, rfl, hb, hat⟩ := h4 (by omega)
  have hadd : (⟨b, o, none⟩ : Addr).add (q * k) = ⟨b, o + q * k, none⟩ := by unfold Addr.add; split <;> simp_all
  refine ⟨b, o + q * k, by rw [if_neg (by omega)]; simp [hadd], hb, fun j u hu => ?_⟩
  rw [flat_drop hk, List.getElem?_drop] at hu
  have := hat (q * k + j) u hu
  rwa [← Nat.add_assoc] at this
/-- The rest behind the first element. -/
theorem Rd.tailS {w : World} {B b o n c : Nat} {x : ByteArray} {xs : List ByteArray} {ra : Option Addr} (h : Strs w B (.slice (some ⟨b, o, none⟩) n c) (x :: xs)) (hn : (x :: xs).length = n) (hra : (if c = 1 then (some ⟨b, o, none⟩ : Option Addr) else some ⟨b, o + 1, none⟩) = ra) : Strs w B (.slice ra (n - 1) (c - 1)) xs := by
  have := Rd.backG (enc := encS) (k := 1) (fun _ => rfl) h hn (q := 1) (by simp at hn; omega)
  rw [show (if c = 1 then (some ⟨b, o, none⟩ : Option Addr) else (some ⟨b, o, none⟩ : Option Addr).map (fun (x : Addr) => x.add (1 * 1))) = ra by rw [← hra]; (split <;> simp [Addr.add])] at this
  exact this

/-! ### Plain facts -/
theorem child_succ {es : List Ent} {nm : ByteArray} {k : Nat} {x : Ent} (h : es[k]? = some x) : childOf (es.take (k + 1)) nm = if x.name = nm then x.print else childOf (es.take k) nm := foldl_succ _ _ h
theorem text_small {xs : List Pc} (hs : storeOk xs = true) (y : Int) : ((getP xs y).getD ByteArray.empty).size ≤ 60 := by
  cases hg : getP xs y with
  | none => simp
  | some t => exact (getP_text hs hg).2.2
noncomputable def openAt (s : List Pc) (pr : Int) : Option (List Ent) := if 0 ≤ pr then readFolder (textAt s pr) else some []
theorem openAt_ok {s : List Pc} {pr : Int} {es : List Ent} (h : openAt s pr = some es) : entsOk es = true := by
  unfold openAt at h
  split at h
  · exact (readFolder_some h).1
  · obtain rfl := Option.some.inj h; rfl
theorem set_none {s : List Pc} {pr leaf : Int} {nm : ByteArray} {rest : List ByteArray} (h : openAt s pr = none) : setAt s pr (nm :: rest) leaf = (s, -1, false) := by unfold openAt at h; unfold setAt; rw [h]
theorem set_some {s : List Pc} {pr leaf : Int} {nm : ByteArray} {rest : List ByteArray} {es : List Ent} (h : openAt s pr = some es) : setAt s pr (nm :: rest) leaf =
      if rest = [] ∧ 0 ≤ childOf es nm ∧ badLeaf s (childOf es nm) = true then (s, -1, false)
      else if (setAt s (childOf es nm) rest leaf).2.2 = false then ((setAt s (childOf es nm) rest leaf).1, -1, false)
      else if (putEnt es ⟨nm, (setAt s (childOf es nm) rest leaf).2.1⟩).2 = false then ((setAt s (childOf es nm) rest leaf).1, -1, false)
      else putS (setAt s (childOf es nm) rest leaf).1 (strL (folderText (putEnt es ⟨nm, (setAt s (childOf es nm) rest leaf).2.1⟩).1)) := by
  unfold openAt at h
  conv => lhs; unfold setAt
  rw [h]
def SetPost (w : World) (R : List Pc × Int × Bool) : Ending → World → Prop := fun e w' => ∃ v', e = .returned (.tuple #[v', .int .i64 R.2.1, .bool R.2.2]) ∧ Pcs w' w'.heap.size v' R.1 ∧ Below w.heap.size w w'

set_option maxHeartbeats 2000000 in
set_option maxRecDepth 100000 in
theorem spec_l10Set_c (parts : List ByteArray) : ∀ (v pv : Value) (xs : List Pc) (pr leaf : Int) (w : World) (R : List Pc × Int × Bool), setAt xs pr parts leaf = R → Pcs w w.heap.size v xs → storeOk xs = true → Strs w w.heap.size pv parts → (∀ x ∈ parts, x.size ≤ 1000) → parts.length ≤ 1000 →
    Calls Tryz.prog 104 #[v, .int .i64 pr, pv, .int .i64 leaf] w (SetPost w R) := by
  induction parts with
  | nil =>
    intro v pv xs pr leaf w R hR h hs hp hx hl
    obtain ⟨a, c, rfl, _, _, _⟩ := hp.strs (n := 0) rfl
    have hR' : R = (xs, leaf, true) := by rw [← hR]; rfl
    subst hR'
    have HH := hid h
    clear h hp hs hR
    go_enter Tryz.func104, Tryz.ntmps104
    go_wp2
    go_ret3
    exact ⟨_, rfl, HH.out, Below.refl _ _⟩
  | cons nm rest ih =>
    intro v pv xs pr leaf w R hR h hs hp hx hl
    obtain ⟨m, hm⟩ : ∃ m, (nm :: rest).length = m := ⟨_, rfl⟩
    obtain ⟨pa, pc, rfl, hpc, hpc63, hp3⟩ := hp.strs hm
    have hm1 : 1 ≤ m := by simp at hm; omega
    obtain ⟨bp, op, t0, rfl, hbp, hx0, kp⟩ := hp3 0 (by omega)
    obtain rfl : nm = t0 := by have := hx0.out; simp at this; exact this
    rw [Nat.add_zero] at kp
    have HIH := hid ih
    have HM := hid hm
    have HS := hid hs
    have HP := hid hp
    have HX := hid hx
    have HH := hid h
    have HR := hid hR
    have HL := hid hl
    have HT := hid (text_small hs pr)
    have hm9 : m ≤ 1000 := by omega
    clear hm hs hp hx h hR hp3 hx0 ih hl
    cases hE : openAt xs pr with
    | none =>
      have HE := hid hE
      obtain rfl : R = (xs, -1, false) := by rw [← HR.out]; exact set_none hE
      have hpr : 0 ≤ pr := by
        rcases Int.lt_or_le pr 0 with h | h
        · unfold openAt at hE; rw [if_neg (by omega)] at hE; cases hE
        · exact h
      have HF := hid (show (readFolder (bs ((getP xs pr).getD ByteArray.empty))).isSome = false by
        have := hE; unfold openAt at this; rw [if_pos hpr] at this; unfold textAt at this; rw [this]; rfl)
      clear hE
      go_enter Tryz.func104, Tryz.ntmps104
      go_wp2_with fail
      refine (spec_l4Get_c _ xs pr _ _ (HH.out.below ((Below.refl _ _).alloc (Nat.le_refl _) _) (Nat.le_refl _))).mono ?_
      rintro e w1 ⟨rfl, rfl⟩
      go_wp2_with fail
      refine (spec_ReadFolder_c _ _ (Nat.le_trans HT.out (by omega))).mono ?_
      rw [HF.out]
      rintro e w2 ⟨lv, rfl, o2, b2⟩
      have d2 : Below w.heap.size w w2 := ((Below.refl w.heap.size w).alloc (Nat.le_refl _) _).trans (b2.mono (by simp))
      have h2 := HH.out.on d2
      have H2 := hid h2
      clear o2 b2 h2
      go_wp2
      go_ret3
      exact ⟨_, rfl, H2.out, d2⟩
    | some es =>
      have HE := hid hE
      have HO := hid (openAt_ok hE)
      have H3 := hid ((ents_in HO.out).1)
      have HRS := hid (HR.out.symm.trans (set_some hE))
      clear hE HR
      obtain ⟨n, hn⟩ : ∃ n, es.length = n := ⟨_, rfl⟩
      have HN := hid hn
      have hn3 : n ≤ 3 := by rw [← hn]; exact H3.out
      clear hn
      have hal : Below w.heap.size w (w.alloc (.cells #[] 81)) := (Below.refl _ _).alloc (Nat.le_refl _) _
      go_enter Tryz.func104, Tryz.ntmps104
      have hm0 : ((m : Int) == 0) = false := by simp; omega
      go_upto_if 30 with fail
      go_cut [11, 12, 13, 14, 15] (fun lv _ _ _ _ wx => Ents wx wx.heap.size lv es ∧ Below w.heap.size w wx)
      case first =>
        by_cases hpr : 0 ≤ pr
        · have HF := hid (show (readFolder (bs ((getP xs pr).getD ByteArray.empty))).isSome = true ∧ entsOf (bs ((getP xs pr).getD ByteArray.empty)) = es by
            have := HE.out; unfold openAt at this; rw [if_pos hpr] at this; unfold textAt at this; unfold entsOf; rw [this]; exact ⟨rfl, rfl⟩)
          go_wp2_with fail
          refine (spec_l4Get_c _ xs pr _ _ (HH.out.below hal (Nat.le_refl _))).mono ?_
          rintro e w1 ⟨rfl, rfl⟩
          go_wp2_with fail
          refine (spec_ReadFolder_c _ _ (Nat.le_trans HT.out (by omega))).mono ?_
          rw [HF.out.1, HF.out.2]
          rintro e w2 ⟨lv, rfl, o2, b2⟩
          have d2 : Below w.heap.size w w2 := hal.trans (b2.mono (by simp))
          have r2 := hid (Rd.of_own o2)
          clear o2 b2
          go_wp2
          go_meet
          exact ⟨r2.out, d2⟩
        · have he : es = [] := by
            have := HE.out; unfold openAt at this; rw [if_neg hpr] at this; exact (Option.some.inj this).symm
          have r2 := hid (Rd.of_own (Own.made w (Nat.le_refl _) : OwnE (w.alloc (.cells #[] 81)) w.heap.size (.slice (some ⟨w.heap.size, 0, none⟩) 0 0) []))
          rw [← he] at r2
          clear he
          go_wp2
          go_meet
          exact ⟨r2.out, hal⟩
      case rest =>
        obtain ⟨hl, hb⟩ := hcut
        obtain ⟨la, lc, rfl, _, _, hl3⟩ := hl.ents HN.out
        have HL2 := hid hl
        have kpc := (hb.cell (p := ⟨bp, op, none⟩) hbp).trans kp
        have HK := hid kp
        obtain ⟨ch, hch⟩ : ∃ ch, childOf es nm = ch := ⟨_, rfl⟩
        have HCH := hid hch
        clear hl kp hch hal
        go_wp2
        go_loopw [16, 17] (fun cv i wr => ∃ k z : Nat, k ≤ n ∧ i = .int .i64 k ∧ cv = .int .i64 (childOf (es.take k) nm) ∧ wr = wc.drewN z) (fun _ i _ => n - (intOf i).toNat)
        case atStart => exact ⟨0, 0, Nat.zero_le _, rfl, rfl, rfl⟩
        case round =>
          obtain ⟨k, z, hk, rfl, rfl, rfl⟩ := hrel
          by_cases hlt : k < n
          · obtain ⟨b, o, t, r, rfl, hbl, hx, k0, k1⟩ := hl3 k hlt
            have HC := hid (child_succ (nm := nm) hx.out)
            have hkn : (k : Int) < n := by omega
            have hmz : (0 : Int) < m := by omega
            have hse := str_eqE (u := t) (t := nm)
            clear hl3
            by_cases hte : t = nm
            · have hd1 : (t.toList == nm.toList) = true := by rw [hse]; exact decide_eq_true hte
              have HC2 := hid (HC.out.trans (if_pos hte))
              clear hse hte
              go_wp2
              go_quiet (fail)
              go_wp2
              go_roundw
              case rel => exact ⟨k + 1, _, by omega, by go_num, by rw [HC2.out], rfl⟩
              case measure => simp [intOf]; omega
            · have hd1 : (t.toList == nm.toList) = false := by rw [hse]; exact decide_eq_false hte
              have HC2 := hid (HC.out.trans (if_neg hte))
              clear hse hte
              go_wp2
              go_quiet (fail)
              go_wp2
              go_roundw
              case rel => exact ⟨k + 1, _, by omega, by go_num, by rw [HC2.out], rfl⟩
              case measure => simp [intOf]; omega
          · have hce : childOf (es.take k) nm = ch := by rw [take_all HN.out (show n ≤ k by omega)]; exact HCH.out
            rw [hce]
            obtain ⟨wd, hwd⟩ : ∃ wd, wd = wc.drewN z := ⟨_, rfl⟩
            have hbd : Below w.heap.size w wd := by rw [hwd]; exact bl_drewN hb z
            have hld : Hid (Ents wd wd.heap.size (.slice la n lc) es) := by rw [hwd]; exact HL2.out.drewN z
            have kpd : wd.cell? ⟨bp, op, none⟩ = some (.string nm) := by rw [hwd]; exact kpc
            rw [← hwd]
            clear hce hwd hl3 kpc HL2 hb
            have HTC := hid (text_small HS.out ch)
            go_wp2_with fail
            refine (spec_l4Get_c _ xs ch _ _ (HH.out.below hbd (Nat.le_refl _))).mono ?_
            rintro e w1 ⟨rfl, rfl⟩
            obtain ⟨bad, hbad⟩ : ∃ bad : Bool, bad = decide (rest = [] ∧ 0 ≤ ch ∧ badLeaf xs ch = true) := ⟨_, rfl⟩
            have HB := hid hbad
            clear hbad
            go_upto_region 17 with fail
            go_cut [19, 87] (fun _ tv wx => tv = .bool bad ∧ Below wd.heap.size wd wx)
            case first =>
              by_cases hr0 : rest = []
              · have hm1' : m = 1 := by have := HM.out; rw [hr0] at this; simpa using this.symm
                have hmd : ((m : Int) == 1) = true := by rw [hm1']; rfl
                clear hm1'
                by_cases hc0 : 0 ≤ ch
                · have hcd : decide (0 ≤ ch) = true := by simp; omega
                  cases hp : hasP xs ch
                  · have HB2 := hid (show bad = true by rw [HB.out]; unfold badLeaf; rw [hp]; simp [hr0, hc0])
                    clear hr0 hp
                    go_wp2
                    go_meet
                    exact ⟨by rw [HB2.out], Below.refl _ _⟩
                  · obtain ⟨kd, hkd⟩ : ∃ kd, kindOf (textAt xs ch) = kd := ⟨_, rfl⟩
                    have HKD := hid (show kindOf (bs ((getP xs ch).getD ByteArray.empty)) = kd from hkd)
                    have HB2 := hid (show bad = decide (kd ≠ 1) by rw [HB.out]; unfold badLeaf; rw [hp, hkd]; simp [hr0, hc0])
                    clear hr0 hkd
                    go_wp2_with (go_at_call 153; refine (spec_TextKind_c _ _ (Nat.le_trans HTC.out (by omega))).mono ?_; rw [HKD.out]; rintro e w3 ⟨rfl, b3⟩)
                    go_meet
                    exact ⟨congrArg Value.bool (by rw [HB2.out]; by_cases h : kd = 1 <;> simp [h]), b3⟩
                · have HB2 := hid (show bad = false by rw [HB.out]; simp [hc0])
                  have hcd : decide (0 ≤ ch) = false := by simp; omega
                  clear hr0
                  go_wp2
                  go_meet
                  exact ⟨by rw [HB2.out], Below.refl _ _⟩
              · have HB2 := hid (show bad = false by rw [HB.out]; simp [hr0])
                have hmd : ((m : Int) == 1) = false := by
                  have := HM.out
                  cases rest with
                  | nil => exact absurd rfl hr0
                  | cons x r => simp at this ⊢; omega
                clear hr0
                go_wp2
                go_meet
                exact ⟨by rw [HB2.out], Below.refl _ _⟩
            case rest =>
              obtain ⟨rfl, hbw0⟩ := hcut
              have hbw := bl_then hbd hbw0
              have HLW := hid (hld.out.on hbw0)
              clear kpd hbw0
              have HRS2 := hid (show R = if bad = true then (xs, -1, false) else if (setAt xs ch rest leaf).2.2 = false then ((setAt xs ch rest leaf).1, -1, false)
                  else if (putEnt es ⟨nm, (setAt xs ch rest leaf).2.1⟩).2 = false then ((setAt xs ch rest leaf).1, -1, false)
                  else putS (setAt xs ch rest leaf).1 (strL (folderText (putEnt es ⟨nm, (setAt xs ch rest leaf).2.1⟩).1)) by
                rw [HRS.out, HCH.out, HB.out]; simp only [decide_eq_true_eq])
              clear HRS HB
              cases bad
              · have hra : ∃ ra : Option Addr, (if pc = 1 then (some ⟨bp, op, none⟩ : Option Addr) else some ⟨bp, op + 1, none⟩) = ra := ⟨_, rfl⟩
                obtain ⟨ra, hra⟩ := hra
                have HTL := hid (Rd.tailS HP.out HM.out hra)
                have h1m : (1 : Int) ≤ m := by omega
                have h1c : (1 : Int) ≤ pc := by omega
                obtain ⟨⟨xs1, ch1, ok⟩, hR1⟩ : ∃ R1, setAt xs ch rest leaf = R1 := ⟨_, rfl⟩
                have HR1 := hid hR1
                have HS1 := hid (show storeOk xs1 = true by have := set_ok rest xs ch leaf HS.out; rw [hR1] at this; exact this)
                rw [hR1] at HRS2
                clear hR1
                go_wp2_with fail
                refine (HIH.out _ _ xs ch leaf _ (xs1, ch1, ok) HR1.out (HH.out.on hbw) HS.out (HTL.out.on hbw) (fun x hx => HX.out x (by simp [hx])) (by have := HL.out; simp at this; omega)).mono ?_
                rintro e w5 ⟨sv, rfl, s5, b5⟩
                have d5 := bl_then hbw b5
                clear hra h1m h1c
                cases ok
                · have HO9 := hid (show R = (xs1, -1, false) by rw [HRS2.out]; rfl)
                  obtain rfl := HO9.out
                  have S5 := hid s5
                  clear s5 b5
                  go_wp2
                  go_ret3
                  exact ⟨_, rfl, S5.out, d5⟩
                · obtain ⟨⟨es1, ok1⟩, hpe⟩ : ∃ P, putEnt es ⟨nm, ch1⟩ = P := ⟨_, rfl⟩
                  have HPE := hid hpe
                  have HRS3 := hid (show R = if ok1 = false then (xs1, -1, false) else putS xs1 (strL (folderText es1)) by rw [HRS2.out]; simp only [hpe]; rfl)
                  have kp5 := (d5.cell (p := ⟨bp, op, none⟩) hbp).trans HK.out
                  have hmz : (0 : Int) < m := by omega
                  have hel := hid (HLW.out.on b5)
                  have HXN := hid (show ∀ x ∈ es, x.name.size ≤ 1048576 from fun x hx => by have := name_len (ents_all HO.out hx); omega)
                  have S5 := hid s5
                  have HNM := hid (show nm.size ≤ 1048576 by have := HX.out nm (by simp); omega)
                  have HNL := hid (show es.length ≤ 1048570 by have := H3.out; omega)
                  clear hpe HRS2 s5 b5
                  go_wp2_with fail
                  refine (spec_PutEntry_c _ es ⟨nm, ch1⟩ _ hel.out HXN.out HNL.out HNM.out).mono ?_
                  rw [HPE.out]
                  rintro e w6 ⟨mv, rfl, o6, b6⟩
                  have d6 := bl_then d5 b6
                  have h6 := hid (S5.out.on b6)
                  clear S5 hel kp5 d5 b6
                  cases ok1
                  · have HO9 := hid (show R = (xs1, -1, false) by rw [HRS3.out]; rfl)
                    obtain rfl := HO9.out
                    clear o6
                    go_wp2
                    go_ret3
                    exact ⟨_, rfl, h6.out, d6⟩
                  · have hok1 : entsOk es1 = true ∧ es1.length ≤ 3 := by
                      have h1 := HPE.out
                      have h2 := putEnt_ok (es := es) (e := ⟨nm, ch1⟩) (by rw [h1])
                      rw [h1] at h2
                      have h3 : es1 = putE es ⟨nm, ch1⟩ := h2.2.2
                      rw [h3]
                      exact ⟨h2.2.1, (ents_in h2.2.1).1⟩
                    have HX1 := hid (show ∀ x ∈ es1, x.name.size ≤ 1048576 from fun x hx => by have := name_len (ents_all hok1.1 hx); omega)
                    have HL1 := hid (show es1.length ≤ 1048576 by omega)
                    have HFT := hid (show (strL (folderText es1)).size ≤ 4611686018427387904 by rw [strL_size]; have := folder_len hok1.1; omega)
                    obtain ⟨⟨xs2, p2, ok2⟩, hq⟩ : ∃ P, putS xs1 (strL (folderText es1)) = P := ⟨_, rfl⟩
                    have HQ := hid hq
                    have HO9 := hid (show R = (xs2, p2, ok2) by rw [HRS3.out, hq]; rfl)
                    obtain rfl := HO9.out
                    have HT1 := hid (fun (x : Pc) (hx : x ∈ xs1) => show x.text.size ≤ 1048576 by have := st_text HS1.out hx; omega)
                    have HN1 := hid (show xs1.length ≤ 1048576 by have := (st_in HS1.out).1; omega)
                    have O6 := hid (Rd.of_own o6)
                    clear hok1 hq o6 HRS3
                    go_wp2_with fail
                    refine (spec_FolderText_c _ es1 _ _ O6.out HX1.out HL1.out).mono ?_
                    rintro e w7 ⟨rfl, z7, rfl⟩
                    have d7 := bl_drewN d6 z7
                    have h7 := hid (h6.out.drewN z7)
                    go_wp2_with fail
                    refine (spec_PutText_c _ xs1 _ _ h7.out HT1.out HN1.out HFT.out).mono ?_
                    rw [HQ.out]
                    rintro e w8 ⟨fv, rfl, o8, b8⟩
                    have d8 := bl_then d7 b8
                    have O8 := hid (Rd.of_own o8)
                    clear o8 b8 d6 d7
                    go_wp2
                    go_ret3
                    exact ⟨_, rfl, O8.out, d8⟩
              · have HO9 := hid (show R = (xs, -1, false) by rw [HRS2.out]; rfl)
                obtain rfl := HO9.out
                have h9 := hid (HH.out.on hbw)
                go_wp2
                go_ret3
                exact ⟨_, rfl, h9.out, hbw⟩

end Go.Proofs.YtachfmlfmpaddaaGreatDoor
