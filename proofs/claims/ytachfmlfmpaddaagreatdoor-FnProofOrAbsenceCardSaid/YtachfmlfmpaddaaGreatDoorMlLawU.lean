/- Walks: the law on what can be proved. -/
import Derived.Test.YtachfmlfmpaddaaGreatDoorMg2
import Derived.Test.YtachfmlfmpaddaaGreatDoorMg3
import Derived.Test.YtachfmlfmpaddaaGreatDoorMg4
import Derived.Test.YtachfmlfmpaddaaGreatDoorMg5
import Derived.Test.YtachfmlfmpaddaaGreatDoorMg7
import Derived.Test.YtachfmlfmpaddaaGreatDoorMg8
import Derived.Test.YtachfmlfmpaddaaGreatDoorMg9
import Derived.Test.YtachfmlfmpaddaaGreatDoorMg10
import Derived.Test.YtachfmlfmpaddaaGreatDoorMg11
import Derived.Test.YtachfmlfmpaddaaGreatDoorMg12
import Derived.Test.YtachfmlfmpaddaaGreatDoorMg13
import Derived.Test.YtachfmlfmpaddaaGreatDoorMg14
import Derived.Test.YtachfmlfmpaddaaGreatDoorMg15
import Derived.Test.YtachfmlfmpaddaaGreatDoorMg16
import Derived.Test.YtachfmlfmpaddaaGreatDoorMg17
import Derived.Test.YtachfmlfmpaddaaGreatDoorMg18
import Derived.Test.YtachfmlfmpaddaaGreatDoorMg22
import Derived.Test.YtachfmlfmpaddaaGreatDoorMg23
import Derived.Test.YtachfmlfmpaddaaGreatDoorMg24
import Derived.Test.YtachfmlfmpaddaaGreatDoorMg25
import Derived.Test.YtachfmlfmpaddaaGreatDoorMg27
import Derived.Test.YtachfmlfmpaddaaGreatDoorMg28
import Derived.Test.YtachfmlfmpaddaaGreatDoorMg29
import Derived.Test.YtachfmlfmpaddaaGreatDoorMg30
import Derived.Test.YtachfmlfmpaddaaGreatDoorMg33
import Derived.Test.YtachfmlfmpaddaaGreatDoorMg34
import Derived.Test.YtachfmlfmpaddaaGreatDoorMg36
import Derived.Test.YtachfmlfmpaddaaGreatDoorMg40
import Derived.Test.YtachfmlfmpaddaaGreatDoorMg41
import Derived.Test.YtachfmlfmpaddaaGreatDoorMg44
import Derived.Test.YtachfmlfmpaddaaGreatDoorMg46
namespace Go.Proofs.YtachfmlfmpaddaaGreatDoor
open Go.RowKit

theorem pp_size {l : List UInt8} {ws : List (List UInt8)} (hp : pathParts l = some ws) : l.length ≤ 27 := by
  have h1 := (pathParts_in hp).2.2
  have h2 := (pathParts_in hp).2.1
  have hl := (pathParts_in hp).1
  by_cases h0 : ws = []
  · subst h0
    rw [← h1]
    have : joinP [] = [47] := rfl
    rw [this]; simp
  · rw [← h1, joinP_on h0 hl h2]
    have := flat_len_le (fun x => 47 :: x) 9 ws (fun x hx => by have := (word_len (h2 x hx)).2; simp; omega)
    omega
/-- The first k names lead somewhere, and not to a folder. -/
noncomputable def stopK (xs : List Pc) (root : Int) (ws : List ByteArray) (k : Nat) : Bool := (walkTo xs root (joinP ((ws.take k).map bs))).2 && !(namesAt xs root (joinP ((ws.take k).map bs))).2
theorem map_back {ws0 : List (List UInt8)} (k : Nat) : ((ws0.map strL).take k).map bs = ws0.take k := by
  rw [← List.map_take, List.map_map]
  exact (List.map_congr_left (g := id) (fun x _ => bs_strL x)).trans (List.map_id _)
theorem stopK_iff {xs : List Pc} {root : Int} {path : List UInt8} {ws0 : List (List UInt8)} (hs : storeOk xs = true) (hp : pathParts path = some ws0) (k : Nat) :
    stopK xs root (ws0.map strL) k = true ↔ ∃ c, walkAt xs root ((ws0.map strL).take k) = (c, true) ∧ folderAt xs c = none := by
  unfold stopK
  rw [map_back]
  have hw : walkTo xs root (joinP (ws0.take k)) = walkAt xs root ((ws0.map strL).take k) := by
    rw [walk_on hs (take_path hp k), List.map_take]
  unfold namesAt
  rw [hw]
  obtain ⟨⟨c, f⟩, hR⟩ : ∃ R, walkAt xs root ((ws0.map strL).take k) = R := ⟨_, rfl⟩
  rw [hR]
  cases f
  · simp
  · simp only [if_true, Bool.true_and, Bool.not_eq_true', Prod.mk.injEq, and_true, exists_eq_left']
    cases folderAt xs c <;> simp
theorem stop_any {xs : List Pc} {root : Int} {path : List UInt8} {ws0 : List (List UInt8)} (hs : storeOk xs = true) (hp : pathParts path = some ws0) (m : Nat) (hm : (ws0.map strL).length = m) :
    (List.range m).any (stopK xs root (ws0.map strL)) = true ↔ StopAt xs root (ws0.map strL) := by
  rw [List.any_eq_true]
  unfold StopAt
  constructor
  · rintro ⟨k, hk, h⟩
    obtain ⟨c, h1, h2⟩ := (stopK_iff hs hp k).1 h
    exact ⟨k, c, by rw [hm]; exact List.mem_range.1 hk, h1, h2⟩
  · rintro ⟨k, c, hk, h1, h2⟩
    exact ⟨k, List.mem_range.2 (by rw [← hm]; exact hk), (stopK_iff hs hp k).2 ⟨c, h1, h2⟩⟩
theorem any_range_succ (f : Nat → Bool) (k : Nat) : (List.range (k + 1)).any f = ((List.range k).any f || f k) := by
  rw [List.range_succ, List.any_append]; simp

set_option maxHeartbeats 2000000 in
set_option maxRecDepth 100000 in
theorem laws_FnProofOrAbsence_c (v : Value) (l : List Int) (w : World) (h : Rd encU 1 w w.heap.size v l) (hl : ∀ x ∈ l, 0 ≤ x ∧ x ≤ 255) (hg : Glob w) (hm : Mx w) :
    Calls Tryz.prog 8 #[v] w fun e w' => e = .returned (.bool true) ∧ Below w.heap.size w w' := by
  obtain ⟨n0, hn0⟩ : ∃ n, l.length = n := ⟨_, rfl⟩
  obtain ⟨a, c, rfl, _, _, _⟩ := Rd.openN h (fun _ => rfl) hn0
  have HG0 := hid hg
  have HM0 := hid hm
  clear hg hm
  by_cases hbig : 1048576 < n0
  · go_enter Tryz.func8, Tryz.ntmps8
    go_wp2
    go_ret
    exact ⟨rfl, Below.refl _ _⟩
  go_enter Tryz.func8, Tryz.ntmps8
  go_wp2_with fail
  refine (spec_DrawAbsenceProof_c _ l w h hl).mono ?_
  rintro e w1 ⟨sv, xs, root, path, rfl, o1, hd, hps, b1⟩
  have HP : Hid (∀ wx, Below w1.heap.size w1 wx → Pcs wx wx.heap.size sv xs) := hid fun wx hx => (Rd.of_own o1).on hx
  have HD := hid hd
  have HG : Hid (∀ wx, Below w1.heap.size w1 wx → Glob wx) := hid fun wx hx => (HG0.out.on b1).on hx
  have HM : Hid (∀ wx, Below w1.heap.size w1 wx → Mx wx) := hid fun wx hx => (HM0.out.on b1).on hx
  have r0 : Below w1.heap.size w1 w1 := Below.refl _ _
  clear h hl hn0 o1 hd
  obtain ⟨⟨L, fo⟩, hL⟩ : ∃ R, namesAt xs root (bs ⟨#[47]⟩) = R := ⟨_, rfl⟩
  have HL := hid hL
  clear hL
  go_wp2_with fail
  refine (impl_NamesAt_c _ xs root ⟨#[47]⟩ _ L fo HL.out (HP.out _ r0) (by decide) (HG.out _ r0) (HM.out _ r0)).mono ?_
  rintro e w2 ⟨nv, rfl, o2, b2⟩
  clear o2
  go_wp2_with fail
  refine (impl_PathParts_c path _ (by omega) (HM.out _ b2)).mono ?_
  rintro e w3 ⟨pv, rfl, o3, b3⟩
  have d3 := bl_then b2 b3
  have d13 := bl_then b1 d3
  cases fo
  · clear o3
    go_wp2_with (go_at_call 21; refine (laws_alive_c _).mono ?_; rintro e w99 ⟨rfl, rfl⟩)
    go_ret
    exact ⟨rfl, d13⟩
  cases hpp : pathParts (bs path) with
  | none =>
    clear o3
    have HPN := hid hpp
    clear hpp
    go_wp2_with (go_at_call 21; refine (laws_alive_c _).mono ?_; rintro e w99 ⟨rfl, rfl⟩)
    go_ret
    exact ⟨rfl, d13⟩
  | some ws0 =>
    have HPP := hid hpp
    rw [hpp] at o3
    clear hpp
    obtain ⟨ws, hws⟩ : ∃ ws, ws0.map strL = ws := ⟨_, rfl⟩
    have o3' : OwnS w3 w2.heap.size pv ws := by rw [← hws]; exact o3
    obtain ⟨m, hm⟩ : ∃ m, ws.length = m := ⟨_, rfl⟩
    have hm3 : m ≤ 3 := by have := (pathParts_in HPP.out).1; rw [← hm, ← hws, List.length_map]; exact this
    have HW := hid hws
    have HWM := hid hm
    obtain ⟨pa, pc, rfl, hmc, _, _⟩ := (Rd.of_own o3').strs hm
    have HT : Hid (∀ wx, Below w3.heap.size w3 wx → Strs wx wx.heap.size (.slice pa m pc) ws) := hid fun wx hx => (Rd.of_own o3').on hx
    obtain ⟨ms, hms⟩ : ∃ ms, missingOf xs = ms := ⟨_, rfl⟩
    have HMS := hid hms
    obtain ⟨q, hq⟩ : ∃ q, ms.length = q := ⟨_, rfl⟩
    have HQ := hid hq
    clear o3 o3' hws hm hms hq
    go_wp2_with fail
    refine (impl_MissingPrints_c _ xs _ (HP.out _ d3) HD.out.sizes2.1 HD.out.sizes2.2 (HG.out _ d3)).mono ?_
    rw [HMS.out]
    rintro e w4 ⟨mv, rfl, o4, b4⟩
    obtain ⟨ma, mc, rfl, _, _, _⟩ := (Rd.of_own o4).ints HQ.out
    have d4 := bl_then d3 b4
    have d14 := bl_then d13 b4
    have HB4 := hid b4
    clear o4
    by_cases hq0 : q = 0
    · have hq0' : ¬ (0 : Int) < q := by omega
      have hpos := walkTo_pos (xs := xs) (root := root) (path := [47]) (n := (walkTo xs root [47]).1) (by
        have h1 := HL.out
        have h2 : (namesAt xs root [47]).2 = true := by rw [show ([47] : List UInt8) = bs ⟨#[47]⟩ from rfl, h1]
        unfold namesAt at h2
        split at h2
        · rename_i h3; exact Prod.ext rfl h3
        · cases h2)
      have HS := hid hpos.1
      have HR := hid hpos.2.2.1
      have HOR := hid (lw_or HS.out HPP.out HR.out (by rw [HMS.out]; exact List.length_eq_zero_iff.1 (by rw [HQ.out]; exact hq0)))
      have HANY := hid (stop_any (root := root) HS.out HPP.out m (by rw [HW.out]; exact HWM.out))
      clear hpos
      rw [HW.out] at HOR HANY
      go_wp2
      go_loopw [10, 11, 12, 13, 14, 15] (fun sv2 kv _ _ _ _ wr => ∃ (k : Nat) (st : Bool), k ≤ m ∧ kv = .int .i64 k ∧ sv2 = .bool st ∧ Hid (st = (List.range k).any (stopK xs root ws)) ∧ Below w4.heap.size w4 wr) (fun _ kv _ _ _ _ _ => m - (intOf kv).toNat)
      case atStart => exact ⟨0, false, Nat.zero_le _, rfl, rfl, hid (by simp), Below.refl _ _⟩
      case round =>
        obtain ⟨k, st, hk, rfl, rfl, hst, hb⟩ := hrel
        by_cases hkm0 : k < m
        · have hkm : (k : Int) < m := by omega
          have hkc : k ≤ pc := by omega
          have hkc' : (k : Int) ≤ pc := by omega
          have hk0 : (0 : Int) ≤ k := by omega
          obtain ⟨jp, hjp⟩ : ∃ jp, strL (joinP ((ws.take k).map bs)) = jp := ⟨_, rfl⟩
          have HJP := hid hjp
          have hbj : bs jp = joinP ((ws.take k).map bs) := by rw [← hjp, bs_strL]
          have hjs : jp.size ≤ 1000 := by
            have h1 := take_path HPP.out k
            have h2 := pp_size h1
            have h3 : (bs jp).length ≤ 27 := by rw [hbj, ← HW.out, map_back]; exact h2
            rw [bs_len] at h3
            omega
          obtain ⟨⟨y, wk⟩, hR⟩ : ∃ R, walkTo xs root (bs jp) = R := ⟨_, rfl⟩
          obtain ⟨⟨N, nf⟩, hN⟩ : ∃ R, namesAt xs root (bs jp) = R := ⟨_, rfl⟩
          have HRR := hid hR
          have HNN := hid hN
          have HST := hid (show (st || (wk && !nf)) = (List.range (k + 1)).any (stopK xs root ws) by
            rw [any_range_succ, ← hst.out]
            congr 1
            unfold stopK
            rw [← hbj, hR, hN])
          have HJS := hid hjs
          have dd := bl_then HB4.out hb
          have DD := hid (bl_then d3 dd)
          clear hjp hbj hjs hR hN hst
          go_wp2_with fail
          refine (impl_JoinPath_c _ (ws.take k) _ ((HT.out _ dd).frontS HWM.out hk) (by rw [List.length_take]; omega)).mono ?_
          rw [HJP.out]
          rintro e w5 ⟨rfl, b5⟩
          have e5 := bl_then DD.out b5
          have f5 := bl_then hb b5
          go_wp2_with fail
          refine (impl_WalkTo_c _ xs root jp _ _ HRR.out (HP.out _ e5) HJS.out (HG.out _ e5) (HM.out _ e5)).mono ?_
          rintro e w6 ⟨rfl, b6⟩
          have e6 := bl_then e5 b6
          have f6 := bl_then f5 b6
          have t6 := bl_then (bl_then dd b5) b6
          go_wp2_with fail
          refine (impl_JoinPath_c _ (ws.take k) _ ((HT.out _ t6).frontS HWM.out hk) (by rw [List.length_take]; omega)).mono ?_
          rw [HJP.out]
          rintro e w7 ⟨rfl, b7⟩
          have e7 := bl_then e6 b7
          have f7 := bl_then f6 b7
          go_wp2_with fail
          refine (impl_NamesAt_c _ xs root jp _ N nf HNN.out (HP.out _ e7) HJS.out (HG.out _ e7) (HM.out _ e7)).mono ?_
          rintro e w8 ⟨nv2, rfl, o8, b8⟩
          have f8 := bl_then f7 b8
          clear o8 b5 b6 b7 b8 e5 e6 e7 f5 f6 f7 t6 dd
          rcases st <;> rcases wk <;> rcases nf
          all_goals
            go_wp2
            go_roundw
            case rel => exact ⟨k + 1, _, by omega, by go_num, rfl, HST, f8⟩
            case measure => simp [intOf]; omega
        · have HSE := hid (show st = true ↔ StopAt xs root ws by rw [hst.out, show k = m by omega]; exact HANY.out)
          have dd := bl_then d4 hb
          obtain ⟨P, hP⟩ : ∃ P, pathProof xs root (bs path) = P := ⟨_, rfl⟩
          have HPF := hid hP
          obtain ⟨A, hA⟩ : ∃ A, absProof xs root (bs path) = A := ⟨_, rfl⟩
          have HAF := hid hA
          obtain ⟨p1, hp1⟩ : ∃ p1, P.length = p1 := ⟨_, rfl⟩
          have HP1 := hid hp1
          obtain ⟨p2, hp2⟩ : ∃ p2, A.length = p2 := ⟨_, rfl⟩
          have HP2 := hid hp2
          have hor := HOR.out
          rw [hP, hA] at hor
          have e1 : P ≠ [] ↔ 0 < p1 := by rw [← hp1]; exact List.length_pos_iff.symm
          have e2 : A ≠ [] ↔ 0 < p2 := by rw [← hp2]; exact List.length_pos_iff.symm
          rw [e1, e2, ← HSE.out] at hor
          have HOR2 := hid hor
          clear hP hA hp1 hp2 hor e1 e2 hst HSE HOR HANY
          go_wp2_with fail
          refine (impl_PathProof_c _ xs root path _ P HPF.out (HP.out _ dd) (by omega) (HG.out _ dd) (HM.out _ dd)).mono ?_
          rintro e w5 ⟨v5, rfl, o5, b5⟩
          obtain ⟨a5, c5, rfl, _, _, _⟩ := (Rd.of_own o5).strs HP1.out
          have e5 := bl_then dd b5
          clear o5
          go_wp2_with fail
          refine (impl_AbsenceProof_c _ xs root path _ A HAF.out (HP.out _ e5) (by omega) (HG.out _ e5) (HM.out _ e5)).mono ?_
          rintro e w6 ⟨v6, rfl, o6, b6⟩
          obtain ⟨a6, c6, rfl, _, _, _⟩ := (Rd.of_own o6).strs HP2.out
          have e6 := bl_then b1 (bl_then e5 b6)
          clear o6
          have hor := HOR2.out
          rcases Nat.eq_zero_or_pos p1 with h1 | h1 <;> rcases Nat.eq_zero_or_pos p2 with h2 | h2 <;> rcases st
          all_goals first
            | (exfalso; simp at hor; omega)
            | skip
          all_goals clear hor
          all_goals
            first
            | have i1 : (0 : Int) < p1 := by omega
            | have i1 : ¬ (0 : Int) < p1 := by omega
          all_goals
            first
            | have i2 : (0 : Int) < p2 := by omega
            | have i2 : ¬ (0 : Int) < p2 := by omega
          all_goals
            go_wp2
            go_ret
            exact ⟨rfl, e6⟩
    · have hq1 : (0 : Int) < q := by omega
      go_wp2_with (go_at_call 21; refine (laws_alive_c _).mono ?_; rintro e w99 ⟨rfl, rfl⟩)
      go_ret
      exact ⟨rfl, d14⟩

end Go.Proofs.YtachfmlfmpaddaaGreatDoor
