/- Walks: the laws on proofs. -/
import Derived.Test.YtachfmlfmpaddaaGreatDoorMg29
import Derived.Test.YtachfmlfmpaddaaGreatDoorMg30
import Derived.Test.YtachfmlfmpaddaaGreatDoorMg33
import Derived.Test.YtachfmlfmpaddaaGreatDoorMg34
import Derived.Test.YtachfmlfmpaddaaGreatDoorMg36
import Derived.Test.YtachfmlfmpaddaaGreatDoorMg40
import Derived.Test.YtachfmlfmpaddaaGreatDoorMg41
import Derived.Test.YtachfmlfmpaddaaGreatDoorMg44
import Derived.Test.YtachfmlfmpaddaaGreatDoorMg46
namespace Go.Proofs.YtachfmlfmpaddaaGreatDoor
open Go.RowKit

theorem notRight_root {path : List UInt8} {proof : List ByteArray} {root : Int} (h : proofRight root path proof = true) : 0 ≤ root ∧ root ≤ 16777212 ∨ root = -1 := by
  obtain ⟨ws, hp, hl, ho⟩ := right_parts h
  cases proof with
  | nil => simp at hl
  | cons t r =>
    have e := onWay_first ho
    cases ht : textOk (bs t)
    · rw [printOf_off ht] at e; exact .inr e.symm
    · have := pv_iff.1 (printOf_in ht); rw [e] at this; exact .inl this
theorem abs_root {path : List UInt8} {proof : List ByteArray} {root : Int} (h : absRight root path proof = true) : 0 ≤ root ∧ root ≤ 16777212 ∨ root = -1 := by
  obtain ⟨ws, hp, h1, hl, ho, _⟩ := abs_parts h
  cases proof with
  | nil => simp at h1
  | cons t r =>
    have e := onWay_first ho
    cases ht : textOk (bs t)
    · rw [printOf_off ht] at e; exact .inr e.symm
    · have := pv_iff.1 (printOf_in ht); rw [e] at this; exact .inl this


set_option maxHeartbeats 2000000 in
set_option maxRecDepth 100000 in
theorem laws_FnProofsHold_c (v : Value) (l : List Int) (w : World) (h : Rd encU 1 w w.heap.size v l) (hl : ∀ x ∈ l, 0 ≤ x ∧ x ≤ 255) (hg : Glob w) (hm : Mx w) :
    Calls Tryz.prog 3 #[v] w fun e w' => e = .returned (.bool true) ∧ Below w.heap.size w w' := by
  obtain ⟨n0, hn0⟩ : ∃ n, l.length = n := ⟨_, rfl⟩
  obtain ⟨a, c, rfl, _, _, _⟩ := Rd.openN h (fun _ => rfl) hn0
  have HG0 := hid hg
  have HM0 := hid hm
  clear hg hm
  by_cases hbig : 1048576 < n0
  · go_enter Tryz.func3, Tryz.ntmps3
    go_wp2
    go_ret
    exact ⟨rfl, Below.refl _ _⟩
  go_enter Tryz.func3, Tryz.ntmps3
  go_wp2_with fail
  refine (spec_DrawPathProof_c _ l w h hl).mono ?_
  rintro e w1 ⟨sv, xs, root, path, rfl, o1, hd, hps, b1⟩
  have HP : Hid (∀ wx, Below w1.heap.size w1 wx → Pcs wx wx.heap.size sv xs) := hid fun wx hx => (Rd.of_own o1).on hx
  have HD := hid hd
  have HG : Hid (∀ wx, Below w1.heap.size w1 wx → Glob wx) := hid fun wx hx => (HG0.out.on b1).on hx
  have HM : Hid (∀ wx, Below w1.heap.size w1 wx → Mx wx) := hid fun wx hx => (HM0.out.on b1).on hx
  have r0 : Below w1.heap.size w1 w1 := Below.refl _ _
  clear h hl hn0 o1 hd
  obtain ⟨T, hT⟩ : ∃ T, pathProof xs root (bs path) = T := ⟨_, rfl⟩
  have HT := hid hT
  obtain ⟨⟨C, ok⟩, hR⟩ : ∃ R, readAt xs root (bs path) = R := ⟨_, rfl⟩
  have HR := hid hR
  have HC := hid (show proofContent root (bs path) T = (C, ok) by rw [← hT, proof_content, hR])
  have HTS := hid (show ∀ t ∈ T, t.size ≤ 1000000 from fun t ht => by rw [← hT] at ht; have := pathProof_small t ht; omega)
  clear hT hR
  go_wp2_with fail
  refine (impl_PathProof_c _ xs root path _ T HT.out (HP.out _ r0) (by omega) (HG.out _ r0) (HM.out _ r0)).mono ?_
  rintro e w2 ⟨xv, rfl, o2, b2⟩
  have X2 := hid (Rd.of_own o2)
  clear o2
  go_wp2_with fail
  refine (impl_ProofContent_c root path _ T _ X2.out HTS.out (by omega) (HG.out _ b2) (HM.out _ b2)).mono ?_
  rw [HC.out]
  rintro e w3 ⟨rfl, b3⟩
  have d3 := bl_then b2 b3
  go_wp2_with fail
  refine (impl_ReadAt_e _ xs root path _ _ _ HR.out (HP.out _ d3) (by omega) (HG.out _ d3) (HM.out _ d3)).mono ?_
  rintro e w4 ⟨rfl, b4⟩
  have d4 := bl_then b1 (bl_then d3 b4)
  cases ok
  · go_wp2_with (go_at_call 21; refine (laws_alive_c _).mono ?_; rintro e w99 ⟨rfl, rfl⟩)
    go_ret
    exact ⟨rfl, d4⟩
  · go_wp2_with (go_at_call 21; refine (laws_alive_c _).mono ?_; rintro e w99 ⟨rfl, rfl⟩)
    go_ret
    exact ⟨rfl, d4⟩

set_option maxHeartbeats 2000000 in
set_option maxRecDepth 100000 in
theorem laws_FnAbsenceProof_c (v : Value) (l : List Int) (w : World) (h : Rd encU 1 w w.heap.size v l) (hl : ∀ x ∈ l, 0 ≤ x ∧ x ≤ 255) (hg : Glob w) (hm : Mx w) :
    Calls Tryz.prog 5 #[v] w fun e w' => e = .returned (.bool true) ∧ Below w.heap.size w w' := by
  obtain ⟨n0, hn0⟩ : ∃ n, l.length = n := ⟨_, rfl⟩
  obtain ⟨a, c, rfl, _, _, _⟩ := Rd.openN h (fun _ => rfl) hn0
  have HG0 := hid hg
  have HM0 := hid hm
  clear hg hm
  by_cases hbig : 1048576 < n0
  · go_enter Tryz.func5, Tryz.ntmps5
    go_wp2
    go_ret
    exact ⟨rfl, Below.refl _ _⟩
  go_enter Tryz.func5, Tryz.ntmps5
  go_wp2_with fail
  refine (spec_DrawAbsenceProof_c _ l w h hl).mono ?_
  rintro e w1 ⟨sv, xs, root, path, rfl, o1, hd, hps, b1⟩
  have HP : Hid (∀ wx, Below w1.heap.size w1 wx → Pcs wx wx.heap.size sv xs) := hid fun wx hx => (Rd.of_own o1).on hx
  have HD := hid hd
  have HG : Hid (∀ wx, Below w1.heap.size w1 wx → Glob wx) := hid fun wx hx => (HG0.out.on b1).on hx
  have HM : Hid (∀ wx, Below w1.heap.size w1 wx → Mx wx) := hid fun wx hx => (HM0.out.on b1).on hx
  have r0 : Below w1.heap.size w1 w1 := Below.refl _ _
  clear h hl hn0 o1 hd
  obtain ⟨T, hT⟩ : ∃ T, absProof xs root (bs path) = T := ⟨_, rfl⟩
  have HT := hid hT
  obtain ⟨q, hq⟩ : ∃ q, T.length = q := ⟨_, rfl⟩
  have HQ := hid hq
  obtain ⟨⟨n, ok⟩, hR⟩ : ∃ R, walkTo xs root (bs path) = R := ⟨_, rfl⟩
  have HR := hid hR
  have HF := hid (show q ≠ 0 → ok = false ∧ absRight root (bs path) T = true from fun e => by
    have := abs_facts (xs := xs) (root := root) (path := bs path) (by rw [hT]; intro h0; rw [h0] at hq; exact e hq.symm)
    rw [hR, hT] at this
    exact this)
  have HTS := hid (show ∀ t ∈ T, t.size ≤ 1048576 from fun t ht => by rw [← hT] at ht; have := absProof_small t ht; omega)
  clear hT hq hR
  go_wp2_with fail
  refine (impl_AbsenceProof_c _ xs root path _ T HT.out (HP.out _ r0) (by omega) (HG.out _ r0) (HM.out _ r0)).mono ?_
  rintro e w2 ⟨xv, rfl, o2, b2⟩
  obtain ⟨xa, xc, rfl, _, _, _⟩ := (Rd.of_own o2).strs HQ.out
  have X2 := hid (Rd.of_own o2)
  clear o2
  go_wp2_with fail
  refine (spec_AbsenceProof_c _ xs root path _ T HT.out (HP.out _ b2) HD.out.sizes2.1 HD.out.sizes2.2 (by omega)).mono ?_
  rintro e w3 ⟨yv, rfl, o3, b3⟩
  have d3 := bl_then b2 b3
  have X3 := hid (X2.out.on b3)
  have Y3 := hid (Rd.of_own o3)
  clear o3 b2 b3 X2
  go_wp2_with fail
  refine (laws_sameTexts_s _ _ T _ _ _ X3.out Y3.out).mono ?_
  rintro e w4 ⟨rfl, z4, rfl⟩
  have d4 := bl_drewN d3 z4
  have X4 := hid (X3.out.drewN z4)
  clear d3 X3 Y3
  go_wp2_with fail
  refine (impl_WalkTo_c _ xs root path _ _ HR.out (HP.out _ d4) (by omega) (HG.out _ d4) (HM.out _ d4)).mono ?_
  rintro e w5 ⟨rfl, b5⟩
  have d5 := bl_then d4 b5
  have X5 := hid (X4.out.on b5)
  have d15 := bl_then b1 d5
  clear d4 b5 X4
  by_cases hq0 : q = 0
  · have hq1 : ((q : Int) == 0) = true := by simp [hq0]
    go_wp2_with (go_at_call 21; refine (laws_alive_c _).mono ?_; rintro e w99 ⟨rfl, rfl⟩)
    go_ret
    exact ⟨rfl, d15⟩
  · have hq1 : ((q : Int) == 0) = false := by simp [hq0]
    obtain ⟨rfl, hab⟩ := HF.out hq0
    have HAB := hid hab
    clear hab
    go_wp2_with fail
    refine (impl_AbsenceRight_c root path _ T _ _ HAB.out X5.out HTS.out (by omega) (HG.out _ d5) (HM.out _ d5)).mono ?_
    rintro e w6 ⟨rfl, b6⟩
    have d6 := bl_then b1 (bl_then d5 b6)
    go_wp2_with (go_at_call 21; refine (laws_alive_c _).mono ?_; rintro e w99 ⟨rfl, rfl⟩)
    go_ret
    exact ⟨rfl, d6⟩

end Go.Proofs.YtachfmlfmpaddaaGreatDoor
