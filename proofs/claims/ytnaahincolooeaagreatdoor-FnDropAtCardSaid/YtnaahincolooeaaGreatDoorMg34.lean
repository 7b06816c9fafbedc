/- Walks and plain facts, joined: AbsI, DrawRo, ProofP. -/
import Derived.Test.YtnaahincolooeaaGreatDoorMg32
set_option linter.unusedVariables false
set_option linter.unusedSimpArgs false

/- Walks: right proofs of absence, the program's way. -/
namespace Go.Proofs.YtnaahincolooeaaGreatDoor
open Go.RowKit

noncomputable def lastOff (es : Option (List Ent)) (nm : ByteArray) : Bool := match es with | some l => (firstOf l nm).isNone | none => false
noncomputable def absRight (root : Int) (path : List UInt8) (proof : List ByteArray) : Bool := match pathParts path with
  | some ws => decide (1 ≤ proof.length ∧ proof.length ≤ ws.length) && onWay root (ws.map strL) proof && lastOff (readFolder (bs (proof.getLastD ByteArray.empty))) ((ws.map strL).getD (proof.length - 1) ByteArray.empty)
  | none => false

set_option maxHeartbeats 2000000 in
set_option maxRecDepth 100000 in
theorem impl_AbsenceRight_c (root : Int) (path : ByteArray) (tv : Value) (proof : List ByteArray) (w : World) (R : Bool) (hR : absRight root (bs path) proof = R) (ht : Strs w w.heap.size tv proof) (hs : ∀ t ∈ proof, t.size ≤ 1048576) (hp0 : path.size ≤ 1000) (hg : Glob w) (hm : Mx w) :
    Calls Tryz.prog 36 #[.int .i64 root, .string path, tv] w fun e w' => e = .returned (.bool R) ∧ Below w.heap.size w w' := by
  have HT : Hid (∀ wx, Below w.heap.size w wx → Strs wx wx.heap.size tv proof) := hid fun wx hx' => ht.on hx'
  obtain ⟨n, hn⟩ : ∃ n, proof.length = n := ⟨_, rfl⟩
  obtain ⟨ta, tc, rfl, _, _, h3⟩ := ht.strs hn
  have HN := hid hn
  have H3 := hid h3
  have HS := hid hs
  have HG := hid hg
  obtain ⟨P, hP⟩ : ∃ P, pathParts (bs path) = P := ⟨_, rfl⟩
  have HP := hid hP
  have HR := hid hR
  clear ht hn hs hg hP h3 hR
  cases P with
  | none =>
    obtain rfl : R = false := by rw [← HR.out]; unfold absRight; rw [HP.out]
    go_enter Tryz.func36, Tryz.ntmps36
    go_wp2_with fail
    refine (impl_PathParts_c path _ hp0 hm).mono ?_
    rw [HP.out]
    rintro e w1 ⟨pv, rfl, o1, b1⟩
    clear o1
    go_wp2
    go_ret
    exact ⟨rfl, b1⟩
  | some ws =>
    have HPS := hid (parts_small HP.out)
    obtain ⟨m, hml⟩ : ∃ m, (ws.map strL).length = m := ⟨_, rfl⟩
    have HM := hid hml
    have hm3 : m ≤ 3 := by rw [← hml]; exact HPS.out.2
    have HO := hid (show (decide (1 ≤ n ∧ n ≤ m) && onWay root (ws.map strL) proof && lastOff (readFolder (bs (proof.getLastD ByteArray.empty))) ((ws.map strL).getD (n - 1) ByteArray.empty)) = R by
      rw [← HR.out]; unfold absRight; rw [HP.out, ← hml, List.length_map, HN.out])
    clear hml HR
    by_cases hlen : 1 ≤ n ∧ n ≤ m
    · obtain ⟨q, hq⟩ : ∃ q, n - 1 = q := ⟨_, rfl⟩
      obtain ⟨b, o, t, rfl, hbl, hx, k0⟩ := H3.out q (by omega)
      obtain ⟨nm, hnm⟩ : ∃ nm, (ws.map strL)[q]? = some nm := ⟨_, List.getElem?_eq_getElem (by have := HM.out; omega)⟩
      have HNM := hid hnm
      obtain ⟨z, hz⟩ : ∃ z, onWay root (ws.map strL) proof = z := ⟨_, rfl⟩
      obtain ⟨F, hF⟩ : ∃ F, readFolder (bs t) = F := ⟨_, rfl⟩
      have HZ := hid hz
      have HF := hid hF
      have HES := hid (show entsOf (bs t) = F.getD [] by unfold entsOf; rw [hF])
      have HQ2 := hid (show (z && lastOff F nm) = R by
        rw [← HO.out, hz, ← hF]
        have e1 : proof.getLastD ByteArray.empty = t := by
          have h1 := hx.out
          rw [List.getLastD_eq_getLast?, List.getLast?_eq_getElem?, HN.out, hq, h1]; rfl
        have e2 : (ws.map strL).getD (n - 1) ByteArray.empty = nm := by rw [hq, List.getD_eq_getElem?_getD, hnm]; rfl
        rw [e1, e2]; simp [hlen])
      have hh0 : ¬ (n : Int) < 1 := by omega
      have hh1 : ¬ (m : Int) < n := by omega
      have hw1 : IntKind.i64.wrap ((n : Int) - 1) = (q : Int) := by rw [IntWalk.i64_in _ (by omega)]; omega
      have hqn : (q : Int) < n := by omega
      have hqm : (q : Int) < m := by omega
      have hqm' : q < m := by omega
      have HK := hid k0
      have HTS := hid (HS.out t (List.mem_of_getElem? hx.out))
      have HL := hid (show proof.length ≤ (ws.map strL).length + 1 by rw [HN.out, HM.out]; omega)
      clear hnm hz hF HO k0 hq hlen hx H3
      go_enter Tryz.func36, Tryz.ntmps36
      go_wp2_with fail
      refine (impl_PathParts_c path _ hp0 hm).mono ?_
      rw [HP.out]
      rintro e w1 ⟨pv, rfl, o1, b1⟩
      have r1 : Strs w1 w1.heap.size pv (ws.map strL) := Rd.of_own o1
      have R1 := hid r1
      obtain ⟨pa, pc, rfl, _, _, hp3⟩ := r1.strs HM.out
      obtain ⟨b', o', nm', rfl, hbl', hx', k1⟩ := hp3 q hqm'
      obtain rfl : nm' = nm := Option.some.inj (hx'.out.symm.trans HNM.out)
      have HK1 := hid k1
      clear o1 r1 hp3 k1 hx'
      go_wp2_with fail
      refine (impl_onTheWay_c root _ _ (ws.map strL) proof _ z HZ.out R1.out (HT.out _ b1) HL.out HS.out (HG.out.on b1)).mono ?_
      rintro e w2 ⟨rfl, b2⟩
      have d2 := bl_then b1 b2
      have j0 := (d2.cell (p := ⟨b, o + q, none⟩) hbl).trans HK.out
      have l2 := (b2.cell (p := ⟨b', o' + q, none⟩) hbl').trans HK1.out
      cases z
      · obtain rfl : R = false := by rw [← HQ2.out]; rfl
        go_wp2
        go_ret
        exact ⟨rfl, d2⟩
      go_wp2_with fail
      refine (impl_ReadFolder_c t _ HTS.out (HG.out.on d2)).mono ?_
      rw [HES.out, HF.out]
      rintro e w3 ⟨lv, rfl, o3, b3⟩
      have d3 := bl_then d2 b3
      have l3 := (b3.cell (p := ⟨b', o' + q, none⟩) (Nat.lt_of_lt_of_le hbl' b2.size)).trans l2
      cases F with
      | none =>
        obtain rfl : R = false := by rw [← HQ2.out]; rfl
        clear o3
        go_wp2
        go_ret
        exact ⟨rfl, d3⟩
      | some es =>
        have L3 : Hid (Ents w3 w3.heap.size lv es) := hid (Rd.of_own o3)
        have HEO := hid (readFolder_some HF.out).1
        obtain ⟨Q, hQ⟩ : ∃ Q, firstOf es nm' = Q := ⟨_, rfl⟩
        have HQ := hid hQ
        obtain rfl : R = Q.isNone := by rw [← HQ2.out, ← hQ]; rfl
        clear o3 hQ
        go_wp2_with fail
        refine (impl_printNamed_c _ es nm' _ Q HQ.out L3.out HEO.out).mono ?_
        rintro e w4 ⟨rfl, b4⟩
        have d4 := bl_then d3 b4
        cases Q
        · go_wp2
          go_ret
          exact ⟨rfl, d4⟩
        · go_wp2
          go_ret
          exact ⟨rfl, d4⟩
    · obtain rfl : R = false := by rw [← HO.out]; simp [hlen]
      have hd0 : (n : Int) < 1 ∨ (m : Int) < n := by omega
      go_enter Tryz.func36, Tryz.ntmps36
      go_wp2_with fail
      refine (impl_PathParts_c path _ hp0 hm).mono ?_
      rw [HP.out]
      rintro e w1 ⟨pv, rfl, o1, b1⟩
      have r1 : Strs w1 w1.heap.size pv (ws.map strL) := Rd.of_own o1
      obtain ⟨pa, pc, rfl, _, _, _⟩ := r1.strs HM.out
      clear o1 r1
      rcases hd0 with h0 | h0
      · go_wp2
        go_ret
        exact ⟨rfl, b1⟩
      · have h1 : ¬ (n : Int) < 1 := by omega
        go_wp2
        go_ret
        exact ⟨rfl, b1⟩

end Go.Proofs.YtnaahincolooeaaGreatDoor

/- Walks: drawn stores with roots. -/
namespace Go.Proofs.YtnaahincolooeaaGreatDoor
open Go.RowKit

/-- A drawn store with roots. -/
def RootsB (w : World) (m : Nat) (e : Ending) (w' : World) : Prop :=
  ∃ (v u : Value) (xs : List Pc) (ns : List Int), e = .returned (.tuple #[v, u]) ∧ OwnP w' w.heap.size v xs ∧ Drawn xs ∧ OwnI w' w.heap.size u ns ∧ ns.length ≤ m ∧ Below w.heap.size w w'




end Go.Proofs.YtnaahincolooeaaGreatDoor

/- Texts on a way and what they prove, in plain Lean. No program in sight. -/
namespace Go.Proofs.YtnaahincolooeaaGreatDoor
open Go.RowKit

/-- The text with a print, or the empty one. -/
noncomputable def txA (xs : List Pc) (pr : Int) : ByteArray := (getP xs pr).getD ByteArray.empty
theorem bs_txA (xs : List Pc) (pr : Int) : bs (txA xs pr) = textAt xs pr := rfl
/-- The texts on a way. -/
noncomputable def wayT (xs : List Pc) : Int → List ByteArray → List ByteArray
  | pr, [] => [txA xs pr]
  | pr, nm :: r => txA xs pr :: wayT xs ((firstOf (entsOf (textAt xs pr)) nm).getD (-1)) r
noncomputable def proofOf (xs : List Pc) (root : Int) (ws : List ByteArray) : List ByteArray := if (walkAt xs root ws).2 = true then wayT xs root ws else []
noncomputable def pathProof (xs : List Pc) (root : Int) (path : List UInt8) : List ByteArray := match pathParts path with
  | some ws => if storeOk xs = true then proofOf xs root (ws.map strL) else []
  | none => []
theorem wayT_len {xs : List Pc} : ∀ (ws : List ByteArray) (pr : Int), (wayT xs pr ws).length = ws.length + 1
  | [], pr => rfl
  | nm :: r, pr => by unfold wayT; rw [List.length_cons, wayT_len r]; rfl
theorem wayT_ne {xs : List Pc} {ws : List ByteArray} {pr : Int} : wayT xs pr ws ≠ [] := by
  intro h
  have := wayT_len (xs := xs) ws pr
  rw [h] at this; simp at this
theorem txA_print {xs : List Pc} {pr : Int} (hs : storeOk xs = true) (h : hasP xs pr = true) : printOf (bs (txA xs pr)) = pr := by
  obtain ⟨t, ht⟩ := has_get h
  unfold txA
  rw [ht]
  exact (getP_text hs ht).2.1
theorem txA_small {xs : List Pc} (hs : storeOk xs = true) (pr : Int) : (txA xs pr).size ≤ 60 := text_small hs pr
theorem first_has {xs : List Pc} {pr c : Int} {nm : ByteArray} (h : firstOf (entsOf (textAt xs pr)) nm = some c) : hasP xs pr = true := by
  cases hp : hasP xs pr
  · exfalso
    rw [textAt_none hp] at h
    unfold entsOf at h
    rw [readFolder_emp] at h
    cases h
  · rfl
theorem first_folder {l : List UInt8} {c : Int} {nm : ByteArray} (h : firstOf (entsOf l) nm = some c) : readFolder l = some (entsOf l) := by
  unfold entsOf at h ⊢
  cases hr : readFolder l with
  | none => rw [hr] at h; cases h
  | some es => rfl
theorem wayT_small {xs : List Pc} (hs : storeOk xs = true) : ∀ (ws : List ByteArray) (pr : Int), ∀ t ∈ wayT xs pr ws, t.size ≤ 60
  | [], pr, t, ht => by simp only [wayT, List.mem_singleton] at ht; rw [ht]; exact txA_small hs pr
  | nm :: r, pr, t, ht => by
    simp only [wayT, List.mem_cons] at ht
    rcases ht with ht | ht
    · rw [ht]; exact txA_small hs pr
    · exact wayT_small hs r _ t ht
theorem pathProof_small {xs : List Pc} {root : Int} {path : List UInt8} : ∀ t ∈ pathProof xs root path, t.size ≤ 60 := by
  intro t ht
  unfold pathProof at ht
  split at ht
  · split at ht
    · rename_i hs
      unfold proofOf at ht
      split at ht
      · exact wayT_small hs _ _ t ht
      · cases ht
    · cases ht
  · cases ht
theorem pathProof_len {xs : List Pc} {root : Int} {path : List UInt8} : (pathProof xs root path).length ≤ 4 := by
  unfold pathProof
  split
  · rename_i ws hp
    split
    · unfold proofOf
      split
      · rw [wayT_len]; have := (parts_small hp).2; omega
      · simp
    · simp
  · simp
/-- Where the first so many names lead. -/
theorem walk_take {xs : List Pc} : ∀ (ws : List ByteArray) (pr c : Int), walkAt xs pr ws = (c, true) → ∀ k, k ≤ ws.length → ∃ c', walkAt xs pr (ws.take k) = (c', true) ∧ (wayT xs pr ws)[k]? = some (txA xs c')
  | [], pr, c, h, k, hk => by
    obtain rfl : k = 0 := by simpa using hk
    refine ⟨pr, ?_, rfl⟩
    have hp := walk_has [] pr c h
    unfold walkAt at h ⊢
    split at h
    · rename_i h1; simp [h1]
    · cases h
  | nm :: r, pr, c, h, 0, _ => by
    cases hq : firstOf (entsOf (textAt xs pr)) nm with
    | none => rw [walk_no hq] at h; cases h
    | some q =>
      refine ⟨pr, ?_, rfl⟩
      rw [List.take_zero]
      unfold walkAt
      rw [if_pos (first_has hq)]
  | nm :: r, pr, c, h, k + 1, hk => by
    cases hq : firstOf (entsOf (textAt xs pr)) nm with
    | none => rw [walk_no hq] at h; cases h
    | some q =>
      rw [walk_some hq] at h
      obtain ⟨c', h1, h2⟩ := walk_take r q c h k (by simpa using hk)
      refine ⟨c', ?_, ?_⟩
      · rw [List.take_succ_cons, walk_some hq]; exact h1
      · unfold wayT
        rw [hq]
        simpa using h2
/-- The texts on a way are on the way. -/
theorem way_right {xs : List Pc} (hs : storeOk xs = true) : ∀ (ws : List ByteArray) (pr c : Int), walkAt xs pr ws = (c, true) → onWay pr ws (wayT xs pr ws) = true
  | [], pr, c, h => by
    have hp : hasP xs pr = true := by
      unfold walkAt at h
      split at h
      · assumption
      · cases h
    exact onWay_last (txA_print hs hp)
  | nm :: r, pr, c, h => by
    cases hq : firstOf (entsOf (textAt xs pr)) nm with
    | none => rw [walk_no hq] at h; cases h
    | some q =>
      rw [walk_some hq] at h
      have ih := way_right hs r q c h
      unfold wayT
      rw [hq]
      simp only [Option.getD_some]
      cases hw : wayT xs q r with
      | nil => exact absurd hw wayT_ne
      | cons y r' =>
        rw [hw] at ih
        rw [onWay_on (txA_print hs (first_has hq)) (first_folder (l := bs (txA xs pr)) hq) hq]
        exact ih
theorem way_last {xs : List Pc} : ∀ (ws : List ByteArray) (pr c : Int), walkAt xs pr ws = (c, true) → (wayT xs pr ws).getLastD ByteArray.empty = txA xs c
  | ws, pr, c, h => by
    obtain ⟨c', h1, h2⟩ := walk_take ws pr c h ws.length (Nat.le_refl _)
    rw [List.take_length, h] at h1
    obtain rfl : c = c' := by simpa using h1
    rw [List.getLastD_eq_getLast?, List.getLast?_eq_getElem?, wayT_len, Nat.add_sub_cancel, h2]; rfl

/-! ### FnPathProof, FnProofsHold -/
theorem proof_on {xs : List Pc} {root : Int} {path : List UInt8} (h : (walkTo xs root path).2 = true) : ∃ ws c, storeOk xs = true ∧ pathParts path = some ws ∧ walkTo xs root path = (c, true) ∧ walkAt xs root (ws.map strL) = (c, true) ∧ pathProof xs root path = wayT xs root (ws.map strL) := by
  cases hs : storeOk xs
  · rw [walk_off (.inl hs)] at h; cases h
  cases hp : pathParts path with
  | none => rw [walk_off (.inr hp)] at h; cases h
  | some ws =>
    have e := walk_on (root := root) hs hp
    obtain ⟨⟨c, ok⟩, hR⟩ : ∃ R, walkAt xs root (ws.map strL) = R := ⟨_, rfl⟩
    rw [e, hR] at h
    obtain rfl : ok = true := h
    refine ⟨ws, c, rfl, rfl, by rw [e, hR], hR, ?_⟩
    unfold pathProof
    rw [hp]
    simp only []
    rw [if_pos hs]
    unfold proofOf
    rw [hR, if_pos rfl]
theorem proof_off {xs : List Pc} {root : Int} {path : List UInt8} (h : (walkTo xs root path).2 = false) : pathProof xs root path = [] := by
  unfold pathProof
  cases hp : pathParts path with
  | none => rfl
  | some ws =>
    simp only []
    cases hs : storeOk xs
    · rfl
    · rw [walk_on hs hp] at h
      unfold proofOf
      rw [if_pos rfl, h]; rfl
theorem proof_pos {xs : List Pc} {root : Int} {path : List UInt8} : (walkTo xs root path).2 = decide (0 < (pathProof xs root path).length) := by
  cases h : (walkTo xs root path).2
  · rw [proof_off h]; rfl
  · obtain ⟨ws, c, _, _, _, _, e⟩ := proof_on h
    rw [e, wayT_len]; simp
theorem proof_right {xs : List Pc} {root : Int} {path : List UInt8} (h : (walkTo xs root path).2 = true) : proofRight root path (pathProof xs root path) = true := by
  obtain ⟨ws, c, hs, hp, _, hw, e⟩ := proof_on h
  rw [right_on hp, e, wayT_len, way_right hs _ _ _ hw]; simp
theorem proof_content {xs : List Pc} {root : Int} {path : List UInt8} : proofContent root path (pathProof xs root path) = readAt xs root path := by
  unfold proofContent readAt
  cases h : (walkTo xs root path).2
  · have : proofRight root path (pathProof xs root path) = false := by
      rw [proof_off h]
      unfold proofRight
      split
      · simp
      · rfl
    rw [this]; rfl
  · obtain ⟨ws, c, hs, hp, hwt, hw, e⟩ := proof_on h
    rw [proof_right h, e, way_last _ _ _ hw, hwt]; rfl

/-! ### FnProofRight, FnAbsenceRight -/
theorem onWay_first {pr : Int} {parts : List ByteArray} {t : ByteArray} {r : List ByteArray} (h : onWay pr parts (t :: r) = true) : printOf (bs t) = pr := by
  unfold onWay at h
  simp only [Bool.and_eq_true, decide_eq_true_eq] at h
  exact h.1
theorem right_parts {root : Int} {path : List UInt8} {proof : List ByteArray} (h : proofRight root path proof = true) : ∃ ws, pathParts path = some ws ∧ proof.length = ws.length + 1 ∧ onWay root (ws.map strL) proof = true := by
  unfold proofRight at h
  split at h
  · rename_i ws hp
    simp only [Bool.and_eq_true, decide_eq_true_eq] at h
    exact ⟨ws, hp, h.1, h.2⟩
  · cases h
theorem abs_parts {root : Int} {path : List UInt8} {proof : List ByteArray} (h : absRight root path proof = true) : ∃ ws, pathParts path = some ws ∧ 1 ≤ proof.length ∧ proof.length ≤ ws.length ∧ onWay root (ws.map strL) proof = true ∧ lastOff (readFolder (bs (proof.getLastD ByteArray.empty))) ((ws.map strL).getD (proof.length - 1) ByteArray.empty) = true := by
  unfold absRight at h
  split at h
  · rename_i ws hp
    simp only [Bool.and_eq_true, decide_eq_true_eq] at h
    exact ⟨ws, hp, h.1.1.1, h.1.1.2, h.1.2, h.2⟩
  · cases h
theorem right_other {root other : Int} {path : List UInt8} {proof : List ByteArray} (h : proofRight root path proof = true) (hne : other ≠ root) : proofRight other path proof = false := by
  obtain ⟨ws, hp, hl, ho⟩ := right_parts h
  cases h' : proofRight other path proof
  · rfl
  · exfalso
    obtain ⟨ws', hp', hl', ho'⟩ := right_parts h'
    cases proof with
    | nil => simp at hl
    | cons t r => exact hne ((onWay_first ho').symm.trans (onWay_first ho))
theorem right_more {root : Int} {path : List UInt8} {proof : List ByteArray} (t : ByteArray) (h : proofRight root path proof = true) : proofRight root path (proof ++ [t]) = false := by
  obtain ⟨ws, hp, hl, ho⟩ := right_parts h
  cases h' : proofRight root path (proof ++ [t])
  · rfl
  · exfalso
    obtain ⟨ws', hp', hl', ho'⟩ := right_parts h'
    obtain rfl := Option.some.inj (hp.symm.trans hp')
    simp at hl'; omega
theorem right_abs {root : Int} {path : List UInt8} {proof : List ByteArray} (h : proofRight root path proof = true) : absRight root path proof = false := by
  obtain ⟨ws, hp, hl, ho⟩ := right_parts h
  cases h' : absRight root path proof
  · rfl
  · exfalso
    obtain ⟨ws', hp', _, hl', _, _⟩ := abs_parts h'
    obtain rfl := Option.some.inj (hp.symm.trans hp')
    omega
theorem abs_right {root : Int} {path : List UInt8} {proof : List ByteArray} (h : absRight root path proof = true) : proofRight root path proof = false := by
  cases h' : proofRight root path proof
  · rfl
  · rw [right_abs h'] at h; cases h
theorem abs_other {root other : Int} {path : List UInt8} {proof : List ByteArray} (h : absRight root path proof = true) (hne : other ≠ root) : absRight other path proof = false := by
  obtain ⟨ws, hp, h1, hl, ho, _⟩ := abs_parts h
  cases h' : absRight other path proof
  · rfl
  · exfalso
    obtain ⟨ws', hp', _, _, ho', _⟩ := abs_parts h'
    cases proof with
    | nil => simp at h1
    | cons t r => exact hne ((onWay_first ho').symm.trans (onWay_first ho))

/-! ### FnProofContent -/
theorem file_back {l : List UInt8} (h : isFile l = true) : fileText (fileC l) = l := by
  cases l with
  | nil => cases h
  | cons c r =>
    rw [isFile_cons] at h
    simp only [Bool.and_eq_true, decide_eq_true_eq] at h
    obtain ⟨rfl, h2⟩ := h
    rw [fileC_yes h2]
    unfold fileText
    rw [if_pos h2]
theorem content_on {root : Int} {path : List UInt8} {proof : List ByteArray} (h : (proofContent root path proof).2 = true) : proofRight root path proof = true ∧ fileText (proofContent root path proof).1 = bs (proof.getLastD ByteArray.empty) := by
  unfold proofContent at h ⊢
  split at h
  · rename_i hr
    rw [if_pos hr]
    exact ⟨hr, file_back h⟩
  · cases h
theorem content_off {root : Int} {path : List UInt8} {proof : List ByteArray} (h : (proofContent root path proof).2 = false) : (proofContent root path proof).1 = [] := by
  unfold proofContent at h ⊢
  split
  · rename_i hr
    rw [if_pos hr] at h
    exact fileC_no h
  · rfl

/-! ### Absence -/
noncomputable def absW (xs : List Pc) : Int → List ByteArray → Option (List ByteArray)
  | _, [] => none
  | pr, nm :: r => match folderAt xs pr with
    | none => none
    | some es => match firstOf es nm with
      | none => some [txA xs pr]
      | some c => (absW xs c r).map (txA xs pr :: ·)
noncomputable def absProof (xs : List Pc) (root : Int) (path : List UInt8) : List ByteArray := match pathParts path with
  | some ws => if storeOk xs = true then (absW xs root (ws.map strL)).getD [] else []
  | none => []
theorem folder_first {xs : List Pc} {pr : Int} {es : List Ent} (h : folderAt xs pr = some es) : entsOf (textAt xs pr) = es := by rw [entsOf_at, h]; rfl
theorem folder_hasP {xs : List Pc} {pr : Int} {es : List Ent} (h : folderAt xs pr = some es) : hasP xs pr = true := by
  cases hp : hasP xs pr
  · rw [folderAt_none hp] at h; cases h
  · rfl
/-- A proof of absence stands where the names lead to a folder that lacks the next one. -/
theorem abs_at {xs : List Pc} (hs : storeOk xs = true) : ∀ (ws : List ByteArray) (pr : Int) (T : List ByteArray), absW xs pr ws = some T → ∃ k c es nm, k < ws.length ∧ walkAt xs pr (ws.take k) = (c, true) ∧ ws[k]? = some nm ∧ folderAt xs c = some es ∧ firstOf es nm = none ∧ T = wayT xs pr (ws.take k)
  | [], pr, T, h => by cases h
  | nm :: r, pr, T, h => by
    unfold absW at h
    cases hf : folderAt xs pr with
    | none => rw [hf] at h; cases h
    | some es =>
      rw [hf] at h
      simp only [] at h
      cases hq : firstOf es nm with
      | none =>
        rw [hq] at h
        simp only [Option.some.injEq] at h
        refine ⟨0, pr, es, nm, by simp, ?_, rfl, hf, hq, h.symm⟩
        rw [List.take_zero]
        unfold walkAt
        rw [if_pos (folder_hasP hf)]
      | some q =>
        rw [hq] at h
        simp only [Option.map_eq_some_iff] at h
        obtain ⟨T', h1, rfl⟩ := h
        obtain ⟨k, c, es', nm', hk, h2, h3, h4, h5, rfl⟩ := abs_at hs r q T' h1
        have hq' : firstOf (entsOf (textAt xs pr)) nm = some q := by rw [folder_first hf]; exact hq
        refine ⟨k + 1, c, es', nm', by simpa using hk, ?_, by simpa using h3, h4, h5, ?_⟩
        · rw [List.take_succ_cons, walk_some hq']; exact h2
        · rw [List.take_succ_cons]
          conv => rhs; unfold wayT
          rw [hq']; rfl
theorem walk_cut {xs : List Pc} {c : Int} {nm : ByteArray} {r : List ByteArray} (hq : firstOf (entsOf (textAt xs c)) nm = none) : ∀ (ws : List ByteArray) (pr : Int), walkAt xs pr ws = (c, true) → walkAt xs pr (ws ++ nm :: r) = (-1, false)
  | [], pr, h => by
    unfold walkAt at h
    split at h
    · simp only [Prod.mk.injEq, and_true] at h
      subst h
      exact walk_no hq
    · cases h
  | x :: q, pr, h => by
    cases hx : firstOf (entsOf (textAt xs pr)) x with
    | none => rw [walk_no hx] at h; cases h
    | some y =>
      rw [walk_some hx] at h
      rw [List.cons_append, walk_some hx]
      exact walk_cut hq q y h
theorem onWay_take : ∀ (parts more proof : List ByteArray) (pr : Int), proof.length ≤ parts.length + 1 → onWay pr parts proof = true → onWay pr (parts ++ more) proof = true
  | parts, more, [], pr, _, _ => by unfold onWay; rfl
  | parts, more, [t], pr, _, h => onWay_last (onWay_first h)
  | [], more, t :: y :: r, pr, hl, h => by simp at hl
  | nm :: q, more, t :: y :: r, pr, hl, h => by
    have hp := onWay_first h
    cases hf : readFolder (bs t) with
    | none => rw [onWay_nof hf] at h; cases h
    | some es =>
      cases hq : firstOf es nm with
      | none => rw [onWay_non hf hq] at h; cases h
      | some c =>
        rw [onWay_on hp hf hq] at h
        rw [List.cons_append, onWay_on hp hf hq]
        exact onWay_take q more (y :: r) c (by simpa using hl) h
theorem abs_facts {xs : List Pc} {root : Int} {path : List UInt8} (h : absProof xs root path ≠ []) : (walkTo xs root path).2 = false ∧ absRight root path (absProof xs root path) = true := by
  unfold absProof at h ⊢
  cases hp : pathParts path with
  | none => rw [hp] at h; exact absurd rfl h
  | some ws =>
    rw [hp] at h
    simp only [] at h ⊢
    cases hs : storeOk xs
    · rw [hs] at h; exact absurd rfl h
    · rw [hs, if_pos rfl] at h
      rw [if_pos rfl]
      cases ha : absW xs root (ws.map strL) with
      | none => rw [ha] at h; exact absurd rfl h
      | some T =>
        obtain ⟨k, c, es, nm, hk, hw, hnm, hf, hq, rfl⟩ := abs_at hs _ _ _ ha
        have hq' : firstOf (entsOf (textAt xs c)) nm = none := by rw [folder_first hf]; exact hq
        constructor
        · rw [walk_on hs hp]
          have e : ws.map strL = (ws.map strL).take k ++ nm :: (ws.map strL).drop (k + 1) := by
            rw [← drop_cons hnm, List.take_append_drop]
          rw [e, walk_cut hq' _ _ hw]
        · simp only [Option.getD_some]
          have hk' : k < ws.length := by simpa using hk
          have hl : (wayT xs root ((ws.map strL).take k)).length = k + 1 := by rw [wayT_len, List.length_take]; simp; omega
          unfold absRight
          rw [hp]
          simp only []
          rw [hl, way_last _ _ _ hw]
          have h1 : onWay root (ws.map strL) (wayT xs root ((ws.map strL).take k)) = true := by
            have e : ws.map strL = (ws.map strL).take k ++ (ws.map strL).drop k := (List.take_append_drop _ _).symm
            conv => lhs; arg 2; rw [e]
            exact onWay_take _ _ _ _ (by rw [wayT_len]; exact Nat.le_refl _) (way_right hs _ _ _ hw)
          rw [h1]
          have h2 : (ws.map strL).getD (k + 1 - 1) ByteArray.empty = nm := by rw [Nat.add_sub_cancel, List.getD_eq_getElem?_getD, hnm]; rfl
          rw [h2]
          have h3 : readFolder (bs (txA xs c)) = some es := by rw [bs_txA, folderAt_text]; exact hf
          rw [h3]
          unfold lastOff
          simp only [hq]
          simp; omega
theorem absProof_len {xs : List Pc} {root : Int} {path : List UInt8} : (absProof xs root path).length ≤ 4 := by
  unfold absProof
  split
  · rename_i ws hp
    split
    · rename_i hs
      cases ha : absW xs root (ws.map strL) with
      | none => simp
      | some T =>
        obtain ⟨k, c, es, nm, hk, _, _, _, _, rfl⟩ := abs_at hs _ _ _ ha
        simp only [Option.getD_some]
        rw [wayT_len, List.length_take]; have := (parts_small hp).2; omega
    · simp
  · simp
theorem absProof_small {xs : List Pc} {root : Int} {path : List UInt8} : ∀ t ∈ absProof xs root path, t.size ≤ 60 := by
  intro t ht
  unfold absProof at ht
  split at ht
  · rename_i ws hp
    split at ht
    · rename_i hs
      cases ha : absW xs root (ws.map strL) with
      | none => rw [ha] at ht; cases ht
      | some T =>
        rw [ha] at ht
        obtain ⟨k, c, es, nm, hk, _, _, _, _, rfl⟩ := abs_at hs _ _ _ ha
        exact wayT_small hs _ _ t ht
    · cases ht
  · cases ht

end Go.Proofs.YtnaahincolooeaaGreatDoor
