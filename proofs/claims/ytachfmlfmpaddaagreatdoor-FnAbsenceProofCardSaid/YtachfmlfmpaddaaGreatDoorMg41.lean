/- Walks and plain facts, joined: ProofP', LwQ', ProofQ', Where', LawE'. -/
import Derived.Test.YtachfmlfmpaddaaGreatDoorMg2
import Derived.Test.YtachfmlfmpaddaaGreatDoorMg3
import Derived.Test.YtachfmlfmpaddaaGreatDoorMg4
import Derived.Test.YtachfmlfmpaddaaGreatDoorMg5
import Derived.Test.YtachfmlfmpaddaaGreatDoorMg6
import Derived.Test.YtachfmlfmpaddaaGreatDoorMg7
import Derived.Test.YtachfmlfmpaddaaGreatDoorMg8
import Derived.Test.YtachfmlfmpaddaaGreatDoorMg9
import Derived.Test.YtachfmlfmpaddaaGreatDoorMg11
import Derived.Test.YtachfmlfmpaddaaGreatDoorMg13
import Derived.Test.YtachfmlfmpaddaaGreatDoorMg14
import Derived.Test.YtachfmlfmpaddaaGreatDoorMg15
import Derived.Test.YtachfmlfmpaddaaGreatDoorMg16
import Derived.Test.YtachfmlfmpaddaaGreatDoorMg17
import Derived.Test.YtachfmlfmpaddaaGreatDoorMg22
import Derived.Test.YtachfmlfmpaddaaGreatDoorMg23
import Derived.Test.YtachfmlfmpaddaaGreatDoorMg25
import Derived.Test.YtachfmlfmpaddaaGreatDoorMg27
import Derived.Test.YtachfmlfmpaddaaGreatDoorMg29
import Derived.Test.YtachfmlfmpaddaaGreatDoorMg30
import Derived.Test.YtachfmlfmpaddaaGreatDoorMg31
import Derived.Test.YtachfmlfmpaddaaGreatDoorMg34
import Derived.Test.YtachfmlfmpaddaaGreatDoorMg36
import Derived.Test.YtachfmlfmpaddaaGreatDoorMg37
import Derived.Test.YtachfmlfmpaddaaGreatDoorMg38
import Derived.Test.YtachfmlfmpaddaaGreatDoorMg40
set_option linter.unusedVariables false
set_option linter.unusedSimpArgs false

/- Texts on a way and what they prove, in plain Lean. No program in sight. -/
namespace Go.Proofs.YtachfmlfmpaddaaGreatDoor
open Go.RowKit

/-- The text with a print, or the empty one. -/
noncomputable def txA (xs : List Pc) (pr : Int) : ByteArray := (getP xs pr).getD ByteArray.empty
theorem bs_txA (xs : List Pc) (pr : Int) : bs (txA xs pr) = textAt xs pr := rfl
/-- The texts on a way. -/
noncomputable def wayT (xs : List Pc) : Int → List ByteArray → List ByteArray
  | pr, [] => [txA xs pr]
  | pr, nm :: r => txA xs pr :: wayT xs ((firstOf (entsOf (textAt xs pr)) nm).getD (-1)) r
noncomputable def proofOf (xs : List Pc) (root : Int) (ws : List ByteArray) : List ByteArray := if (walkAt xs root ws).2 = true then wayT xs root ws else []
noncomputable def pathProof (xs : List Pc) (root : Int) (path : List UInt8) : List ByteArray := match pathParts path with
  | some ws => if storeOk xs = true then proofOf xs root (ws.map strL) else []
  | none => []
theorem wayT_len {xs : List Pc} : ∀ (ws : List ByteArray) (pr : Int), (wayT xs pr ws).length = ws.length + 1
  | [], pr => rfl
  | nm :: r, pr => by unfold wayT; rw [List.length_cons, wayT_len r]; rfl
theorem wayT_ne {xs : List Pc} {ws : List ByteArray} {pr : Int} : wayT xs pr ws ≠ [] := by
  intro h
  have := wayT_len (xs := xs) ws pr
  rw [h] at this; simp at this
theorem txA_print {xs : List Pc} {pr : Int} (hs : storeOk xs = true) (h : hasP xs pr = true) : printOf (bs (txA xs pr)) = pr := by
  obtain ⟨t, ht⟩ := has_get h
  unfold txA
  rw [ht]
  exact (getP_text hs ht).2.1
theorem txA_small {xs : List Pc} (hs : storeOk xs = true) (pr : Int) : (txA xs pr).size ≤ 60 := text_small hs pr
theorem first_folder {l : List UInt8} {c : Int} {nm : ByteArray} (h : firstOf (entsOf l) nm = some c) : readFolder l = some (entsOf l) := by
  unfold entsOf at h ⊢
  cases hr : readFolder l with
  | none => rw [hr] at h; cases h
  | some es => rfl
theorem wayT_small {xs : List Pc} (hs : storeOk xs = true) : ∀ (ws : List ByteArray) (pr : Int), ∀ t ∈ wayT xs pr ws, t.size ≤ 60
  | [], pr, t, ht => by simp only [wayT, List.mem_singleton] at ht; rw [ht]; exact txA_small hs pr
  | nm :: r, pr, t, ht => by
    simp only [wayT, List.mem_cons] at ht
    rcases ht with ht | ht
    · rw [ht]; exact txA_small hs pr
    · exact wayT_small hs r _ t ht
theorem pathProof_small {xs : List Pc} {root : Int} {path : List UInt8} : ∀ t ∈ pathProof xs root path, t.size ≤ 60 := by
  intro t ht
  unfold pathProof at ht
  split at ht
  · split at ht
    · rename_i hs
      unfold proofOf at ht
      split at ht
      · exact wayT_small hs _ _ t ht
      · cases ht
    · cases ht
  · cases ht
theorem pathProof_len {xs : List Pc} {root : Int} {path : List UInt8} : (pathProof xs root path).length ≤ 4 := by
  unfold pathProof
  split
  · rename_i ws hp
    split
    · unfold proofOf
      split
      · rw [wayT_len]; have := (parts_small hp).2; omega
      · simp
    · simp
  · simp
/-- Where the first so many names lead. -/
theorem walk_take {xs : List Pc} : ∀ (ws : List ByteArray) (pr c : Int), walkAt xs pr ws = (c, true) → ∀ k, k ≤ ws.length → ∃ c', walkAt xs pr (ws.take k) = (c', true) ∧ (wayT xs pr ws)[k]? = some (txA xs c')
  | [], pr, c, h, k, hk => by
    obtain rfl : k = 0 := by simpa using hk
    refine ⟨pr, ?_, rfl⟩
    have hp := walk_has [] pr c h
    unfold walkAt at h ⊢
    split at h
    · rename_i h1; simp [h1]
    · cases h
  | nm :: r, pr, c, h, 0, _ => by
    cases hq : firstOf (entsOf (textAt xs pr)) nm with
    | none => rw [walk_no hq] at h; cases h
    | some q =>
      refine ⟨pr, ?_, rfl⟩
      rw [List.take_zero]
      unfold walkAt
      rw [if_pos (first_has hq)]
  | nm :: r, pr, c, h, k + 1, hk => by
    cases hq : firstOf (entsOf (textAt xs pr)) nm with
    | none => rw [walk_no hq] at h; cases h
    | some q =>
      rw [walk_some hq] at h
      obtain ⟨c', h1, h2⟩ := walk_take r q c h k (by simpa using hk)
      refine ⟨c', ?_, ?_⟩
      · rw [List.take_succ_cons, walk_some hq]; exact h1
      · unfold wayT
        rw [hq]
        simpa using h2
/-- The texts on a way are on the way. -/
theorem way_right {xs : List Pc} (hs : storeOk xs = true) : ∀ (ws : List ByteArray) (pr c : Int), walkAt xs pr ws = (c, true) → onWay pr ws (wayT xs pr ws) = true
  | [], pr, c, h => by
    have hp : hasP xs pr = true := by
      unfold walkAt at h
      split at h
      · assumption
      · cases h
    exact onWay_last (txA_print hs hp)
  | nm :: r, pr, c, h => by
    cases hq : firstOf (entsOf (textAt xs pr)) nm with
    | none => rw [walk_no hq] at h; cases h
    | some q =>
      rw [walk_some hq] at h
      have ih := way_right hs r q c h
      unfold wayT
      rw [hq]
      simp only [Option.getD_some]
      cases hw : wayT xs q r with
      | nil => exact absurd hw wayT_ne
      | cons y r' =>
        rw [hw] at ih
        rw [onWay_on (txA_print hs (first_has hq)) (first_folder (l := bs (txA xs pr)) hq) hq]
        exact ih
theorem way_last {xs : List Pc} : ∀ (ws : List ByteArray) (pr c : Int), walkAt xs pr ws = (c, true) → (wayT xs pr ws).getLastD ByteArray.empty = txA xs c
  | ws, pr, c, h => by
    obtain ⟨c', h1, h2⟩ := walk_take ws pr c h ws.length (Nat.le_refl _)
    rw [List.take_length, h] at h1
    obtain rfl : c = c' := by simpa using h1
    rw [List.getLastD_eq_getLast?, List.getLast?_eq_getElem?, wayT_len, Nat.add_sub_cancel, h2]; rfl

/-! ### FnPathProof, FnProofsHold -/
theorem proof_on {xs : List Pc} {root : Int} {path : List UInt8} (h : (walkTo xs root path).2 = true) : ∃ ws c, storeOk xs = true ∧ pathParts path = some ws ∧ walkTo xs root path = (c, true) ∧ walkAt xs root (ws.map strL) = (c, true) ∧ pathProof xs root path = wayT xs root (ws.map strL) := by
  cases hs : storeOk xs
  · rw [walk_off (.inl hs)] at h; cases h
  cases hp : pathParts path with
  | none => rw [walk_off (.inr hp)] at h; cases h
  | some ws =>
    have e := walk_on (root := root) hs hp
    obtain ⟨⟨c, ok⟩, hR⟩ : ∃ R, walkAt xs root (ws.map strL) = R := ⟨_, rfl⟩
    rw [e, hR] at h
    obtain rfl : ok = true := h
    refine ⟨ws, c, rfl, rfl, by rw [e, hR], hR, ?_⟩
    unfold pathProof
    rw [hp]
    simp only []
    rw [if_pos hs]
    unfold proofOf
    rw [hR, if_pos rfl]
theorem proof_off {xs : List Pc} {root : Int} {path : List UInt8} (h : (walkTo xs root path).2 = false) : pathProof xs root path = [] := by
  unfold pathProof
  cases hp : pathParts path with
  | none => rfl
  | some ws =>
    simp only []
    cases hs : storeOk xs
    · rfl
    · rw [walk_on hs hp] at h
      unfold proofOf
      rw [if_pos rfl, h]; rfl
theorem proof_pos {xs : List Pc} {root : Int} {path : List UInt8} : (walkTo xs root path).2 = decide (0 < (pathProof xs root path).length) := by
  cases h : (walkTo xs root path).2
  · rw [proof_off h]; rfl
  · obtain ⟨ws, c, _, _, _, _, e⟩ := proof_on h
    rw [e, wayT_len]; simp
theorem proof_right {xs : List Pc} {root : Int} {path : List UInt8} (h : (walkTo xs root path).2 = true) : proofRight root path (pathProof xs root path) = true := by
  obtain ⟨ws, c, hs, hp, _, hw, e⟩ := proof_on h
  rw [right_on hp, e, wayT_len, way_right hs _ _ _ hw]; simp
theorem proof_content {xs : List Pc} {root : Int} {path : List UInt8} : proofContent root path (pathProof xs root path) = readAt xs root path := by
  unfold proofContent readAt
  cases h : (walkTo xs root path).2
  · have : proofRight root path (pathProof xs root path) = false := by
      rw [proof_off h]
      unfold proofRight
      split
      · simp
      · rfl
    rw [this]; rfl
  · obtain ⟨ws, c, hs, hp, hwt, hw, e⟩ := proof_on h
    rw [proof_right h, e, way_last _ _ _ hw, hwt]; rfl

/-! ### FnProofRight, FnAbsenceRight -/
theorem onWay_first {pr : Int} {parts : List ByteArray} {t : ByteArray} {r : List ByteArray} (h : onWay pr parts (t :: r) = true) : printOf (bs t) = pr := by
  unfold onWay at h
  simp only [Bool.and_eq_true, decide_eq_true_eq] at h
  exact h.1
theorem right_parts {root : Int} {path : List UInt8} {proof : List ByteArray} (h : proofRight root path proof = true) : ∃ ws, pathParts path = some ws ∧ proof.length = ws.length + 1 ∧ onWay root (ws.map strL) proof = true := by
  unfold proofRight at h
  split at h
  · rename_i ws hp
    simp only [Bool.and_eq_true, decide_eq_true_eq] at h
    exact ⟨ws, hp, h.1, h.2⟩
  · cases h
theorem abs_parts {root : Int} {path : List UInt8} {proof : List ByteArray} (h : absRight root path proof = true) : ∃ ws, pathParts path = some ws ∧ 1 ≤ proof.length ∧ proof.length ≤ ws.length ∧ onWay root (ws.map strL) proof = true ∧ lastOff (readFolder (bs (proof.getLastD ByteArray.empty))) ((ws.map strL).getD (proof.length - 1) ByteArray.empty) = true := by
  unfold absRight at h
  split at h
  · rename_i ws hp
    simp only [Bool.and_eq_true, decide_eq_true_eq] at h
    exact ⟨ws, hp, h.1.1.1, h.1.1.2, h.1.2, h.2⟩
  · cases h
theorem right_other {root other : Int} {path : List UInt8} {proof : List ByteArray} (h : proofRight root path proof = true) (hne : other ≠ root) : proofRight other path proof = false := by
  obtain ⟨ws, hp, hl, ho⟩ := right_parts h
  cases h' : proofRight other path proof
  · rfl
  · exfalso
    obtain ⟨ws', hp', hl', ho'⟩ := right_parts h'
    cases proof with
    | nil => simp at hl
    | cons t r => exact hne ((onWay_first ho').symm.trans (onWay_first ho))
theorem right_more {root : Int} {path : List UInt8} {proof : List ByteArray} (t : ByteArray) (h : proofRight root path proof = true) : proofRight root path (proof ++ [t]) = false := by
  obtain ⟨ws, hp, hl, ho⟩ := right_parts h
  cases h' : proofRight root path (proof ++ [t])
  · rfl
  · exfalso
    obtain ⟨ws', hp', hl', ho'⟩ := right_parts h'
    obtain rfl := Option.some.inj (hp.symm.trans hp')
    simp at hl'; omega
theorem right_abs {root : Int} {path : List UInt8} {proof : List ByteArray} (h : proofRight root path proof = true) : absRight root path proof = false := by
  obtain ⟨ws, hp, hl, ho⟩ := right_parts h
  cases h' : absRight root path proof
  · rfl
  · exfalso
    obtain ⟨ws', hp', _, hl', _, _⟩ := abs_parts h'
    obtain rfl := Option.some.inj (hp.symm.trans hp')
    omega
theorem abs_right {root : Int} {path : List UInt8} {proof : List ByteArray} (h : absRight root path proof = true) : proofRight root path proof = false := by
  cases h' : proofRight root path proof
  · rfl
  · rw [right_abs h'] at h; cases h
theorem abs_other {root other : Int} {path : List UInt8} {proof : List ByteArray} (h : absRight root path proof = true) (hne : other ≠ root) : absRight other path proof = false := by
  obtain ⟨ws, hp, h1, hl, ho, _⟩ := abs_parts h
  cases h' : absRight other path proof
  · rfl
  · exfalso
    obtain ⟨ws', hp', _, _, ho', _⟩ := abs_parts h'
    cases proof with
    | nil => simp at h1
    | cons t r => exact hne ((onWay_first ho').symm.trans (onWay_first ho))

/-! ### FnProofContent -/
theorem content_on {root : Int} {path : List UInt8} {proof : List ByteArray} (h : (proofContent root path proof).2 = true) : proofRight root path proof = true ∧ fileText (proofContent root path proof).1 = bs (proof.getLastD ByteArray.empty) := by
  unfold proofContent at h ⊢
  split at h
  · rename_i hr
    rw [if_pos hr]
    exact ⟨hr, file_back h⟩
  · cases h
theorem content_off {root : Int} {path : List UInt8} {proof : List ByteArray} (h : (proofContent root path proof).2 = false) : (proofContent root path proof).1 = [] := by
  unfold proofContent at h ⊢
  split
  · rename_i hr
    rw [if_pos hr] at h
    exact fileC_no h
  · rfl

/-! ### Absence -/
noncomputable def absW (xs : List Pc) : Int → List ByteArray → Option (List ByteArray)
  | _, [] => none
  | pr, nm :: r => match folderAt xs pr with
    | none => none
    | some es => match firstOf es nm with
      | none => some [txA xs pr]
      | some c => (absW xs c r).map (txA xs pr :: ·)
noncomputable def absProof (xs : List Pc) (root : Int) (path : List UInt8) : List ByteArray := match pathParts path with
  | some ws => if storeOk xs = true then (absW xs root (ws.map strL)).getD [] else []
  | none => []
theorem folder_first {xs : List Pc} {pr : Int} {es : List Ent} (h : folderAt xs pr = some es) : entsOf (textAt xs pr) = es := by rw [entsOf_at, h]; rfl
theorem folder_hasP {xs : List Pc} {pr : Int} {es : List Ent} (h : folderAt xs pr = some es) : hasP xs pr = true := by
  cases hp : hasP xs pr
  · rw [folderAt_none hp] at h; cases h
  · rfl
/-- A proof of absence stands where the names lead to a folder that lacks the next one. -/
theorem abs_at {xs : List Pc} (hs : storeOk xs = true) : ∀ (ws : List ByteArray) (pr : Int) (T : List ByteArray), absW xs pr ws = some T → ∃ k c es nm, k < ws.length ∧ walkAt xs pr (ws.take k) = (c, true) ∧ ws[k]? = some nm ∧ folderAt xs c = some es ∧ firstOf es nm = none ∧ T = wayT xs pr (ws.take k)
  | [], pr, T, h => by cases h
  | nm :: r, pr, T, h => by
    unfold absW at h
    cases hf : folderAt xs pr with
    | none => rw [hf] at h; cases h
    | some es =>
      rw [hf] at h
      simp only [] at h
      cases hq : firstOf es nm with
      | none =>
        rw [hq] at h
        simp only [Option.some.injEq] at h
        refine ⟨0, pr, es, nm, by simp, ?_, rfl, hf, hq, h.symm⟩
        rw [List.take_zero]
        unfold walkAt
        rw [if_pos (folder_hasP hf)]
      | some q =>
        rw [hq] at h
        simp only [Option.map_eq_some_iff] at h
        obtain ⟨T', h1, rfl⟩ := h
        obtain ⟨k, c, es', nm', hk, h2, h3, h4, h5, rfl⟩ := abs_at hs r q T' h1
        have hq' : firstOf (entsOf (textAt xs pr)) nm = some q := by rw [folder_first hf]; exact hq
        refine ⟨k + 1, c, es', nm', by simpa using hk, ?_, by simpa using h3, h4, h5, ?_⟩
        · rw [List.take_succ_cons, walk_some hq']; exact h2
        · rw [List.take_succ_cons]
          conv => rhs; unfold wayT
          rw [hq']; rfl
theorem walk_cut {xs : List Pc} {c : Int} {nm : ByteArray} {r : List ByteArray} (hq : firstOf (entsOf (textAt xs c)) nm = none) : ∀ (ws : List ByteArray) (pr : Int), walkAt xs pr ws = (c, true) → walkAt xs pr (ws ++ nm :: r) = (-1, false)
  | [], pr, h => by
    unfold walkAt at h
    split at h
    · simp only [Prod.mk.injEq, and_true] at h
      subst h
      exact walk_no hq
    · cases h
  | x :: q, pr, h => by
    cases hx : firstOf (entsOf (textAt xs pr)) x with
    | none => rw [walk_no hx] at h; cases h
    | some y =>
      rw [walk_some hx] at h
      rw [List.cons_append, walk_some hx]
      exact walk_cut hq q y h
theorem onWay_take : ∀ (parts more proof : List ByteArray) (pr : Int), proof.length ≤ parts.length + 1 → onWay pr parts proof = true → onWay pr (parts ++ more) proof = true
  | parts, more, [], pr, _, _ => by unfold onWay; rfl
  | parts, more, [t], pr, _, h => onWay_last (onWay_first h)
  | [], more, t :: y :: r, pr, hl, h => by simp at hl
  | nm :: q, more, t :: y :: r, pr, hl, h => by
    have hp := onWay_first h
    cases hf : readFolder (bs t) with
    | none => rw [onWay_nof hf] at h; cases h
    | some es =>
      cases hq : firstOf es nm with
      | none => rw [onWay_non hf hq] at h; cases h
      | some c =>
        rw [onWay_on hp hf hq] at h
        rw [List.cons_append, onWay_on hp hf hq]
        exact onWay_take q more (y :: r) c (by simpa using hl) h
theorem abs_facts {xs : List Pc} {root : Int} {path : List UInt8} (h : absProof xs root path ≠ []) : (walkTo xs root path).2 = false ∧ absRight root path (absProof xs root path) = true := by
  unfold absProof at h ⊢
  cases hp : pathParts path with
  | none => rw [hp] at h; exact absurd rfl h
  | some ws =>
    rw [hp] at h
    simp only [] at h ⊢
    cases hs : storeOk xs
    · rw [hs] at h; exact absurd rfl h
    · rw [hs, if_pos rfl] at h
      rw [if_pos rfl]
      cases ha : absW xs root (ws.map strL) with
      | none => rw [ha] at h; exact absurd rfl h
      | some T =>
        obtain ⟨k, c, es, nm, hk, hw, hnm, hf, hq, rfl⟩ := abs_at hs _ _ _ ha
        have hq' : firstOf (entsOf (textAt xs c)) nm = none := by rw [folder_first hf]; exact hq
        constructor
        · rw [walk_on hs hp]
          have e : ws.map strL = (ws.map strL).take k ++ nm :: (ws.map strL).drop (k + 1) := by
            rw [← drop_cons hnm, List.take_append_drop]
          rw [e, walk_cut hq' _ _ hw]
        · simp only [Option.getD_some]
          have hk' : k < ws.length := by simpa using hk
          have hl : (wayT xs root ((ws.map strL).take k)).length = k + 1 := by rw [wayT_len, List.length_take]; simp; omega
          unfold absRight
          rw [hp]
          simp only []
          rw [hl, way_last _ _ _ hw]
          have h1 : onWay root (ws.map strL) (wayT xs root ((ws.map strL).take k)) = true := by
            have e : ws.map strL = (ws.map strL).take k ++ (ws.map strL).drop k := (List.take_append_drop _ _).symm
            conv => lhs; arg 2; rw [e]
            exact onWay_take _ _ _ _ (by rw [wayT_len]; exact Nat.le_refl _) (way_right hs _ _ _ hw)
          rw [h1]
          have h2 : (ws.map strL).getD (k + 1 - 1) ByteArray.empty = nm := by rw [Nat.add_sub_cancel, List.getD_eq_getElem?_getD, hnm]; rfl
          rw [h2]
          have h3 : readFolder (bs (txA xs c)) = some es := by rw [bs_txA, folderAt_text]; exact hf
          rw [h3]
          unfold lastOff
          simp only [hq]
          simp; omega
theorem absProof_len {xs : List Pc} {root : Int} {path : List UInt8} : (absProof xs root path).length ≤ 4 := by
  unfold absProof
  split
  · rename_i ws hp
    split
    · rename_i hs
      cases ha : absW xs root (ws.map strL) with
      | none => simp
      | some T =>
        obtain ⟨k, c, es, nm, hk, _, _, _, _, rfl⟩ := abs_at hs _ _ _ ha
        simp only [Option.getD_some]
        rw [wayT_len, List.length_take]; have := (parts_small hp).2; omega
    · simp
  · simp
theorem absProof_small {xs : List Pc} {root : Int} {path : List UInt8} : ∀ t ∈ absProof xs root path, t.size ≤ 60 := by
  intro t ht
  unfold absProof at ht
  split at ht
  · rename_i ws hp
    split at ht
    · rename_i hs
      cases ha : absW xs root (ws.map strL) with
      | none => rw [ha] at ht; cases ht
      | some T =>
        rw [ha] at ht
        obtain ⟨k, c, es, nm, hk, _, _, _, _, rfl⟩ := abs_at hs _ _ _ ha
        exact wayT_small hs _ _ t ht
    · cases ht
  · cases ht

end Go.Proofs.YtachfmlfmpaddaaGreatDoor

/- What the laws on walks, reads and names say, in plain Lean. No program in sight. -/
namespace Go.Proofs.YtachfmlfmpaddaaGreatDoor
open Go.RowKit

theorem walkAt_neg {xs : List Pc} : ∀ (ws : List ByteArray) (pr n : Int), walkAt xs pr ws = (n, false) → n = -1
  | [], pr, n, h => by
    unfold walkAt at h
    split at h
    · simp at h
    · simp only [Prod.mk.injEq, and_true] at h; exact h.symm
  | nm :: r, pr, n, h => by
    cases hq : firstOf (entsOf (textAt xs pr)) nm with
    | none => rw [walk_no hq] at h; simp only [Prod.mk.injEq, and_true] at h; exact h.symm
    | some q => rw [walk_some hq] at h; exact walkAt_neg r q n h
theorem walkTo_neg {xs : List Pc} {root n : Int} {path : List UInt8} (h : walkTo xs root path = (n, false)) : n = -1 := by
  cases hs : storeOk xs
  · rw [walk_off (.inl hs)] at h; simp only [Prod.mk.injEq, and_true] at h; exact h.symm
  cases hp : pathParts path with
  | none => rw [walk_off (.inr hp)] at h; simp only [Prod.mk.injEq, and_true] at h; exact h.symm
  | some ws => rw [walk_on hs hp] at h; exact walkAt_neg _ _ _ h
theorem parts_root : pathParts [47] = some [] := rfl
theorem walkTo_root {xs : List Pc} {root : Int} (hs : storeOk xs = true) (hr : hasP xs root = true) : walkTo xs root [47] = (root, true) := by
  rw [walk_on hs parts_root]
  simp only [List.map_nil]
  unfold walkAt
  rw [if_pos hr]
theorem names_facts {xs : List Pc} {root : Int} {path : List UInt8} {L : List ByteArray} (h : namesAt xs root path = (L, true)) : L.length ≤ 3 ∧ (∀ x ∈ L, wordOk (bs x) = true) ∧ L.Pairwise (fun a b => ltN a b = true) ∧ (readAt xs root path).2 = false := by
  unfold namesAt at h
  split at h
  · rename_i hw
    simp only [Prod.mk.injEq] at h
    obtain ⟨h1, h2⟩ := h
    obtain ⟨es, hes⟩ := Option.isSome_iff_exists.1 h2
    rw [hes] at h1
    simp only [Option.getD_some] at h1
    have ho := folderAt_ok hes
    obtain ⟨k1, k2, k3⟩ := ents_iff.1 ho
    refine ⟨by rw [← h1, List.length_map]; exact k1, fun x hx => ?_, by rw [← h1, List.pairwise_map]; exact k3, ?_⟩
    · rw [← h1] at hx
      obtain ⟨e, he, rfl⟩ := List.mem_map.1 hx
      exact (entOk_iff.1 (k2 e he)).1
    · unfold readAt
      rw [if_pos hw]
      simp only
      cases hf : isFile (textAt xs (walkTo xs root path).1)
      · rfl
      · have := file_no_folder hf
        rw [folderAt_text, hes] at this
        cases this
  · simp at h
theorem names_off {xs : List Pc} {root : Int} {path : List UInt8} {L : List ByteArray} (h : namesAt xs root path = (L, false)) : L = [] := by
  unfold namesAt at h
  split at h
  · simp only [Prod.mk.injEq] at h
    rw [Option.isSome_eq_false_iff, Option.isNone_iff_eq_none] at h
    rw [h.2] at h
    exact h.1.symm
  · simp only [Prod.mk.injEq, and_true] at h; exact h.symm
theorem names_len {xs : List Pc} {root : Int} {path : List UInt8} : (namesAt xs root path).1.length ≤ 3 := by
  obtain ⟨⟨L, ok⟩, hR⟩ : ∃ R, namesAt xs root path = R := ⟨_, rfl⟩
  rw [hR]
  cases ok
  · rw [names_off hR]; simp
  · exact (names_facts hR).1

/-! ### Files with a name -/
def lastW (p word : ByteArray) : Bool := match pathParts (bs p) with | some ws => decide (ws.getLast? = some (bs word)) | none => false
noncomputable def filesNamed (xs : List Pc) (root : Int) (word : ByteArray) : List ByteArray := (allFiles xs root).filter fun p => lastW p word
theorem named_facts {xs : List Pc} {root : Int} {word p : ByteArray} (h : p ∈ filesNamed xs root word) : ∃ ws : List ByteArray, ws ≠ [] ∧ ws.length ≤ 3 ∧ pathParts (bs p) = some (ws.map bs) ∧ ws.getLast? = some word ∧ (readAt xs root (bs p)).2 = true := by
  obtain ⟨h1, h2⟩ := List.mem_filter.1 h
  obtain ⟨_, ws, h0, hl, hp, _, hr⟩ := among_read h1
  refine ⟨ws, h0, hl, hp, ?_, hr⟩
  unfold lastW at h2
  rw [hp] at h2
  simp only [List.getLast?_map, decide_eq_true_eq] at h2
  cases hg : ws.getLast? with
  | none => rw [hg] at h2; cases h2
  | some y =>
    rw [hg] at h2
    simp only [Option.map_some, Option.some.injEq] at h2
    have := congrArg strL h2
    rw [strL_bs, strL_bs] at this
    rw [this]
end Go.Proofs.YtachfmlfmpaddaaGreatDoor

/- What is there or not can be proved; swept and synced stores keep files: in plain Lean. No program in sight. -/
namespace Go.Proofs.YtachfmlfmpaddaaGreatDoor
open Go.RowKit

/-! ### FnProofOrAbsence -/
theorem abs_stop {xs : List Pc} : ∀ (ws : List ByteArray) (pr : Int) (T : List ByteArray), absW xs pr ws = some T → ∀ (j : Nat) (c : Int), walkAt xs pr (ws.take j) = (c, true) → (folderAt xs c).isSome = true
  | [], pr, T, h, j, c, hw => by cases h
  | nm :: r, pr, T, h, j, c, hw => by
    unfold absW at h
    cases hf : folderAt xs pr with
    | none => rw [hf] at h; cases h
    | some es =>
      rw [hf] at h
      simp only [] at h
      cases j with
      | zero =>
        rw [List.take_zero] at hw
        unfold walkAt at hw
        split at hw
        · simp only [Prod.mk.injEq, and_true] at hw
          rw [← hw, hf]; rfl
        · cases hw
      | succ j =>
        rw [List.take_succ_cons] at hw
        have e := folder_first hf
        cases hq : firstOf es nm with
        | none => rw [walk_no (by rw [e]; exact hq)] at hw; cases hw
        | some q =>
          rw [hq] at h
          simp only [Option.map_eq_some_iff] at h
          obtain ⟨T', h1, _⟩ := h
          rw [walk_some (by rw [e]; exact hq)] at hw
          exact abs_stop r q T' h1 j c hw
theorem piece_of {xs : List Pc} {pr : Int} (h : hasP xs pr = true) : ∃ x ∈ xs, x.print = pr ∧ getP xs pr = some x.text := by
  obtain ⟨t, ht⟩ := has_get h
  obtain ⟨k, x, hx, hp, rfl⟩ := getP_ex ht
  exact ⟨x, List.mem_of_getElem? hx, hp, ht⟩
theorem folder_named {xs : List Pc} {pr q : Int} {es : List Ent} {nm : ByteArray} (hf : folderAt xs pr = some es) (hq : firstOf es nm = some q) : q ∈ named xs := by
  obtain ⟨x, hx, hp, hg⟩ := piece_of (folder_hasP hf)
  refine named_mem.2 ⟨x, hx, ?_⟩
  have e := folder_first hf
  unfold textAt at e
  rw [hg] at e
  unfold prs
  have e' : entsOf (bs x.text) = es := e
  rw [e']
  exact List.mem_map.2 ⟨_, first_mem hq, rfl⟩
theorem there_or {xs : List Pc} (hm : ∀ y ∈ named xs, hasP xs y = true) : ∀ (ws : List ByteArray) (pr : Int), hasP xs pr = true → (walkAt xs pr ws).2 = true ∨ (absW xs pr ws).isSome = true ∨ ∃ k c, k < ws.length ∧ walkAt xs pr (ws.take k) = (c, true) ∧ folderAt xs c = none
  | [], pr, hp => .inl (by unfold walkAt; rw [if_pos hp])
  | nm :: r, pr, hp => by
    cases hf : folderAt xs pr with
    | none => exact .inr (.inr ⟨0, pr, by simp, by rw [List.take_zero]; unfold walkAt; rw [if_pos hp], hf⟩)
    | some es =>
      have e := folder_first hf
      cases hq : firstOf es nm with
      | none => exact .inr (.inl (by unfold absW; rw [hf]; simp [hq]))
      | some q =>
        have hqp := hm q (folder_named hf hq)
        rw [walk_some (by rw [e]; exact hq)]
        rcases there_or hm r q hqp with h | h | ⟨k, c, hk, h1, h2⟩
        · exact .inl h
        · exact .inr (.inl (by unfold absW; rw [hf]; simp only [hq]; rw [Option.isSome_map]; exact h))
        · exact .inr (.inr ⟨k + 1, c, by simpa using hk, by rw [List.take_succ_cons, walk_some (by rw [e]; exact hq)]; exact h1, h2⟩)
/-- Something that is no folder is on the way. -/
def StopAt (xs : List Pc) (root : Int) (ws : List ByteArray) : Prop := ∃ k c, k < ws.length ∧ walkAt xs root (ws.take k) = (c, true) ∧ folderAt xs c = none
theorem missing_none {xs : List Pc} (hs : storeOk xs = true) (h : missingOf xs = []) : ∀ y ∈ named xs, hasP xs y = true := by
  intro y hy
  cases hp : hasP xs y
  · have := (missing_mem hs).2 ⟨hy, hp⟩
    rw [h] at this; cases this
  · rfl
theorem lw_or {xs : List Pc} {root : Int} {path : List UInt8} {ws : List (List UInt8)} (hs : storeOk xs = true) (hp : pathParts path = some ws) (hr : hasP xs root = true) (hm : missingOf xs = []) :
    (pathProof xs root path ≠ [] ∨ absProof xs root path ≠ [] ∨ StopAt xs root (ws.map strL)) ∧ ¬ (pathProof xs root path ≠ [] ∧ absProof xs root path ≠ []) ∧ ¬ (absProof xs root path ≠ [] ∧ StopAt xs root (ws.map strL)) := by
  have e1 : pathProof xs root path ≠ [] ↔ (walkAt xs root (ws.map strL)).2 = true := by
    have := proof_pos (xs := xs) (root := root) (path := path)
    rw [walk_on hs hp] at this
    rw [this, decide_eq_true_eq]
    exact List.length_pos_iff.symm
  have e2 : absProof xs root path ≠ [] ↔ (absW xs root (ws.map strL)).isSome = true := by
    unfold absProof
    rw [hp]
    simp only []
    rw [if_pos hs]
    cases ha : absW xs root (ws.map strL) with
    | none => simp
    | some T =>
      obtain ⟨k, c, es, nm, _, _, _, _, _, rfl⟩ := abs_at hs _ _ _ ha
      simp [wayT_ne]
  refine ⟨?_, ?_, ?_⟩
  · rcases there_or (missing_none hs hm) (ws.map strL) root hr with h | h | h
    · exact .inl (e1.2 h)
    · exact .inr (.inl (e2.2 h))
    · exact .inr (.inr h)
  · rintro ⟨h1, h2⟩
    have h3 := (abs_facts h2).1
    rw [walk_on hs hp, e1.1 h1] at h3
    cases h3
  · rintro ⟨h1, k, c, hk, hw, hf⟩
    obtain ⟨T, hT⟩ := Option.isSome_iff_exists.1 (e2.1 h1)
    have := abs_stop _ _ _ hT k c hw
    rw [hf] at this; cases this

/-! ### What roots reach keeps its files -/
theorem walk_has0 {s : List Pc} {pr c : Int} : ∀ {ws : List ByteArray}, walkAt s pr ws = (c, true) → hasP s pr = true
  | [], h => by
    unfold walkAt at h
    split at h
    · assumption
    · cases h
  | nm :: r, h => by
    cases hq : firstOf (entsOf (textAt s pr)) nm with
    | none => rw [walk_no hq] at h; cases h
    | some q => exact first_has hq
theorem rch_child {s : List Pc} {roots : List Int} {pr q : Int} {nm : ByteArray} (h : Rch s roots pr) (hq : firstOf (entsOf (textAt s pr)) nm = some q) (hp : hasP s q = true) : Rch s roots q := by
  obtain ⟨x, hx, e, hg⟩ := piece_of (first_has hq)
  refine rch_step hx (by rw [e]; exact h) ?_ hp
  unfold prs
  have e' : entsOf (bs x.text) = entsOf (textAt s pr) := by unfold textAt; rw [hg]; rfl
  rw [e']
  exact List.mem_map.2 ⟨_, first_mem hq, rfl⟩
theorem rch_has {s : List Pc} {roots : List Int} {y : Int} (h : Rch s roots y) : hasP s y = true := h (fun y => hasP s y = true) ⟨fun _ _ h => h, fun _ _ _ _ _ h => h⟩
/-- All that roots reach is in the other store. -/
def KeepsR (s x : List Pc) (roots : List Int) : Prop := ∀ n t, Rch s roots n → getP s n = some t → getP x n = some t
theorem keepsR_text {s x : List Pc} {roots : List Int} (H : KeepsR s x roots) {pr : Int} (h : Rch s roots pr) : textAt x pr = textAt s pr ∧ hasP x pr = true := by
  obtain ⟨t, ht⟩ := has_get (rch_has h)
  have := H pr t h ht
  exact ⟨by unfold textAt; rw [ht, this], get_has this⟩
theorem walk_keepsR {s x : List Pc} {roots : List Int} (H : KeepsR s x roots) : ∀ (ws : List ByteArray) (pr c : Int), Rch s roots pr → walkAt s pr ws = (c, true) → walkAt x pr ws = (c, true) ∧ Rch s roots c
  | [], pr, c, h, hw => by
    unfold walkAt at hw ⊢
    split at hw
    · simp only [Prod.mk.injEq, and_true] at hw
      subst hw
      rw [if_pos (keepsR_text H h).2]
      exact ⟨rfl, h⟩
    · cases hw
  | nm :: r, pr, c, h, hw => by
    cases hq : firstOf (entsOf (textAt s pr)) nm with
    | none => rw [walk_no hq] at hw; cases hw
    | some q =>
      rw [walk_some hq] at hw
      rw [walk_some (by rw [(keepsR_text H h).1]; exact hq)]
      exact walk_keepsR H r q c (rch_child h hq (walk_has0 hw)) hw
theorem read_keepsR {s x : List Pc} {roots : List Int} (H : KeepsR s x roots) (hx : storeOk x = true) {root : Int} (hr : root ∈ roots) {path : List UInt8} (hf : (readAt s root path).2 = true) : readAt x root path = readAt s root path := by
  cases hs : storeOk s
  · have := walk_off (xs := s) (root := root) (path := path) (.inl hs)
    unfold readAt at hf
    rw [this] at hf
    simp at hf
  cases hp : pathParts path with
  | none =>
    have := walk_off (xs := s) (root := root) (path := path) (.inr hp)
    unfold readAt at hf
    rw [this] at hf
    simp at hf
  | some ws =>
    have hw := walk_on (root := root) hs hp
    have hw' := walk_on (root := root) hx hp
    unfold readAt at hf ⊢
    rw [hw] at hf ⊢
    rw [hw']
    obtain ⟨⟨c, ok⟩, hR⟩ : ∃ R, walkAt s root (ws.map strL) = R := ⟨_, rfl⟩
    rw [hR] at hf ⊢
    cases ok
    · simp at hf
    · obtain ⟨h1, h2⟩ := walk_keepsR H _ _ _ (rch_root hr (walk_has0 hR)) hR
      rw [h1]
      simp only [if_true]
      rw [(keepsR_text H h2).1]
theorem keeps_r {s x : List Pc} {roots : List Int} {root : Int} (H : KeepsR s x roots) (hx : storeOk x = true) (hr : root ∈ roots) : Keeps s x root := by
  intro p hp
  obtain ⟨_, _, _, _, _, _, hf⟩ := among_read hp
  rw [read_keepsR H hx hr hf]
  exact ⟨hf, rfl⟩

/-! ### FnSweepStore -/
theorem sweep_ok {s : List Pc} {roots : List Int} (hs : storeOk s = true) : storeOk (sweepOf s roots) = true := by
  rw [sweepOf_on hs]
  obtain ⟨h1, h2, h3⟩ := st_iff.1 hs
  exact st_iff.2 ⟨Nat.le_trans (List.length_filter_le _ _) h1, fun x hx => h2 x ((List.mem_filter.1 hx).1), h3.filter _⟩
theorem sweep_keeps {s : List Pc} {roots : List Int} (hs : storeOk s = true) : KeepsR s (sweepOf s roots) roots := by
  intro n t hr hg
  refine (getP_iff (sweep_ok hs)).2 ?_
  rw [sweepOf_on hs, List.mem_filter]
  exact ⟨(getP_iff hs).1 hg, inR_iff.2 hr⟩
theorem sweep_twice {s : List Pc} {roots : List Int} (hs : storeOk s = true) : sweepOf (sweepOf s roots) roots = sweepOf s roots := by
  have hx := sweep_ok (roots := roots) hs
  rw [sweepOf_on hx]
  rw [List.filter_eq_self]
  intro p hp
  have hp' := hp
  rw [sweepOf_on hs, List.mem_filter] at hp'
  obtain ⟨hps, hpr⟩ := hp'
  refine inR_iff.2 ?_
  have hR := inR_iff.1 hpr
  have HK := sweep_keeps (roots := roots) hs
  have key : ∀ y, Rch s roots y → (Rch s roots y ∧ Rch (sweepOf s roots) roots y) := by
    intro y hy
    refine hy (fun y => Rch s roots y ∧ Rch (sweepOf s roots) roots y) ⟨fun z hz hzp => ?_, fun x hxs hxr z hz hzp => ?_⟩
    · have h1 := rch_root hz hzp
      exact ⟨h1, rch_root hz (keepsR_text HK h1).2⟩
    · obtain ⟨h1, h2⟩ := hxr
      have h3 := rch_step hxs h1 hz hzp
      refine ⟨h3, rch_step (x := x) ?_ h2 hz (keepsR_text HK h3).2⟩
      rw [sweepOf_on hs, List.mem_filter]
      exact ⟨hxs, inR_iff.2 h1⟩
  exact (key _ hR).2

/-! ### FnSyncRoot -/
theorem take_all_in {ps : List Int} : ∀ (ts : List ByteArray) (s : List Pc × Nat), storeOk s.1 = true → (ts.foldl (takeStep ps) s).2 = s.2 → ∀ t ∈ ts, getP (ts.foldl (takeStep ps) s).1 (printOf (bs t)) = some t
  | [], s, h, e, t, ht => by cases ht
  | u :: r, s, h, e, t, ht => by
    rw [List.foldl_cons] at e ⊢
    obtain ⟨i1, i2, _, i4, _, _⟩ := take_get (ps := ps) r (takeStep ps s u) (takeStep_ok h)
    by_cases hc : ((putS s.1 u).2.2 && hasI ps (putS s.1 u).2.1) = true
    · have e1 : takeStep ps s u = ((putS s.1 u).1, s.2) := by unfold takeStep; rw [if_pos hc]
      rcases List.mem_cons.1 ht with rfl | ht
      · refine i2 _ _ ?_
        rw [e1]
        exact ((put_get h (Bool.and_eq_true_iff.1 hc).1).2.2.2 _ _).2 (.inr ⟨rfl, rfl⟩)
      · refine take_all_in r _ (takeStep_ok h) ?_ t ht
        rw [e, e1]
    · have e1 : takeStep ps s u = (s.1, s.2 + 1) := by unfold takeStep; rw [if_neg hc]
      rw [e1] at i4 e
      simp only [] at i4
      omega
theorem reach_mem {l : List Pc} {roots : List Int} {y : Int} (h : storeOk l = true) (hr : Rch l roots y) : y ∈ reachOf l roots := by
  rw [reachOf_on h]
  obtain ⟨x, hx, e, _⟩ := piece_of (rch_has hr)
  exact List.mem_map.2 ⟨x, List.mem_filter.2 ⟨hx, inR_iff.2 (by rw [e]; exact hr)⟩, e⟩
theorem mem_reach {l : List Pc} {roots : List Int} {y : Int} (h : storeOk l = true) (hr : y ∈ reachOf l roots) : Rch l roots y := by
  rw [reachOf_on h] at hr
  obtain ⟨x, hx, rfl⟩ := List.mem_map.1 hr
  exact inR_iff.1 (List.mem_filter.1 hx).2
/-- Two stores have two different texts with the same print. -/
def Clash (a b : List Pc) : Prop := ∃ x ∈ a, ∃ y ∈ b, x.print = y.print ∧ x.text ≠ y.text
theorem lw_sync {tt fr : List Pc} {root : Int} (ht : storeOk tt = true) (hf : storeOk fr = true) : ∃ (X : List Pc) (many : Nat), syncOf tt fr root = (X, (many : Int)) ∧ storeOk X = true ∧ X.length ≤ tt.length + many ∧
    (X.length = tt.length + many → ¬ Clash tt fr → (syncOf X fr root).2 = 0 ∧ Keeps fr X root) := by
  obtain ⟨X, b, e, hX, hle, _, hb, hlen⟩ := lw_take ht (wantedOf tt (reachOf fr [root])) (sendTexts fr (wantedOf tt (reachOf fr [root])))
  refine ⟨X, (sendTexts fr (wantedOf tt (reachOf fr [root]))).length, ?_, hX, by omega, ?_⟩
  · unfold syncOf
    rw [if_pos ⟨ht, hf⟩, e]
  intro hfull hcl
  have e2 : (takeFrom tt (wantedOf tt (reachOf fr [root])) (sendTexts fr (wantedOf tt (reachOf fr [root])))).1 = X ∧ (takeFrom tt (wantedOf tt (reachOf fr [root])) (sendTexts fr (wantedOf tt (reachOf fr [root])))).2 = 0 := by
    unfold takeTexts at e
    rw [if_pos ht] at e
    simp only [Prod.mk.injEq] at e
    exact ⟨e.1, by omega⟩
  have hall : ∀ t ∈ sendTexts fr (wantedOf tt (reachOf fr [root])), getP X (printOf (bs t)) = some t := by
    rw [← e2.1]
    exact take_all_in _ (tt, 0) ht e2.2
  have HK : KeepsR fr X [root] := by
    intro n t hr hg
    cases hp : hasP tt n
    · have hw : n ∈ wantedOf tt (reachOf fr [root]) := (wantedOf_mem ht).2 ⟨reach_mem hf hr, hp⟩
      have hst : t ∈ sendTexts fr (wantedOf tt (reachOf fr [root])) := by
        rw [sendTexts_on hf]
        exact List.mem_filterMap.2 ⟨n, hw, hg⟩
      have := hall t hst
      rwa [(getP_text hf hg).2.1] at this
    · obtain ⟨u, hu⟩ := has_get hp
      by_cases hut : u = t
      · rw [← hut]; exact hle _ _ hu
      · exfalso
        exact hcl ⟨⟨n, u⟩, (getP_iff ht).1 hu, ⟨n, t⟩, (getP_iff hf).1 hg, rfl, hut⟩
  refine ⟨?_, keeps_r HK hX (by simp)⟩
  have hw0 : wantedOf X (reachOf fr [root]) = [] := by
    rw [List.eq_nil_iff_forall_not_mem]
    intro y hy
    obtain ⟨h1, h2⟩ := (wantedOf_mem hX).1 hy
    have := (keepsR_text HK (mem_reach hf h1)).2
    rw [h2] at this; cases this
  unfold syncOf
  rw [if_pos ⟨hX, hf⟩, hw0, sendTexts_on hf]; rfl

end Go.Proofs.YtachfmlfmpaddaaGreatDoor

/- Walks: drawn places in drawn stores. -/
namespace Go.Proofs.YtachfmlfmpaddaaGreatDoor
open Go.RowKit

set_option maxHeartbeats 2000000 in
set_option maxRecDepth 100000 in
theorem spec_DrawWalkTo_c (v : Value) (l : List Int) (w : World) (h : Rd encU 1 w w.heap.size v l) (hl : ∀ x ∈ l, 0 ≤ x ∧ x ≤ 255) :
    Calls Tryz.prog 56 #[v] w (WhereB w) := by
  go_enter Tryz.func56, Tryz.ntmps56
  go_wp2_with fail
  refine (spec_l20Where_c v l w h hl).mono ?_
  rintro e w1 ⟨u, xs, root, path, rfl, o, hd, hp, b⟩
  go_wp2
  go_ret3
  exact ⟨_, xs, root, path, rfl, o, hd, hp, b⟩

set_option maxHeartbeats 2000000 in
set_option maxRecDepth 100000 in
theorem spec_DrawReadAt_c (v : Value) (l : List Int) (w : World) (h : Rd encU 1 w w.heap.size v l) (hl : ∀ x ∈ l, 0 ≤ x ∧ x ≤ 255) :
    Calls Tryz.prog 59 #[v] w (WhereB w) := by
  go_enter Tryz.func59, Tryz.ntmps59
  go_wp2_with fail
  refine (spec_l20Where_c v l w h hl).mono ?_
  rintro e w1 ⟨u, xs, root, path, rfl, o, hd, hp, b⟩
  go_wp2
  go_ret3
  exact ⟨_, xs, root, path, rfl, o, hd, hp, b⟩

set_option maxHeartbeats 2000000 in
set_option maxRecDepth 100000 in
theorem spec_DrawNamesAt_c (v : Value) (l : List Int) (w : World) (h : Rd encU 1 w w.heap.size v l) (hl : ∀ x ∈ l, 0 ≤ x ∧ x ≤ 255) :
    Calls Tryz.prog 61 #[v] w (WhereB w) := by
  go_enter Tryz.func61, Tryz.ntmps61
  go_wp2_with fail
  refine (spec_l20Where_c v l w h hl).mono ?_
  rintro e w1 ⟨u, xs, root, path, rfl, o, hd, hp, b⟩
  go_wp2
  go_ret3
  exact ⟨_, xs, root, path, rfl, o, hd, hp, b⟩

set_option maxHeartbeats 2000000 in
set_option maxRecDepth 100000 in
theorem spec_DrawPathProof_c (v : Value) (l : List Int) (w : World) (h : Rd encU 1 w w.heap.size v l) (hl : ∀ x ∈ l, 0 ≤ x ∧ x ≤ 255) :
    Calls Tryz.prog 17 #[v] w (WhereB w) := by
  go_enter Tryz.func17, Tryz.ntmps17
  go_wp2_with fail
  refine (spec_l20Where_c v l w h hl).mono ?_
  rintro e w1 ⟨u, xs, root, path, rfl, o, hd, hp, b⟩
  go_wp2
  go_ret3
  exact ⟨_, xs, root, path, rfl, o, hd, hp, b⟩

set_option maxHeartbeats 2000000 in
set_option maxRecDepth 100000 in
theorem spec_DrawAbsenceProof_c (v : Value) (l : List Int) (w : World) (h : Rd encU 1 w w.heap.size v l) (hl : ∀ x ∈ l, 0 ≤ x ∧ x ≤ 255) :
    Calls Tryz.prog 26 #[v] w (WhereB w) := by
  go_enter Tryz.func26, Tryz.ntmps26
  go_wp2_with fail
  refine (spec_l20Where_c v l w h hl).mono ?_
  rintro e w1 ⟨u, xs, root, path, rfl, o, hd, hp, b⟩
  go_wp2
  go_ret3
  exact ⟨_, xs, root, path, rfl, o, hd, hp, b⟩

def RootedB (w : World) (e : Ending) (w' : World) : Prop := ∃ (v : Value) (xs : List Pc) (root : Int), e = .returned (.tuple #[v, .int .i64 root]) ∧ OwnP w' w.heap.size v xs ∧ DrawnH xs ∧ Below w.heap.size w w'

set_option maxHeartbeats 2000000 in
set_option maxRecDepth 100000 in
theorem spec_l20Rooted_c (v : Value) (l : List Int) (w : World) (h : Rd encU 1 w w.heap.size v l) (hl : ∀ x ∈ l, 0 ≤ x ∧ x ≤ 255) :
    Calls Tryz.prog 81 #[v] w (RootedB w) := by
  go_enter Tryz.func81, Tryz.ntmps81
  go_wp2_with fail
  refine (spec_l20Where_c v l w h hl).mono ?_
  rintro e w1 ⟨u, xs, root, path, rfl, o, hd, hp, b⟩
  go_wp2
  go_ret2
  exact ⟨_, xs, root, rfl, o, hd, b⟩


end Go.Proofs.YtachfmlfmpaddaaGreatDoor

/- Walks: the laws on walks, on reads and on proofs. -/
namespace Go.Proofs.YtachfmlfmpaddaaGreatDoor
open Go.RowKit

theorem spec_ReadAt_e (v : Value) (xs : List Pc) (root : Int) (path : ByteArray) (w : World) (C : List UInt8) (ok : Bool) (hR : readAt xs root (bs path) = (C, ok)) (h : Pcs w w.heap.size v xs) (hx0 : ∀ x ∈ xs, x.text.size ≤ 1048576) (hl0 : xs.length ≤ 1048576) (hp0 : path.size ≤ 900) :
    Calls Tryz.prog 60 #[v, .int .i64 root, .string path] w fun e w' => e = .returned (.tuple #[.string (strL C), .bool ok]) ∧ Below w.heap.size w w' := by
  have := spec_ReadAt_c v xs root path w h hx0 hl0 hp0
  rw [hR] at this
  exact this

set_option maxHeartbeats 2000000 in
set_option maxRecDepth 100000 in
theorem laws_FnWalkTo_c (v : Value) (l : List Int) (w : World) (h : Rd encU 1 w w.heap.size v l) (hl : ∀ x ∈ l, 0 ≤ x ∧ x ≤ 255) (hg : Glob w) (hm : Mx w) :
    Calls Tryz.prog 13 #[v] w fun e w' => e = .returned (.bool true) ∧ Below w.heap.size w w' := by
  obtain ⟨n0, hn0⟩ : ∃ n, l.length = n := ⟨_, rfl⟩
  obtain ⟨a, c, rfl, _, _, _⟩ := Rd.openN h (fun _ => rfl) hn0
  have HG0 := hid hg
  have HM0 := hid hm
  clear hg hm
  by_cases hbig : 1048576 < n0
  · go_enter Tryz.func13, Tryz.ntmps13
    go_wp2
    go_ret
    exact ⟨rfl, Below.refl _ _⟩
  go_enter Tryz.func13, Tryz.ntmps13
  go_wp2_with fail
  refine (spec_DrawWalkTo_c _ l w h hl).mono ?_
  rintro e w1 ⟨sv, xs, root, path, rfl, o1, hd, hps, b1⟩
  have HP : Hid (∀ wx, Below w1.heap.size w1 wx → Pcs wx wx.heap.size sv xs) := hid fun wx hx => (Rd.of_own o1).on hx
  have HG : Hid (∀ wx, Below w1.heap.size w1 wx → Glob wx) := hid fun wx hx => (HG0.out.on b1).on hx
  have HM : Hid (∀ wx, Below w1.heap.size w1 wx → Mx wx) := hid fun wx hx => (HM0.out.on b1).on hx
  have HD := hid hd
  have r0 : Below w1.heap.size w1 w1 := Below.refl _ _
  obtain ⟨⟨n, ok⟩, hR⟩ : ∃ R, walkTo xs root (bs path) = R := ⟨_, rfl⟩
  have HR := hid hR
  clear h hl hn0 o1 hd hR
  go_wp2_with fail
  refine (impl_WalkTo_c _ xs root path _ _ HR.out (HP.out _ r0) (by omega) (HG.out _ r0) (HM.out _ r0)).mono ?_
  rintro e w2 ⟨rfl, b2⟩
  go_wp2_with fail
  refine (spec_WalkTo_c _ xs root path _ _ HR.out (HP.out _ b2) HD.out.sizes2.1 HD.out.sizes2.2 (by omega)).mono ?_
  rintro e w3 ⟨rfl, b3⟩
  have d3 := bl_then b2 b3
  have d13 := bl_then b1 d3
  cases ok
  · obtain rfl := walkTo_neg HR.out
    go_wp2_with (go_at_call 21; refine (laws_alive_c _).mono ?_; rintro e w7 ⟨rfl, rfl⟩)
    go_ret
    exact ⟨rfl, d13⟩
  · obtain ⟨hs, hn, hr, _⟩ := walkTo_pos HR.out
    have HT := hid (show (getText xs n).2 = true by rw [getText_on hs]; exact hn)
    have HW := hid (walkTo_root hs hr)
    obtain ⟨⟨tx, tk⟩, hT⟩ : ∃ T, getText xs n = T := ⟨_, rfl⟩
    have HTT := hid hT
    obtain rfl : tk = true := by have := HT.out; rw [hT] at this; exact this
    clear hs hn hr hT HT
    go_wp2_with fail
    refine (impl_GetText_c _ xs n _ (HP.out _ d3)).mono ?_
    rw [HTT.out]
    rintro e w4 ⟨rfl, b4⟩
    have d4 := bl_then d3 b4
    go_wp2_with fail
    refine (impl_WalkTo_c _ xs root ⟨#[47]⟩ _ _ HW.out (HP.out _ d4) (by decide) (HG.out _ d4) (HM.out _ d4)).mono ?_
    rintro e w5 ⟨rfl, b5⟩
    have d5 := bl_then b1 (bl_then d4 b5)
    go_wp2
    go_ret
    exact ⟨rfl, d5⟩

set_option maxHeartbeats 2000000 in
set_option maxRecDepth 100000 in
theorem laws_FnReadAt_c (v : Value) (l : List Int) (w : World) (h : Rd encU 1 w w.heap.size v l) (hl : ∀ x ∈ l, 0 ≤ x ∧ x ≤ 255) (hg : Glob w) (hm : Mx w) :
    Calls Tryz.prog 14 #[v] w fun e w' => e = .returned (.bool true) ∧ Below w.heap.size w w' := by
  obtain ⟨n0, hn0⟩ : ∃ n, l.length = n := ⟨_, rfl⟩
  obtain ⟨a, c, rfl, _, _, _⟩ := Rd.openN h (fun _ => rfl) hn0
  have HG0 := hid hg
  have HM0 := hid hm
  clear hg hm
  by_cases hbig : 1048576 < n0
  · go_enter Tryz.func14, Tryz.ntmps14
    go_wp2
    go_ret
    exact ⟨rfl, Below.refl _ _⟩
  go_enter Tryz.func14, Tryz.ntmps14
  go_wp2_with fail
  refine (spec_DrawReadAt_c _ l w h hl).mono ?_
  rintro e w1 ⟨sv, xs, root, path, rfl, o1, hd, hps, b1⟩
  have HP : Hid (∀ wx, Below w1.heap.size w1 wx → Pcs wx wx.heap.size sv xs) := hid fun wx hx => (Rd.of_own o1).on hx
  have HG : Hid (∀ wx, Below w1.heap.size w1 wx → Glob wx) := hid fun wx hx => (HG0.out.on b1).on hx
  have HM : Hid (∀ wx, Below w1.heap.size w1 wx → Mx wx) := hid fun wx hx => (HM0.out.on b1).on hx
  have HD := hid hd
  have r0 : Below w1.heap.size w1 w1 := Below.refl _ _
  obtain ⟨⟨C, ok⟩, hR⟩ : ∃ R, readAt xs root (bs path) = R := ⟨_, rfl⟩
  have HR := hid hR
  clear h hl hn0 o1 hd hR
  go_wp2_with fail
  refine (impl_ReadAt_e _ xs root path _ _ _ HR.out (HP.out _ r0) (by omega) (HG.out _ r0) (HM.out _ r0)).mono ?_
  rintro e w2 ⟨rfl, b2⟩
  go_wp2_with fail
  refine (spec_ReadAt_e _ xs root path _ _ _ HR.out (HP.out _ b2) HD.out.sizes2.1 HD.out.sizes2.2 (by omega)).mono ?_
  rintro e w3 ⟨rfl, b3⟩
  have d3 := bl_then b2 b3
  have d13 := bl_then b1 d3
  cases ok
  · obtain rfl := read_neg HR.out
    have hnil : (strL []).toList = [] := by rw [ByteArray.toList_eq]; rfl
    go_wp2_with (go_at_call 21; refine (laws_alive_c _).mono ?_; rintro e w7 ⟨rfl, rfl⟩)
    go_ret
    exact ⟨rfl, d13⟩
  · obtain ⟨n, hw, hf, hs, hn⟩ := read_pos HR.out
    have HW := hid hw
    have HC := hid (show (strL C).size ≤ 1000000 by rw [strL_size]; have := read_small HR.out; omega)
    have HT := hid (show getText xs n = (strL (fileText C), true) by rw [getText_on hs, hn, hf]; unfold textAt; rw [strL_bs])
    clear hw hf hs hn
    go_wp2_with fail
    refine (impl_WalkTo_c _ xs root path _ _ HW.out (HP.out _ d3) (by omega) (HG.out _ d3) (HM.out _ d3)).mono ?_
    rintro e w4 ⟨rfl, b4⟩
    have d4 := bl_then d3 b4
    go_wp2_with fail
    refine (impl_GetText_c _ xs n _ (HP.out _ d4)).mono ?_
    rw [HT.out]
    rintro e w5 ⟨rfl, b5⟩
    have d5 := bl_then b1 (bl_then d4 b5)
    go_wp2_with (go_at_call 33; refine (impl_FileText_c _ _ HC.out).mono ?_; rw [bs_strL]; rintro e w7 ⟨rfl, rfl⟩)
    go_ret
    exact ⟨rfl, d5⟩

end Go.Proofs.YtachfmlfmpaddaaGreatDoor
