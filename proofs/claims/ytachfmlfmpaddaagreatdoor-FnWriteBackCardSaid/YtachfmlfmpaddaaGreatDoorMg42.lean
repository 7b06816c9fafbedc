/- Walks and plain facts, joined: WrJ. -/
import Derived.Test.YtachfmlfmpaddaaGreatDoorMg39
set_option linter.unusedVariables false
set_option linter.unusedSimpArgs false

/- Walks: writes and drops, the program's way. -/
namespace Go.Proofs.YtachfmlfmpaddaaGreatDoor
open Go.RowKit

theorem zip_take {α β : Type} : ∀ (j : Nat) (a : List α) (b : List β), (a.zip b).take j = (a.take j).zip (b.take j)
  | 0, a, b => by simp
  | j + 1, [], b => by simp
  | j + 1, x :: a, [] => by simp
  | j + 1, x :: a, y :: b => by simp only [List.zip_cons_cons, List.take_succ_cons, zip_take j a b]
theorem wayD_zip (xs : List Pc) : ∀ (parts : List ByteArray) (pr : Int), wayD xs pr parts = ((wayD xs pr parts).map (·.1)).zip parts
  | [], pr => rfl
  | nm :: r, pr => by
    unfold wayD
    rw [List.map_cons, List.zip_cons_cons, ← wayD_zip xs r]
def isTupP (W0 : World) (Y : Option (List Pc × Int)) : Value → World → Prop := fun v w => ∃ lv, v = .tuple #[lv, .int .i64 ((Y.map (·.2)).getD (-1)), .bool Y.isSome] ∧ Pcs w w.heap.size lv ((Y.map (·.1)).getD [])
def isPcsY (W0 : World) (Y : Option (List Pc × Int)) : Value → World → Prop := fun v w => Pcs w w.heap.size v ((Y.map (·.1)).getD [])
theorem foldW_none {xs : List Pc} {root : Int} {ws : List ByteArray} {c : List UInt8} (h : foldW xs root ws = none) : writeTo xs root ws c = none := by
  unfold foldW at h
  unfold writeTo
  split at h
  · rename_i F z hw
    rw [hw]
    simp only []
    cases hl : leafOk xs z
    · rw [if_pos rfl]
    · rw [if_pos hl] at h; cases h
  · rename_i hw; rw [hw]
theorem foldW_some {xs : List Pc} {root : Int} {ws : List ByteArray} {F : List (List Ent)} (h : foldW xs root ws = some F) : ∃ z, wayW xs (some root) ws = some (F, z) ∧ leafOk xs z = true := by
  unfold foldW at h
  split at h
  · rename_i F' z hw
    cases hl : leafOk xs z
    · rw [if_neg (by rw [hl]; simp)] at h; cases h
    · rw [if_pos hl] at h
      obtain rfl := Option.some.inj h
      exact ⟨z, hw, hl⟩
  · cases h

set_option maxHeartbeats 2000000 in
set_option maxRecDepth 100000 in
theorem impl_WriteAt_c (v : Value) (xs : List Pc) (root : Int) (path content : ByteArray) (w : World) (R : List Pc × Int × Bool) (hR : writeAt xs root (bs path) (bs content) = R) (h : Pcs w w.heap.size v xs) (hp0 : path.size ≤ 1000) (hc0 : content.size ≤ 1000000) (hg : Glob w) (hm : Mx w) :
    Calls Tryz.prog 44 #[v, .int .i64 root, .string path, .string content] w (SetPost w R) := by
  unfold SetPost
  have HP : Hid (∀ wx, Below w.heap.size w wx → Pcs wx wx.heap.size v xs) := hid fun wx hx => h.on hx
  have HG : Hid (∀ wx, Below w.heap.size w wx → Glob wx) := hid fun wx hx => hg.on hx
  have HM : Hid (∀ wx, Below w.heap.size w wx → Mx wx) := hid fun wx hx => hm.on hx
  have r0 : Below w.heap.size w w := Below.refl _ _
  have HR := hid hR
  obtain ⟨P, hPP⟩ : ∃ P, pathParts (bs path) = P := ⟨_, rfl⟩
  have HPA := hid hPP
  clear h hg hm hR hPP
  cases P with
  | none =>
    obtain rfl : R = ([], -1, false) := by rw [← HR.out]; exact write_off (.inr (.inl HPA.out))
    go_enter Tryz.func44, Tryz.ntmps44
    go_wp2_with fail
    refine (impl_PathParts_c path _ hp0 (HM.out _ r0)).mono ?_
    rw [HPA.out]
    rintro e w1 ⟨pv, rfl, o1, b1⟩
    clear o1
    go_wp2
    go_ret3
    exact ⟨_, rfl, Rd.nil _ _ _ 0 none (Nat.zero_le _), b1⟩
  | some ws =>
  obtain ⟨parts, hpts⟩ : ∃ parts, ws.map strL = parts := ⟨_, rfl⟩
  have HPT := hid hpts
  obtain ⟨m, hml⟩ : ∃ m, parts.length = m := ⟨_, rfl⟩
  have HML := hid hml
  have hm3 : m ≤ 3 := by rw [← hml, ← hpts]; exact (parts_small HPA.out).2
  have HSM := hid (show ∀ x ∈ parts, x.size ≤ 1048576 from fun x hx => by rw [← hpts] at hx; have := (parts_small HPA.out).1 x hx; omega)
  have HWM := hid (show ws.length = m by rw [← hml, ← hpts]; simp)
  clear hml hpts
  by_cases hm0 : m = 0
  · obtain rfl : R = ([], -1, false) := by rw [← HR.out]; exact write_off (.inr (.inr (.inl (by rw [HPA.out, List.eq_nil_of_length_eq_zero (HWM.out.trans hm0)]))))
    subst hm0
    go_enter Tryz.func44, Tryz.ntmps44
    go_wp2_with fail
    refine (impl_PathParts_c path _ hp0 (HM.out _ r0)).mono ?_
    rw [HPA.out]
    rintro e w1 ⟨pv, rfl, o1, b1⟩
    have r1 : Strs w1 w1.heap.size pv parts := by have := Rd.of_own o1; rw [Option.getD_some, HPT.out] at this; exact this
    obtain ⟨pa, pc, rfl, _, _, _⟩ := r1.strs HML.out
    clear o1 r1
    go_wp2
    go_ret3
    exact ⟨_, rfl, Rd.nil _ _ _ 0 none (Nat.zero_le _), b1⟩
  have hmp : ((m : Int) == 0) = false := by simp; omega
  obtain ⟨ck, hck⟩ : ∃ ck, contOk (bs content) = ck := ⟨_, rfl⟩
  obtain ⟨sk, hsk⟩ : ∃ sk, storeOk xs = sk := ⟨_, rfl⟩
  have HCK := hid hck
  have HSK := hid hsk
  clear hck hsk
  cases ck
  · obtain rfl : R = ([], -1, false) := by rw [← HR.out]; exact write_off (.inr (.inr (.inr HCK.out)))
    go_enter Tryz.func44, Tryz.ntmps44
    go_wp2_with fail
    refine (impl_PathParts_c path _ hp0 (HM.out _ r0)).mono ?_
    rw [HPA.out]
    rintro e w1 ⟨pv, rfl, o1, b1⟩
    have r1 : Strs w1 w1.heap.size pv parts := by have := Rd.of_own o1; rw [Option.getD_some, HPT.out] at this; exact this
    obtain ⟨pa, pc, rfl, _, _, _⟩ := r1.strs HML.out
    clear o1 r1
    go_wp2_with fail
    refine (impl_ContentValid_c content _ hc0).mono ?_
    rw [HCK.out]
    rintro e w2 ⟨rfl, rfl⟩
    go_wp2
    go_ret3
    exact ⟨_, rfl, Rd.nil _ _ _ 0 none (Nat.zero_le _), b1⟩
  cases sk
  · obtain rfl : R = ([], -1, false) := by rw [← HR.out]; exact write_off (.inl HSK.out)
    go_enter Tryz.func44, Tryz.ntmps44
    go_wp2_with fail
    refine (impl_PathParts_c path _ hp0 (HM.out _ r0)).mono ?_
    rw [HPA.out]
    rintro e w1 ⟨pv, rfl, o1, b1⟩
    have r1 : Strs w1 w1.heap.size pv parts := by have := Rd.of_own o1; rw [Option.getD_some, HPT.out] at this; exact this
    obtain ⟨pa, pc, rfl, _, _, _⟩ := r1.strs HML.out
    clear o1 r1
    go_wp2_with fail
    refine (impl_ContentValid_c content _ hc0).mono ?_
    rw [HCK.out]
    rintro e w2 ⟨rfl, rfl⟩
    go_wp2_with fail
    refine (impl_StoreValid_c _ xs _ (HP.out _ b1)).mono ?_
    rw [HSK.out]
    rintro e w3 ⟨rfl, b3⟩
    have d3 := bl_then b1 b3
    go_wp2
    go_ret3
    exact ⟨_, rfl, Rd.nil _ _ _ 0 none (Nat.zero_le _), d3⟩
  have HL := hid (show xs.length ≤ 1000000 by have := (st_in HSK.out).1; omega)
  have HWE := hid (show (match writeTo xs root parts (bs content) with | none => (xs, root, false) | some (s', p) => (s', p, true)) = R by
    rw [← HR.out, writeAt_eq HSK.out HPA.out (fun e => by have := HWM.out; rw [e] at this; simp at this; omega) HCK.out, HPT.out]
    rcases writeTo xs root parts (bs content) with _ | ⟨s', p⟩ <;> rfl)
  have HLP := hid (show parts.length ≤ 1000 by rw [HML.out]; omega)
  obtain ⟨X, hX⟩ : ∃ X, foldW xs root parts = X := ⟨_, rfl⟩
  have HX := hid hX
  clear HR hX
  go_enter Tryz.func44, Tryz.ntmps44
  go_wp2_with fail
  refine (impl_PathParts_c path _ hp0 (HM.out _ r0)).mono ?_
  rw [HPA.out]
  rintro e w1 ⟨pv, rfl, o1, b1⟩
  have r1 : Strs w1 w1.heap.size pv parts := by have := Rd.of_own o1; rw [Option.getD_some, HPT.out] at this; exact this
  have R1 := hid r1
  obtain ⟨pa, pc, rfl, _, _, _⟩ := r1.strs HML.out
  clear o1 r1
  go_wp2_with fail
  refine (impl_ContentValid_c content _ hc0).mono ?_
  rw [HCK.out]
  rintro e w2 ⟨rfl, rfl⟩
  go_wp2_with fail
  refine (impl_StoreValid_c _ xs _ (HP.out _ b1)).mono ?_
  rw [HSK.out]
  rintro e w3 ⟨rfl, b3⟩
  have d3 := bl_then b1 b3
  have R3 := hid (R1.out.on b3)
  clear b1 b3 R1
  go_wp2_with fail
  refine (impl_foldersToWrite_c _ _ xs root parts _ X HX.out (HP.out _ d3) HSK.out R3.out HLP.out (HG.out _ d3)).mono ?_
  rintro e w4 ⟨fv, rfl, o4, b4⟩
  have d4 := bl_then d3 b4
  have R4 := hid (R3.out.on b4)
  clear b4 R3 d3
  cases X with
  | none =>
    obtain rfl : R = (xs, root, false) := by rw [← HWE.out, foldW_none HX.out]
    clear o4
    go_wp2_with fail
    refine (cloneP_c _ xs _ (HP.out _ d4) HL.out).mono ?_
    rintro e w5 ⟨u5, rfl, o5, b5⟩
    have d5 := bl_then d4 b5
    go_wp2
    go_ret3
    exact ⟨_, rfl, Rd.of_own o5, d5⟩
  | some F =>
  obtain ⟨z, hway, hlf⟩ := foldW_some HX.out
  have HWT := hid (writeTo_at (content := bs content) HSK.out hway hlf)
  have HFL := hid (show F.length ≤ parts.length by rw [way_len _ _ _ _ _ hway]; exact Nat.le_refl _)
  have FR4 := hid (show Folds w4 w4.heap.size fv F from o4.rd)
  obtain ⟨pt, hpt⟩ : ∃ pt, putS xs (strL (fileText (bs content))) = pt := ⟨_, rfl⟩
  have HPUT := hid hpt
  clear hway hlf o4 hpt
  go_wp2_with fail
  refine (impl_FileText_c content _ hc0).mono ?_
  rintro e w5 ⟨rfl, rfl⟩
  go_wp2_with fail
  refine (impl_PutText_c _ xs _ _ (HP.out _ d4)).mono ?_
  rw [HPUT.out]
  obtain ⟨s1, p1, ok1⟩ := pt
  rintro e w6 ⟨tv, rfl, o6, b6⟩
  have d6 := bl_then d4 b6
  have R6 := hid (R4.out.on b6)
  have FR6 := hid (FR4.out.on b6)
  have S6 := hid (Rd.of_own o6)
  clear b6 R4 FR4 o6
  cases ok1
  · obtain rfl : R = (xs, root, false) := by rw [← HWE.out, HWT.out, HPUT.out]; rfl
    go_wp2_with fail
    refine (cloneP_c _ xs _ (HP.out _ d6) HL.out).mono ?_
    rintro e w7 ⟨u7, rfl, o7, b7⟩
    have d7 := bl_then d6 b7
    go_wp2
    go_ret3
    exact ⟨_, rfl, Rd.of_own o7, d7⟩
  have HP1 := hid (show p1 = printOf (fileText (bs content)) by
    have := (put_get HSK.out (t := strL (fileText (bs content))) (by rw [HPUT.out])).2.2.1
    rw [HPUT.out, bs_strL] at this
    exact this)
  obtain ⟨Y, hY⟩ : ∃ Y, backTo s1 (F.zip parts) p1 = Y := ⟨_, rfl⟩
  have HY := hid hY
  have HWY := hid (show writeTo xs root parts (bs content) = Y by rw [HWT.out, HPUT.out, if_pos rfl, ← HP1.out]; exact hY)
  clear hY
  go_wp2_with fail
  refine (impl_putFolders_c _ _ _ s1 F parts p1 _ Y HY.out S6.out FR6.out R6.out HFL.out HLP.out HSM.out (HG.out _ d6)).mono ?_
  rintro e w8 ⟨u8, rfl, S8, b8⟩
  have d8 := bl_then d6 b8
  clear b8
  cases Y with
  | none =>
    obtain rfl : R = (xs, root, false) := by rw [← HWE.out, HWY.out]
    go_wp2_with fail
    refine (cloneP_c _ xs _ (HP.out _ d8) HL.out).mono ?_
    rintro e w9 ⟨u9, rfl, o9, b9⟩
    have d9 := bl_then d8 b9
    go_wp2
    go_ret3
    exact ⟨_, rfl, Rd.of_own o9, d9⟩
  | some sp =>
    obtain ⟨s2, p2⟩ := sp
    obtain rfl : R = (s2, p2, true) := by rw [← HWE.out, HWY.out]
    go_wp2
    go_ret3
    exact ⟨_, rfl, S8, d8⟩

set_option maxHeartbeats 2000000 in
set_option maxRecDepth 100000 in
theorem impl_DropAt_c (v : Value) (xs : List Pc) (root : Int) (path : ByteArray) (w : World) (R : List Pc × Int × Bool) (hR : dropAt xs root (bs path) = R) (h : Pcs w w.heap.size v xs) (hp0 : path.size ≤ 1000) (hg : Glob w) (hm : Mx w) :
    Calls Tryz.prog 43 #[v, .int .i64 root, .string path] w (SetPost w R) := by
  unfold SetPost
  have HP : Hid (∀ wx, Below w.heap.size w wx → Pcs wx wx.heap.size v xs) := hid fun wx hx => h.on hx
  have HG : Hid (∀ wx, Below w.heap.size w wx → Glob wx) := hid fun wx hx => hg.on hx
  have HM : Hid (∀ wx, Below w.heap.size w wx → Mx wx) := hid fun wx hx => hm.on hx
  have r0 : Below w.heap.size w w := Below.refl _ _
  have HR := hid hR
  obtain ⟨P, hPP⟩ : ∃ P, pathParts (bs path) = P := ⟨_, rfl⟩
  have HPA := hid hPP
  clear h hg hm hR hPP
  cases P with
  | none =>
    obtain rfl : R = ([], -1, false) := by rw [← HR.out]; exact drop_off (.inr (.inl HPA.out))
    go_enter Tryz.func43, Tryz.ntmps43
    go_wp2_with fail
    refine (impl_PathParts_c path _ hp0 (HM.out _ r0)).mono ?_
    rw [HPA.out]
    rintro e w1 ⟨pv, rfl, o1, b1⟩
    clear o1
    go_wp2
    go_ret3
    exact ⟨_, rfl, Rd.nil _ _ _ 0 none (Nat.zero_le _), b1⟩
  | some ws =>
  obtain ⟨parts, hpts⟩ : ∃ parts, ws.map strL = parts := ⟨_, rfl⟩
  have HPT := hid hpts
  obtain ⟨m, hml⟩ : ∃ m, parts.length = m := ⟨_, rfl⟩
  have HML := hid hml
  have hm3 : m ≤ 3 := by rw [← hml, ← hpts]; exact (parts_small HPA.out).2
  have HSM := hid (show ∀ x ∈ parts, x.size ≤ 1048576 from fun x hx => by rw [← hpts] at hx; have := (parts_small HPA.out).1 x hx; omega)
  have HWM := hid (show ws.length = m by rw [← hml, ← hpts]; simp)
  clear hml hpts
  by_cases hm0 : m = 0
  · obtain rfl : R = ([], -1, false) := by rw [← HR.out]; exact drop_off (.inr (.inr (by rw [HPA.out, List.eq_nil_of_length_eq_zero (HWM.out.trans hm0)])))
    subst hm0
    go_enter Tryz.func43, Tryz.ntmps43
    go_wp2_with fail
    refine (impl_PathParts_c path _ hp0 (HM.out _ r0)).mono ?_
    rw [HPA.out]
    rintro e w1 ⟨pv, rfl, o1, b1⟩
    have r1 : Strs w1 w1.heap.size pv parts := by have := Rd.of_own o1; rw [Option.getD_some, HPT.out] at this; exact this
    obtain ⟨pa, pc, rfl, _, _, _⟩ := r1.strs HML.out
    clear o1 r1
    go_wp2
    go_ret3
    exact ⟨_, rfl, Rd.nil _ _ _ 0 none (Nat.zero_le _), b1⟩
  have hmp : ((m : Int) == 0) = false := by simp; omega
  obtain ⟨sk, hsk⟩ : ∃ sk, storeOk xs = sk := ⟨_, rfl⟩
  have HSK := hid hsk
  clear hsk
  cases sk
  · obtain rfl : R = ([], -1, false) := by rw [← HR.out]; exact drop_off (.inl HSK.out)
    go_enter Tryz.func43, Tryz.ntmps43
    go_wp2_with fail
    refine (impl_PathParts_c path _ hp0 (HM.out _ r0)).mono ?_
    rw [HPA.out]
    rintro e w1 ⟨pv, rfl, o1, b1⟩
    have r1 : Strs w1 w1.heap.size pv parts := by have := Rd.of_own o1; rw [Option.getD_some, HPT.out] at this; exact this
    obtain ⟨pa, pc, rfl, _, _, _⟩ := r1.strs HML.out
    clear o1 r1
    go_wp2_with fail
    refine (impl_StoreValid_c _ xs _ (HP.out _ b1)).mono ?_
    rw [HSK.out]
    rintro e w3 ⟨rfl, b3⟩
    have d3 := bl_then b1 b3
    go_wp2
    go_ret3
    exact ⟨_, rfl, Rd.nil _ _ _ 0 none (Nat.zero_le _), d3⟩
  have HL := hid (show xs.length ≤ 1000000 by have := (st_in HSK.out).1; omega)
  have HLP := hid (show parts.length ≤ 1000 by rw [HML.out]; omega)
  have hw0 : ws ≠ [] := fun e => by have := HWM.out; rw [e] at this; simp at this; omega
  obtain ⟨⟨y0, wk⟩, hW⟩ : ∃ W, walkTo xs root (bs path) = W := ⟨_, rfl⟩
  have HW := hid hW
  have HWA := hid (show walkAt xs root parts = (y0, wk) by rw [← hW, walk_on HSK.out HPA.out, HPT.out])
  clear hW
  cases wk
  · obtain rfl : R = (xs, root, false) := by
      rw [← HR.out]
      unfold dropAt
      rw [HPA.out]
      simp only []
      rw [if_neg (by rw [HSK.out]; simp [hw0]), HPT.out, HWA.out]; rfl
    clear hw0
    go_enter Tryz.func43, Tryz.ntmps43
    go_wp2_with fail
    refine (impl_PathParts_c path _ hp0 (HM.out _ r0)).mono ?_
    rw [HPA.out]
    rintro e w1 ⟨pv, rfl, o1, b1⟩
    have r1 : Strs w1 w1.heap.size pv parts := by have := Rd.of_own o1; rw [Option.getD_some, HPT.out] at this; exact this
    obtain ⟨pa, pc, rfl, _, _, _⟩ := r1.strs HML.out
    clear o1 r1
    go_wp2_with fail
    refine (impl_StoreValid_c _ xs _ (HP.out _ b1)).mono ?_
    rw [HSK.out]
    rintro e w3 ⟨rfl, b3⟩
    have d3 := bl_then b1 b3
    go_wp2_with fail
    refine (impl_WalkTo_c _ xs root path _ _ HW.out (HP.out _ d3) hp0 (HG.out _ d3) (HM.out _ d3)).mono ?_
    rintro e w4 ⟨rfl, b4⟩
    have d4 := bl_then d3 b4
    go_wp2_with fail
    refine (cloneP_c _ xs _ (HP.out _ d4) HL.out).mono ?_
    rintro e w5 ⟨u5, rfl, o5, b5⟩
    have d5 := bl_then d4 b5
    go_wp2
    go_ret3
    exact ⟨_, rfl, Rd.of_own o5, d5⟩
  have HDE := hid (show (match dropOff xs root parts with | none => (xs, root, false) | some (s', p) => (s', p, true)) = R by
    rw [← HR.out, dropAt_eq HSK.out HPA.out hw0 (by rw [HPT.out, HWA.out]), HPT.out]
    rcases dropOff xs root parts with _ | ⟨s', p⟩ <;> rfl)
  have HNM := hid (walk_named parts xs root (by rw [HWA.out]))
  obtain ⟨FZ, hFZ⟩ : ∃ FZ, wayD xs root parts = FZ := ⟨_, rfl⟩
  rw [hFZ] at HNM
  have HFZ := hid hFZ
  have HFL := hid (show FZ.length = m by rw [← hFZ, wayD_len]; exact HML.out)
  obtain ⟨E, hE⟩ : ∃ E, FZ.map (·.1) = E := ⟨_, rfl⟩
  have HE := hid (show (wayD xs root parts).map (·.1) = E by rw [hFZ]; exact hE)
  have HEL := hid (show E.length = m by rw [← hE, List.length_map]; exact HFL.out)
  have HZP := hid (show FZ = E.zip parts by rw [← hE, ← hFZ]; exact wayD_zip xs parts root)
  have HDT := hid (dropT_last (FZ := FZ))
  clear HR hw0 hFZ hE
  have hw1 : IntKind.i64.wrap ((m : Int) - 1) = ((m - 1 : Nat) : Int) := by rw [IntWalk.i64_in _ (by omega)]; omega
  go_enter Tryz.func43, Tryz.ntmps43
  go_wp2_with fail
  refine (impl_PathParts_c path _ hp0 (HM.out _ r0)).mono ?_
  rw [HPA.out]
  rintro e w1 ⟨pv, rfl, o1, b1⟩
  have r1 : Strs w1 w1.heap.size pv parts := by have := Rd.of_own o1; rw [Option.getD_some, HPT.out] at this; exact this
  have R1 := hid r1
  obtain ⟨pa, nc, rfl, hncn, _, _⟩ := r1.strs HML.out
  have HNCN := hid hncn
  clear o1 r1
  go_wp2_with fail
  refine (impl_StoreValid_c _ xs _ (HP.out _ b1)).mono ?_
  rw [HSK.out]
  rintro e w2 ⟨rfl, b2⟩
  have d2 := bl_then b1 b2
  go_wp2_with fail
  refine (impl_WalkTo_c _ xs root path _ _ HW.out (HP.out _ d2) hp0 (HG.out _ d2) (HM.out _ d2)).mono ?_
  rintro e w3 ⟨rfl, b3⟩
  have d3 := bl_then d2 b3
  have R3 := hid ((R1.out.on b2).on b3)
  clear b1 b2 b3 d2 R1
  go_wp2_with fail
  refine (impl_foldersToDrop_c _ _ xs root parts _ E HE.out (HP.out _ d3) HSK.out R3.out HLP.out (HG.out _ d3)).mono ?_
  rintro e w4 ⟨fv, rfl, o4, b4⟩
  have D4 := hid (bl_then d3 b4)
  have R4 := hid (R3.out.on b4)
  have FR4 := hid (show Folds w4 w4.heap.size fv E from o4.rd)
  obtain ⟨fa, fc, rfl, hfcn, _, _⟩ := FR4.out.openN HEL.out
  have HFCN := hid hfcn
  have HFC := hid (show ∀ wx, Below w4.heap.size w4 wx → ∀ k, k < m → ∃ (fb fo nb no : Nat) (lv : Value) (es : List Ent) (nm : ByteArray), fa = some ⟨fb, fo, none⟩ ∧ pa = some ⟨nb, no, none⟩ ∧ fb < wx.heap.size ∧ nb < wx.heap.size ∧ Hid (FZ[k]? = some (es, nm)) ∧ wx.cell? ⟨fb, fo + k, none⟩ = some lv ∧ wx.cell? ⟨nb, no + k, none⟩ = some (.string nm) ∧ Ents wx wx.heap.size lv es from fun wx hx k hk => by
    obtain ⟨a1, c1, hv1, _, _, hf3⟩ := (FR4.out.on hx).openN HEL.out
    simp only [Value.slice.injEq] at hv1
    obtain ⟨rfl, _, rfl⟩ := hv1
    obtain ⟨a2, c2, hv2, _, _, hp3⟩ := (R4.out.on hx).strs HML.out
    simp only [Value.slice.injEq] at hv2
    obtain ⟨rfl, _, rfl⟩ := hv2
    obtain ⟨fb, fo, lv, es, rfl, hfb, hes, hfc, hle⟩ := hf3 k hk
    obtain ⟨nb, no, nm, rfl, hnb, hnm, hnc⟩ := hp3 k hk
    exact ⟨fb, fo, nb, no, lv, es, nm, rfl, rfl, hfb, hnb, hid (by rw [HZP.out, List.getElem?_zip_eq_some]; exact ⟨hes.out, hnm.out⟩), hfc, hnc, hle⟩)
  obtain ⟨j, hj1⟩ : ∃ j, m - 1 = j := ⟨_, rfl⟩
  rw [hj1] at hw1
  have hj2 : j + 1 = m := by omega
  clear b4 d3 R3 o4 hj1
  go_wp2
  refine drew_out w4 ⟨0, rfl⟩ ?_
  rintro W0 ⟨z00, hW0⟩
  have D0 : Hid (Below w4.heap.size w4 W0) := hid (by rw [hW0]; exact bl_drewN (Below.refl _ _) z00)
  obtain ⟨fb, fo, nb, no, lv, es, nm, rfl, rfl, hfbl, hnbl, hx, hfc, hnc2, hle⟩ := HFC.out W0 D0.out j (by omega)
  have HLV := hid hle
  have HEO := hid (HNM.out _ (List.mem_of_getElem? hx.out)).1
  have hjn : (j : Int) < m := by omega
  have hjm : (j : Int) < m := by omega
  clear hW0 hle
  refine wp_region_inv3e rfl (by kernel_rfl) (by kernel_rfl) (by kernel_rfl) (by kernel_rfl) (by simp) (fun _ w' => Below W0.heap.size W0 w') (fun j w' w'' => w' = w'' ∨ Below w'.heap.size w' w'') (fact [isV (.slice (some ⟨fb, fo, none⟩) m fc), isV (.int .i64 j), isV (.pointer (some ⟨fb, fo + j, none⟩)), isV lv, isV (.slice (some ⟨nb, no, none⟩) m nc), isV (.int .i64 j), isV (.pointer (some ⟨nb, no + j, none⟩)), isV (.string nm), isTupE W0.heap.size (dropE es nm) (dropEnt es nm).2, isTupE W0.heap.size (dropE es nm) (dropEnt es nm).2, isOwnE W0.heap.size (dropE es nm), isV (.bool (dropEnt es nm).2), isOwnE W0.heap.size (dropE es nm), isV (.bool (dropEnt es nm).2)]) noCons (Below.refl _ _).drew ?hF ?grd ?oo ?cg ?fin
  case hF =>
    intro j i v w' w'' hS hc hne hwt hdp hf
    have hi : i < 14 ∨ 14 ≤ i := by omega
    rcases hi with hi | hi
    · obtain rfl | rfl | rfl | rfl | rfl | rfl | rfl | rfl | rfl | rfl | rfl | rfl | rfl | rfl : i = 0 ∨ i = 1 ∨ i = 2 ∨ i = 3 ∨ i = 4 ∨ i = 5 ∨ i = 6 ∨ i = 7 ∨ i = 8 ∨ i = 9 ∨ i = 10 ∨ i = 11 ∨ i = 12 ∨ i = 13 := by omega
      · exact hf
      · exact hf
      · exact hf
      · exact hf
      · exact hf
      · exact hf
      · exact hf
      · exact hf
      · rcases hS with rfl | hb9
        · exact hf
        · obtain ⟨lw, h1, h2⟩ := hf; exact ⟨lw, h1, h2.on hb9⟩
      · rcases hS with rfl | hb9
        · exact hf
        · obtain ⟨lw, h1, h2⟩ := hf; exact ⟨lw, h1, h2.on hb9⟩
      · rcases hS with rfl | hb9
        · exact hf
        · exact Own.on hf hb9
      · exact hf
      · rcases hS with rfl | hb9
        · exact hf
        · exact Own.on hf hb9
      · exact hf
    · unfold fact at *; rw [List.getD_eq_getElem?_getD, List.getElem?_eq_none (by simpa using hi)]; trivial
  case grd =>
    intro i oo d bb hi hg v w' hf
    obtain ⟨hlt1, rfl⟩ := Array.getElem?_eq_some_iff.1 hi
    have hlt' : i < 14 := hlt1
    clear hi
    obtain rfl | rfl | rfl | rfl | rfl | rfl | rfl | rfl | rfl | rfl | rfl | rfl | rfl | rfl : i = 0 ∨ i = 1 ∨ i = 2 ∨ i = 3 ∨ i = 4 ∨ i = 5 ∨ i = 6 ∨ i = 7 ∨ i = 8 ∨ i = 9 ∨ i = 10 ∨ i = 11 ∨ i = 12 ∨ i = 13 := by omega
    all_goals simp at hg
  case cg =>
    intro i oo d bb hi hg j
    obtain ⟨hlt1, rfl⟩ := Array.getElem?_eq_some_iff.1 hi
    have hlt' : i < 14 := hlt1
    clear hi
    obtain rfl | rfl | rfl | rfl | rfl | rfl | rfl | rfl | rfl | rfl | rfl | rfl | rfl | rfl : i = 0 ∨ i = 1 ∨ i = 2 ∨ i = 3 ∨ i = 4 ∨ i = 5 ∨ i = 6 ∨ i = 7 ∨ i = 8 ∨ i = 9 ∨ i = 10 ∨ i = 11 ∨ i = 12 ∨ i = 13 := by omega
    all_goals simp at hg
  case oo =>
    intro i oo hi qn a' wk hnn hj hb' hd
    obtain ⟨hlt1, rfl⟩ := Array.getElem?_eq_some_iff.1 hi
    have hlt' : i < 14 := hlt1
    clear hi
    obtain rfl | rfl | rfl | rfl | rfl | rfl | rfl | rfl | rfl | rfl | rfl | rfl | rfl | rfl : i = 0 ∨ i = 1 ∨ i = 2 ∨ i = 3 ∨ i = 4 ∨ i = 5 ∨ i = 6 ∨ i = 7 ∨ i = 8 ∨ i = 9 ∨ i = 10 ∨ i = 11 ∨ i = 12 ∨ i = 13 := by omega
    · have b13 : a'.eval (.tmp 13) = .slice (some ⟨fb, fo, none⟩) m fc := hb' 13 (by kernel_rfl); have c13 := ev_get b13
      exact iv_val (v := .slice (some ⟨fb, fo, none⟩) m fc) (by simp [execOp, b13]) ⟨_, rfl, hj, .inl rfl, rfl⟩
    · have b14 : a'.eval (.tmp 14) = .int .i64 j := hb' 14 (by kernel_rfl); have c14 := ev_get b14
      exact iv_val (v := .int .i64 j) (by simp [execOp, b14]) ⟨_, rfl, hj, .inl rfl, rfl⟩
    · have v0 : a'.eval (.tmp 56) = .slice (some ⟨fb, fo, none⟩) m fc := hd ⟨0, .data⟩ (by simp) rfl (by intro j _ hc; revert hc; unfold noCons; simp; try omega); have u0 := ev_get v0
      have v1 : a'.eval (.tmp 57) = .int .i64 j := hd ⟨1, .data⟩ (by simp) rfl (by intro j _ hc; revert hc; unfold noCons; simp; try omega); have u1 := ev_get v1
      exact iv_val (v := .pointer (some ⟨fb, fo + j, none⟩)) (by simp [execOp, u0, u1, hjn, go_sem, Result.andThen]) ⟨_, rfl, hj, .inl rfl, rfl⟩
    · have v2 : a'.eval (.tmp 58) = .pointer (some ⟨fb, fo + j, none⟩) := hd ⟨2, .data⟩ (by simp) rfl (by intro j _ hc; revert hc; unfold noCons; simp; try omega); have u2 := ev_get v2
      have xk := (hj.cell (p := ⟨fb, fo + j, none⟩) hfbl).trans hfc
      exact iv_val (v := lv) (by simp [execOp, u2, xk, go_sem, Result.andThen]) ⟨_, rfl, hj, .inl rfl, rfl⟩
    · have b9 : a'.eval (.tmp 9) = .slice (some ⟨nb, no, none⟩) m nc := hb' 9 (by kernel_rfl); have c9 := ev_get b9
      exact iv_val (v := .slice (some ⟨nb, no, none⟩) m nc) (by simp [execOp, b9]) ⟨_, rfl, hj, .inl rfl, rfl⟩
    · have b14 : a'.eval (.tmp 14) = .int .i64 j := hb' 14 (by kernel_rfl); have c14 := ev_get b14
      exact iv_val (v := .int .i64 j) (by simp [execOp, b14]) ⟨_, rfl, hj, .inl rfl, rfl⟩
    · have v4 : a'.eval (.tmp 60) = .slice (some ⟨nb, no, none⟩) m nc := hd ⟨4, .data⟩ (by simp) rfl (by intro j _ hc; revert hc; unfold noCons; simp; try omega); have u4 := ev_get v4
      have v5 : a'.eval (.tmp 61) = .int .i64 j := hd ⟨5, .data⟩ (by simp) rfl (by intro j _ hc; revert hc; unfold noCons; simp; try omega); have u5 := ev_get v5
      exact iv_val (v := .pointer (some ⟨nb, no + j, none⟩)) (by simp [execOp, u4, u5, hjn, go_sem, Result.andThen]) ⟨_, rfl, hj, .inl rfl, rfl⟩
    · have v6 : a'.eval (.tmp 62) = .pointer (some ⟨nb, no + j, none⟩) := hd ⟨6, .data⟩ (by simp) rfl (by intro j _ hc; revert hc; unfold noCons; simp; try omega); have u6 := ev_get v6
      have xk := (hj.cell (p := ⟨nb, no + j, none⟩) hnbl).trans hnc2
      exact iv_val (v := .string nm) (by simp [execOp, u6, xk, go_sem, Result.andThen]) ⟨_, rfl, hj, .inl rfl, rfl⟩
    · have v3 : a'.eval (.tmp 59) = lv := hd ⟨3, .data⟩ (by simp) rfl (by intro j _ hc; revert hc; unfold noCons; simp; try omega); have u3 := ev_get v3
      have v7 : a'.eval (.tmp 63) = .string nm := hd ⟨7, .data⟩ (by simp) rfl (by intro j _ hc; revert hc; unfold noCons; simp; try omega); have u7 := ev_get v7
      refine iv_enter (f := 94) (args := #[lv, .string nm]) (by simp [execOp, u3, u7, go_sem]) ?_
      refine (impl_DropEntry_c lv es nm wk (HLV.out.on hj) HEO.out).mono ?_
      rintro e9 w9 ⟨v9, rfl, o9, b9⟩
      exact ⟨_, rfl, _, rfl, bl_then hj b9, .inr b9, (show isTupE W0.heap.size (dropE es nm) (dropEnt es nm).2 _ w9 from ⟨v9, rfl, o9.less hj.size⟩)⟩
    · have et : isTupE W0.heap.size (dropE es nm) (dropEnt es nm).2 (a'.eval (.tmp 64)) wk := hd ⟨8, .data⟩ (by simp) rfl (by intro j _ hc; revert hc; unfold noCons; simp; try omega)
      exact iv_val (v := a'.eval (.tmp 64)) (by simp [execOp]) ⟨_, rfl, hj, .inl rfl, et⟩
    · have et : isTupE W0.heap.size (dropE es nm) (dropEnt es nm).2 (a'.eval (.tmp 55)) wk := hd ⟨9, .data⟩ (by simp) rfl (by intro j _ hc; revert hc; unfold noCons; simp; try omega)
      obtain ⟨lw, hlw, how⟩ := et
      have ut := ev_get hlw
      exact iv_val (v := lw) (by simp [execOp, ut, go_sem, Result.andThen]) ⟨_, rfl, hj, .inl rfl, (show isOwnE W0.heap.size (dropE es nm) _ wk from how)⟩
    · have et : isTupE W0.heap.size (dropE es nm) (dropEnt es nm).2 (a'.eval (.tmp 55)) wk := hd ⟨9, .data⟩ (by simp) rfl (by intro j _ hc; revert hc; unfold noCons; simp; try omega)
      obtain ⟨lw, hlw, how⟩ := et
      have ut := ev_get hlw
      exact iv_val (v := .bool (dropEnt es nm).2) (by simp [execOp, ut, go_sem, Result.andThen]) ⟨_, rfl, hj, .inl rfl, rfl⟩
    · have et : isOwnE W0.heap.size (dropE es nm) (a'.eval (.tmp 65)) wk := hd ⟨10, .data⟩ (by simp) rfl (by intro j _ hc; revert hc; unfold noCons; simp; try omega)
      exact iv_val (v := a'.eval (.tmp 65)) (by simp [execOp]) ⟨_, rfl, hj, .inl rfl, et⟩
    · have v11 : a'.eval (.tmp 66) = .bool (dropEnt es nm).2 := hd ⟨11, .data⟩ (by simp) rfl (by intro j _ hc; revert hc; unfold noCons; simp; try omega); have u11 := ev_get v11
      exact iv_val (v := .bool (dropEnt es nm).2) (by simp [execOp, v11]) ⟨_, rfl, hj, .inl rfl, rfl⟩
  case fin =>
    intro tm w9 hj hF
    have q15 : OwnE w9 W0.heap.size (tm.getD 15 undef) (dropE es nm) := hF 12 _ rfl (fun j => rfl)
    have q16 : tm.getD 16 undef = .bool (dropEnt es nm).2 := hF 13 _ rfl (fun j => rfl)
    clear hF
    simp only [refillL, List.setIfInBounds_toArray, List.set_cons_succ, List.set_cons_zero]
    rw [q16]
    obtain ⟨wv, hwv⟩ : ∃ wv, tm.getD 15 undef = wv := ⟨_, rfl⟩
    rw [hwv] at q15 ⊢
    clear hwv
    have D9 := hid (bl_then D0.out hj)
    have O9 := hid (q15.less D0.out.size)
    clear q15 hj
    go_wp2
    go_loopw [14, 15] (fun lastv lstv wr => ∃ (j : Nat) (wv : Value) (es : List Ent) (nm : ByteArray), lstv = wv ∧ j < m ∧ lastv = .int .i64 j ∧ Hid (OwnE wr w4.heap.size wv (dropE es nm)) ∧ Hid (FZ[j]? = some (es, nm)) ∧ Hid (dropT (FZ.drop (j + 1)) = none) ∧ Hid (Below w4.heap.size w4 wr)) (fun lastv _ _ => (intOf lastv).toNat)
    case atStart => exact ⟨j, wv, es, nm, rfl, by omega, rfl, O9, hx, hid (by rw [hj2, ← HFL.out]; exact HDT.out), D9⟩
    case round =>
      obtain ⟨j, wv, es, nm, rfl, hjm, rfl, O, hx, hdt, D⟩ := hrel
      clear O9 D9 HLV hfc hnc2
      obtain ⟨q, hq⟩ : ∃ q, (dropE es nm).length = q := ⟨_, rfl⟩
      have HQ := hid hq
      obtain ⟨wa, wc, rfl, _, _, _⟩ := (Rd.of_own O.out).ents hq
      have hle3 := HQ.out
      clear hq
      by_cases hgo : q = 0 ∧ 0 < j
      · obtain ⟨rfl, hj0⟩ := hgo
        obtain ⟨i, rfl⟩ : ∃ i, j = i + 1 := ⟨j - 1, by omega⟩
        have hj0' : (0 : Int) < ((i + 1 : Nat) : Int) := by omega
        have hw2 : IntKind.i64.wrap (((i + 1 : Nat) : Int) - 1) = (i : Int) := by rw [IntWalk.i64_in _ (by omega)]; omega
        have HDN := hid (show dropT (FZ.drop (i + 1)) = none from dropT_up hx.out hdt.out (List.eq_nil_of_length_eq_zero HQ.out))
        clear hx hdt O hle3 HQ
        go_wp2
        refine drew_out wr ⟨0, rfl⟩ ?_
        rintro W0 ⟨z00, hW0⟩
        have hw0 : Below wr.heap.size wr W0 := by rw [hW0]; exact bl_drewN (Below.refl _ _) z00
        have D0 := hid (bl_then D.out hw0)
        obtain ⟨fb', fo', nb', no', lv, es, nm, ef, en, hfbl, hnbl, hx, hfc, hnc2, hle⟩ := HFC.out W0 D0.out i (by omega)
        simp only [Option.some.injEq, Addr.mk.injEq, and_true] at ef en
        obtain ⟨rfl, rfl⟩ := ef
        obtain ⟨rfl, rfl⟩ := en
        have HLV := hid hle
        have HEO := hid (HNM.out _ (List.mem_of_getElem? hx.out)).1
        have hjn : (i : Int) < m := by omega
        have hjm2 : (i : Int) < m := by omega
        clear hW0 hle hw0 D
        refine wp_region_inv3e rfl (by kernel_rfl) (by kernel_rfl) (by kernel_rfl) (by kernel_rfl) (by simp) (fun _ w' => Below W0.heap.size W0 w') (fun j w' w'' => w' = w'' ∨ Below w'.heap.size w' w'') (fact [isV (.slice (some ⟨fb, fo, none⟩) m fc), isV (.int .i64 i), isV (.pointer (some ⟨fb, fo + i, none⟩)), isV lv, isV (.slice (some ⟨nb, no, none⟩) m nc), isV (.int .i64 i), isV (.pointer (some ⟨nb, no + i, none⟩)), isV (.string nm), isTupE W0.heap.size (dropE es nm) (dropEnt es nm).2, isTupE W0.heap.size (dropE es nm) (dropEnt es nm).2, isOwnE W0.heap.size (dropE es nm), isV (.bool (dropEnt es nm).2), isOwnE W0.heap.size (dropE es nm)]) noCons (Below.refl _ _).drew ?hF ?grd ?oo ?cg ?fin
        case hF =>
          intro j i v w' w'' hS hc hne hwt hdp hf
          have hi : i < 13 ∨ 13 ≤ i := by omega
          rcases hi with hi | hi
          · obtain rfl | rfl | rfl | rfl | rfl | rfl | rfl | rfl | rfl | rfl | rfl | rfl | rfl : i = 0 ∨ i = 1 ∨ i = 2 ∨ i = 3 ∨ i = 4 ∨ i = 5 ∨ i = 6 ∨ i = 7 ∨ i = 8 ∨ i = 9 ∨ i = 10 ∨ i = 11 ∨ i = 12 := by omega
            · exact hf
            · exact hf
            · exact hf
            · exact hf
            · exact hf
            · exact hf
            · exact hf
            · exact hf
            · rcases hS with rfl | hb9
              · exact hf
              · obtain ⟨lw, h1, h2⟩ := hf; exact ⟨lw, h1, h2.on hb9⟩
            · rcases hS with rfl | hb9
              · exact hf
              · obtain ⟨lw, h1, h2⟩ := hf; exact ⟨lw, h1, h2.on hb9⟩
            · rcases hS with rfl | hb9
              · exact hf
              · exact Own.on hf hb9
            · exact hf
            · rcases hS with rfl | hb9
              · exact hf
              · exact Own.on hf hb9
          · unfold fact at *; rw [List.getD_eq_getElem?_getD, List.getElem?_eq_none (by simpa using hi)]; trivial
        case grd =>
          intro i oo d bb hi hg v w' hf
          obtain ⟨hlt1, rfl⟩ := Array.getElem?_eq_some_iff.1 hi
          have hlt' : i < 13 := hlt1
          clear hi
          obtain rfl | rfl | rfl | rfl | rfl | rfl | rfl | rfl | rfl | rfl | rfl | rfl | rfl : i = 0 ∨ i = 1 ∨ i = 2 ∨ i = 3 ∨ i = 4 ∨ i = 5 ∨ i = 6 ∨ i = 7 ∨ i = 8 ∨ i = 9 ∨ i = 10 ∨ i = 11 ∨ i = 12 := by omega
          all_goals simp at hg
        case cg =>
          intro i oo d bb hi hg j
          obtain ⟨hlt1, rfl⟩ := Array.getElem?_eq_some_iff.1 hi
          have hlt' : i < 13 := hlt1
          clear hi
          obtain rfl | rfl | rfl | rfl | rfl | rfl | rfl | rfl | rfl | rfl | rfl | rfl | rfl : i = 0 ∨ i = 1 ∨ i = 2 ∨ i = 3 ∨ i = 4 ∨ i = 5 ∨ i = 6 ∨ i = 7 ∨ i = 8 ∨ i = 9 ∨ i = 10 ∨ i = 11 ∨ i = 12 := by omega
          all_goals simp at hg
        case oo =>
          intro i oo hi qn a' wk hnn hj hb' hd
          obtain ⟨hlt1, rfl⟩ := Array.getElem?_eq_some_iff.1 hi
          have hlt' : i < 13 := hlt1
          clear hi
          obtain rfl | rfl | rfl | rfl | rfl | rfl | rfl | rfl | rfl | rfl | rfl | rfl | rfl : i = 0 ∨ i = 1 ∨ i = 2 ∨ i = 3 ∨ i = 4 ∨ i = 5 ∨ i = 6 ∨ i = 7 ∨ i = 8 ∨ i = 9 ∨ i = 10 ∨ i = 11 ∨ i = 12 := by omega
          · have b13 : a'.eval (.tmp 13) = .slice (some ⟨fb, fo, none⟩) m fc := hb' 13 (by kernel_rfl); have c13 := ev_get b13
            exact iv_val (v := .slice (some ⟨fb, fo, none⟩) m fc) (by simp [execOp, b13]) ⟨_, rfl, hj, .inl rfl, rfl⟩
          · have b14 : a'.eval (.tmp 14) = .int .i64 i := hb' 14 (by kernel_rfl); have c14 := ev_get b14
            exact iv_val (v := .int .i64 i) (by simp [execOp, b14]) ⟨_, rfl, hj, .inl rfl, rfl⟩
          · have v0 : a'.eval (.tmp 77) = .slice (some ⟨fb, fo, none⟩) m fc := hd ⟨0, .data⟩ (by simp) rfl (by intro j _ hc; revert hc; unfold noCons; simp; try omega); have u0 := ev_get v0
            have v1 : a'.eval (.tmp 78) = .int .i64 i := hd ⟨1, .data⟩ (by simp) rfl (by intro j _ hc; revert hc; unfold noCons; simp; try omega); have u1 := ev_get v1
            exact iv_val (v := .pointer (some ⟨fb, fo + i, none⟩)) (by simp [execOp, u0, u1, hjn, go_sem, Result.andThen]) ⟨_, rfl, hj, .inl rfl, rfl⟩
          · have v2 : a'.eval (.tmp 79) = .pointer (some ⟨fb, fo + i, none⟩) := hd ⟨2, .data⟩ (by simp) rfl (by intro j _ hc; revert hc; unfold noCons; simp; try omega); have u2 := ev_get v2
            have xk := (hj.cell (p := ⟨fb, fo + i, none⟩) hfbl).trans hfc
            exact iv_val (v := lv) (by simp [execOp, u2, xk, go_sem, Result.andThen]) ⟨_, rfl, hj, .inl rfl, rfl⟩
          · have b9 : a'.eval (.tmp 9) = .slice (some ⟨nb, no, none⟩) m nc := hb' 9 (by kernel_rfl); have c9 := ev_get b9
            exact iv_val (v := .slice (some ⟨nb, no, none⟩) m nc) (by simp [execOp, b9]) ⟨_, rfl, hj, .inl rfl, rfl⟩
          · have b14 : a'.eval (.tmp 14) = .int .i64 i := hb' 14 (by kernel_rfl); have c14 := ev_get b14
            exact iv_val (v := .int .i64 i) (by simp [execOp, b14]) ⟨_, rfl, hj, .inl rfl, rfl⟩
          · have v4 : a'.eval (.tmp 81) = .slice (some ⟨nb, no, none⟩) m nc := hd ⟨4, .data⟩ (by simp) rfl (by intro j _ hc; revert hc; unfold noCons; simp; try omega); have u4 := ev_get v4
            have v5 : a'.eval (.tmp 82) = .int .i64 i := hd ⟨5, .data⟩ (by simp) rfl (by intro j _ hc; revert hc; unfold noCons; simp; try omega); have u5 := ev_get v5
            exact iv_val (v := .pointer (some ⟨nb, no + i, none⟩)) (by simp [execOp, u4, u5, hjn, go_sem, Result.andThen]) ⟨_, rfl, hj, .inl rfl, rfl⟩
          · have v6 : a'.eval (.tmp 83) = .pointer (some ⟨nb, no + i, none⟩) := hd ⟨6, .data⟩ (by simp) rfl (by intro j _ hc; revert hc; unfold noCons; simp; try omega); have u6 := ev_get v6
            have xk := (hj.cell (p := ⟨nb, no + i, none⟩) hnbl).trans hnc2
            exact iv_val (v := .string nm) (by simp [execOp, u6, xk, go_sem, Result.andThen]) ⟨_, rfl, hj, .inl rfl, rfl⟩
          · have v3 : a'.eval (.tmp 80) = lv := hd ⟨3, .data⟩ (by simp) rfl (by intro j _ hc; revert hc; unfold noCons; simp; try omega); have u3 := ev_get v3
            have v7 : a'.eval (.tmp 84) = .string nm := hd ⟨7, .data⟩ (by simp) rfl (by intro j _ hc; revert hc; unfold noCons; simp; try omega); have u7 := ev_get v7
            refine iv_enter (f := 94) (args := #[lv, .string nm]) (by simp [execOp, u3, u7, go_sem]) ?_
            refine (impl_DropEntry_c lv es nm wk (HLV.out.on hj) HEO.out).mono ?_
            rintro e9 w9 ⟨v9, rfl, o9, b9⟩
            exact ⟨_, rfl, _, rfl, bl_then hj b9, .inr b9, (show isTupE W0.heap.size (dropE es nm) (dropEnt es nm).2 _ w9 from ⟨v9, rfl, o9.less hj.size⟩)⟩
          · have et : isTupE W0.heap.size (dropE es nm) (dropEnt es nm).2 (a'.eval (.tmp 85)) wk := hd ⟨8, .data⟩ (by simp) rfl (by intro j _ hc; revert hc; unfold noCons; simp; try omega)
            exact iv_val (v := a'.eval (.tmp 85)) (by simp [execOp]) ⟨_, rfl, hj, .inl rfl, et⟩
          · have et : isTupE W0.heap.size (dropE es nm) (dropEnt es nm).2 (a'.eval (.tmp 76)) wk := hd ⟨9, .data⟩ (by simp) rfl (by intro j _ hc; revert hc; unfold noCons; simp; try omega)
            obtain ⟨lw, hlw, how⟩ := et
            have ut := ev_get hlw
            exact iv_val (v := lw) (by simp [execOp, ut, go_sem, Result.andThen]) ⟨_, rfl, hj, .inl rfl, (show isOwnE W0.heap.size (dropE es nm) _ wk from how)⟩
          · have et : isTupE W0.heap.size (dropE es nm) (dropEnt es nm).2 (a'.eval (.tmp 76)) wk := hd ⟨9, .data⟩ (by simp) rfl (by intro j _ hc; revert hc; unfold noCons; simp; try omega)
            obtain ⟨lw, hlw, how⟩ := et
            have ut := ev_get hlw
            exact iv_val (v := .bool (dropEnt es nm).2) (by simp [execOp, ut, go_sem, Result.andThen]) ⟨_, rfl, hj, .inl rfl, rfl⟩
          · have et : isOwnE W0.heap.size (dropE es nm) (a'.eval (.tmp 86)) wk := hd ⟨10, .data⟩ (by simp) rfl (by intro j _ hc; revert hc; unfold noCons; simp; try omega)
            exact iv_val (v := a'.eval (.tmp 86)) (by simp [execOp]) ⟨_, rfl, hj, .inl rfl, et⟩
        case fin =>
          intro tm w9 hj hF
          have q15 : OwnE w9 W0.heap.size (tm.getD 15 undef) (dropE es nm) := hF 12 _ rfl (fun j => rfl)
          clear hF
          simp only [refillL, List.setIfInBounds_toArray, List.set_cons_succ, List.set_cons_zero]
          obtain ⟨wv, hwv⟩ : ∃ wv, tm.getD 15 undef = wv := ⟨_, rfl⟩
          rw [hwv] at q15 ⊢
          clear hwv
          have D9 := hid (bl_then D0.out hj)
          have O9 := hid (q15.less D0.out.size)
          clear q15 hj
          go_wp2
          go_roundw
          case rel => exact ⟨i, _, es, nm, rfl, by omega, by first | rfl | (rw [hw2]) | go_num, O9, hx, HDN, D9⟩
          case measure => simp [intOf] <;> omega
      · have HDO := hid (show dropOff xs root parts = if (putS xs (strL (folderText (dropE es nm)))).2.2 = true then backTo (putS xs (strL (folderText (dropE es nm)))).1 (FZ.take j) (printOf (folderText (dropE es nm))) else none by
          have := dropOff_at (s := xs) (root := root) (ws := parts) (k := j) (es := es) (nm := nm) HSK.out (by rw [HFZ.out]; exact HNM.out) (by rw [HFZ.out]; exact hx.out) (by rw [HFZ.out]; exact hdt.out) (by
            by_cases h0 : q = 0
            · exact .inr (by omega)
            · exact .inl (fun e => h0 (by rw [← HQ.out, e]; rfl)))
          rw [HFZ.out] at this
          exact this)
        have D5 := D.out
        have O5 := hid (Rd.of_own O.out)
        have d5 := bl_then D4.out D5
        obtain ⟨T, hT⟩ : ∃ T, dropE es nm = T := ⟨_, rfl⟩
        have HT := hid hT
        rw [hT] at HDO O5
        have hjc : (j : Int) ≤ fc := by have := HFCN.out; omega
        have hjc2 : (j : Int) ≤ nc := by have := HNCN.out; omega
        clear hx hdt O hT D
        by_cases hq1 : q = 0
        · have hj0' : ¬ (0 : Int) < (j : Int) := by omega
          subst hq1
          go_wp2_with fail
          refine (impl_FolderText_c _ T _ O5.out (HG.out _ d5)).mono ?_
          rintro e w6 ⟨rfl, b6⟩
          have d6 := bl_then d5 b6
          have e6 := bl_then D5 b6
          clear b6 d5 O5
          obtain ⟨pt, hpt⟩ : ∃ pt, putS xs (strL (folderText T)) = pt := ⟨_, rfl⟩
          have HPUT := hid hpt
          clear hpt
          go_wp2_with fail
          refine (impl_PutText_c _ xs _ _ (HP.out _ d6)).mono ?_
          rw [HPUT.out]
          obtain ⟨s1, p1, ok1⟩ := pt
          rintro e w7 ⟨tv, rfl, o7, b7⟩
          have d7 := bl_then d6 b7
          have e7 := bl_then e6 b7
          have S7 := hid (Rd.of_own o7)
          clear b7 d6 e6 o7 D5
          cases ok1
          · obtain rfl : R = (xs, root, false) := by rw [← HDE.out, HDO.out, HPUT.out]; rfl
            go_wp2_with fail
            refine (cloneP_c _ xs _ (HP.out _ d7) HL.out).mono ?_
            rintro e w8 ⟨u8, rfl, o8, b8⟩
            have d8 := bl_then d7 b8
            go_wp2
            go_ret3
            exact ⟨_, rfl, Rd.of_own o8, d8⟩
          have HP1 := hid (show p1 = printOf (folderText T) by
            have := (put_get HSK.out (t := strL (folderText T)) (by rw [HPUT.out])).2.2.1
            rw [HPUT.out, bs_strL] at this
            exact this)
          obtain ⟨Y, hY⟩ : ∃ Y, backTo s1 ((E.take j).zip (parts.take j)) p1 = Y := ⟨_, rfl⟩
          have HY := hid hY
          have HWY := hid (show dropOff xs root parts = Y by rw [HDO.out, HPUT.out, if_pos rfl, ← HP1.out, HZP.out, zip_take]; exact hY)
          clear hY HDO
          go_wp2
          refine drew_out w7 ⟨0, rfl⟩ ?_
          rintro W0 ⟨z00, hW0⟩
          have hw0 : Below w7.heap.size w7 W0 := by rw [hW0]; exact bl_drewN (Below.refl _ _) z00
          have d0 := bl_then d7 hw0
          have SW := hid (S7.out.on hw0)
          have FW := hid (Folds.front ((FR4.out.on (bl_then e7 hw0))) HEL.out (show j ≤ m by omega))
          have NW := hid (Rd.frontS (R4.out.on (bl_then e7 hw0)) HML.out (show j ≤ m by omega))
          have GW := hid (HG.out _ d0)
          have HT1 := hid (show (E.take j).length ≤ (parts.take j).length by rw [List.length_take, List.length_take, HEL.out, HML.out]; exact Nat.le_refl _)
          have HT2 := hid (show (parts.take j).length ≤ 1000 by rw [List.length_take]; omega)
          have HT3 := hid (show ∀ x ∈ parts.take j, x.size ≤ 1048576 from fun x hx => HSM.out x (List.mem_of_mem_take hx))
          clear hW0 hw0 S7 d7 e7
          refine wp_region_inv3e rfl (by kernel_rfl) (by kernel_rfl) (by kernel_rfl) (by kernel_rfl) (by simp) (fun _ w' => Below W0.heap.size W0 w') (fun j w' w'' => w' = w'' ∨ Below w'.heap.size w' w'') (fact [isV tv, isV (.slice (some ⟨fb, fo, none⟩) m fc), isV (.int .i64 j), isV (.slice (some ⟨fb, fo, none⟩) j fc), isV (.slice (some ⟨nb, no, none⟩) m nc), isV (.int .i64 j), isV (.slice (some ⟨nb, no, none⟩) j nc), isV (.int .i64 p1), isTupP W0 Y, isTupP W0 Y, isPcsY W0 Y, isV (.int .i64 ((Y.map (·.2)).getD (-1))), isV (.bool Y.isSome), isPcsY W0 Y, isV (.int .i64 ((Y.map (·.2)).getD (-1))), isV (.bool Y.isSome)]) noCons (Below.refl _ _).drew ?hF ?grd ?oo ?cg ?fin
          case hF =>
            intro j i v w' w'' hS hc hne hwt hdp hf
            have hi : i < 16 ∨ 16 ≤ i := by omega
            rcases hi with hi | hi
            · obtain rfl | rfl | rfl | rfl | rfl | rfl | rfl | rfl | rfl | rfl | rfl | rfl | rfl | rfl | rfl | rfl : i = 0 ∨ i = 1 ∨ i = 2 ∨ i = 3 ∨ i = 4 ∨ i = 5 ∨ i = 6 ∨ i = 7 ∨ i = 8 ∨ i = 9 ∨ i = 10 ∨ i = 11 ∨ i = 12 ∨ i = 13 ∨ i = 14 ∨ i = 15 := by omega
              · exact hf
              · exact hf
              · exact hf
              · exact hf
              · exact hf
              · exact hf
              · exact hf
              · exact hf
              · rcases hS with rfl | hb9
                · exact hf
                · obtain ⟨lw, h1, h2⟩ := hf; exact ⟨lw, h1, h2.on hb9⟩
              · rcases hS with rfl | hb9
                · exact hf
                · obtain ⟨lw, h1, h2⟩ := hf; exact ⟨lw, h1, h2.on hb9⟩
              · rcases hS with rfl | hb9
                · exact hf
                · exact Rd.on hf hb9
              · exact hf
              · exact hf
              · rcases hS with rfl | hb9
                · exact hf
                · exact Rd.on hf hb9
              · exact hf
              · exact hf
            · unfold fact at *; rw [List.getD_eq_getElem?_getD, List.getElem?_eq_none (by simpa using hi)]; trivial
          case grd =>
            intro i oo d bb hi hg v w' hf
            obtain ⟨hlt1, rfl⟩ := Array.getElem?_eq_some_iff.1 hi
            have hlt' : i < 16 := hlt1
            clear hi
            obtain rfl | rfl | rfl | rfl | rfl | rfl | rfl | rfl | rfl | rfl | rfl | rfl | rfl | rfl | rfl | rfl : i = 0 ∨ i = 1 ∨ i = 2 ∨ i = 3 ∨ i = 4 ∨ i = 5 ∨ i = 6 ∨ i = 7 ∨ i = 8 ∨ i = 9 ∨ i = 10 ∨ i = 11 ∨ i = 12 ∨ i = 13 ∨ i = 14 ∨ i = 15 := by omega
            all_goals simp at hg
          case cg =>
            intro i oo d bb hi hg j
            obtain ⟨hlt1, rfl⟩ := Array.getElem?_eq_some_iff.1 hi
            have hlt' : i < 16 := hlt1
            clear hi
            obtain rfl | rfl | rfl | rfl | rfl | rfl | rfl | rfl | rfl | rfl | rfl | rfl | rfl | rfl | rfl | rfl : i = 0 ∨ i = 1 ∨ i = 2 ∨ i = 3 ∨ i = 4 ∨ i = 5 ∨ i = 6 ∨ i = 7 ∨ i = 8 ∨ i = 9 ∨ i = 10 ∨ i = 11 ∨ i = 12 ∨ i = 13 ∨ i = 14 ∨ i = 15 := by omega
            all_goals simp at hg
          case oo =>
            intro i oo hi qn a' wk hnn hj hb' hd
            obtain ⟨hlt1, rfl⟩ := Array.getElem?_eq_some_iff.1 hi
            have hlt' : i < 16 := hlt1
            clear hi
            obtain rfl | rfl | rfl | rfl | rfl | rfl | rfl | rfl | rfl | rfl | rfl | rfl | rfl | rfl | rfl | rfl : i = 0 ∨ i = 1 ∨ i = 2 ∨ i = 3 ∨ i = 4 ∨ i = 5 ∨ i = 6 ∨ i = 7 ∨ i = 8 ∨ i = 9 ∨ i = 10 ∨ i = 11 ∨ i = 12 ∨ i = 13 ∨ i = 14 ∨ i = 15 := by omega
            · have b17 : a'.eval (.tmp 17) = tv := hb' 17 (by kernel_rfl); have c17 := ev_get b17
              exact iv_val (v := tv) (by simp [execOp, b17]) ⟨_, rfl, hj, .inl rfl, rfl⟩
            · have b13 : a'.eval (.tmp 13) = .slice (some ⟨fb, fo, none⟩) m fc := hb' 13 (by kernel_rfl); have c13 := ev_get b13
              exact iv_val (v := .slice (some ⟨fb, fo, none⟩) m fc) (by simp [execOp, b13]) ⟨_, rfl, hj, .inl rfl, rfl⟩
            · have b14 : a'.eval (.tmp 14) = .int .i64 j := hb' 14 (by kernel_rfl); have c14 := ev_get b14
              exact iv_val (v := .int .i64 j) (by simp [execOp, b14]) ⟨_, rfl, hj, .inl rfl, rfl⟩
            · have v1 : a'.eval (.tmp 103) = .slice (some ⟨fb, fo, none⟩) m fc := hd ⟨1, .data⟩ (by simp) rfl (by intro j _ hc; revert hc; unfold noCons; simp; try omega); have u1 := ev_get v1
              have v2 : a'.eval (.tmp 104) = .int .i64 j := hd ⟨2, .data⟩ (by simp) rfl (by intro j _ hc; revert hc; unfold noCons; simp; try omega); have u2 := ev_get v2
              exact iv_val (v := .slice (some ⟨fb, fo, none⟩) j fc) (by simp [execOp, u1, u2, hjc, go_sem, Result.andThen]) ⟨_, rfl, hj, .inl rfl, rfl⟩
            · have b9 : a'.eval (.tmp 9) = .slice (some ⟨nb, no, none⟩) m nc := hb' 9 (by kernel_rfl); have c9 := ev_get b9
              exact iv_val (v := .slice (some ⟨nb, no, none⟩) m nc) (by simp [execOp, b9]) ⟨_, rfl, hj, .inl rfl, rfl⟩
            · have b14 : a'.eval (.tmp 14) = .int .i64 j := hb' 14 (by kernel_rfl); have c14 := ev_get b14
              exact iv_val (v := .int .i64 j) (by simp [execOp, b14]) ⟨_, rfl, hj, .inl rfl, rfl⟩
            · have v4 : a'.eval (.tmp 106) = .slice (some ⟨nb, no, none⟩) m nc := hd ⟨4, .data⟩ (by simp) rfl (by intro j _ hc; revert hc; unfold noCons; simp; try omega); have u4 := ev_get v4
              have v5 : a'.eval (.tmp 107) = .int .i64 j := hd ⟨5, .data⟩ (by simp) rfl (by intro j _ hc; revert hc; unfold noCons; simp; try omega); have u5 := ev_get v5
              exact iv_val (v := .slice (some ⟨nb, no, none⟩) j nc) (by simp [execOp, u4, u5, hjc2, go_sem, Result.andThen]) ⟨_, rfl, hj, .inl rfl, rfl⟩
            · have b18 : a'.eval (.tmp 18) = .int .i64 p1 := hb' 18 (by kernel_rfl); have c18 := ev_get b18
              exact iv_val (v := .int .i64 p1) (by simp [execOp, b18]) ⟨_, rfl, hj, .inl rfl, rfl⟩
            · have v0 : a'.eval (.tmp 102) = tv := hd ⟨0, .data⟩ (by simp) rfl (by intro j _ hc; revert hc; unfold noCons; simp; try omega); have u0 := ev_get v0
              have v3 : a'.eval (.tmp 105) = .slice (some ⟨fb, fo, none⟩) j fc := hd ⟨3, .data⟩ (by simp) rfl (by intro j _ hc; revert hc; unfold noCons; simp; try omega); have u3 := ev_get v3
              have v6 : a'.eval (.tmp 108) = .slice (some ⟨nb, no, none⟩) j nc := hd ⟨6, .data⟩ (by simp) rfl (by intro j _ hc; revert hc; unfold noCons; simp; try omega); have u6 := ev_get v6
              have v7 : a'.eval (.tmp 109) = .int .i64 p1 := hd ⟨7, .data⟩ (by simp) rfl (by intro j _ hc; revert hc; unfold noCons; simp; try omega); have u7 := ev_get v7
              refine iv_enter (f := 97) (args := #[tv, .slice (some ⟨fb, fo, none⟩) j fc, .slice (some ⟨nb, no, none⟩) j nc, .int .i64 p1]) (by simp [execOp, u0, u3, u6, u7, go_sem]) ?_
              refine (impl_putFolders_c _ _ _ s1 (E.take j) (parts.take j) p1 wk Y HY.out (SW.out.on hj) (FW.out.on hj) (NW.out.on hj) HT1.out HT2.out HT3.out (GW.out.on hj)).mono ?_
              rintro e9 w9 ⟨v9, rfl, o9, b9⟩
              exact ⟨_, rfl, _, rfl, bl_then hj b9, .inr b9, (show isTupP W0 Y _ w9 from ⟨v9, rfl, o9⟩)⟩
            · have et : isTupP W0 Y (a'.eval (.tmp 110)) wk := hd ⟨8, .data⟩ (by simp) rfl (by intro j _ hc; revert hc; unfold noCons; simp; try omega)
              exact iv_val (v := a'.eval (.tmp 110)) (by simp [execOp]) ⟨_, rfl, hj, .inl rfl, et⟩
            · have et : isTupP W0 Y (a'.eval (.tmp 101)) wk := hd ⟨9, .data⟩ (by simp) rfl (by intro j _ hc; revert hc; unfold noCons; simp; try omega)
              obtain ⟨lw, hlw, how⟩ := et
              have ut := ev_get hlw
              exact iv_val (v := lw) (by simp [execOp, ut, go_sem, Result.andThen]) ⟨_, rfl, hj, .inl rfl, (show isPcsY W0 Y _ wk from how)⟩
            · have et : isTupP W0 Y (a'.eval (.tmp 101)) wk := hd ⟨9, .data⟩ (by simp) rfl (by intro j _ hc; revert hc; unfold noCons; simp; try omega)
              obtain ⟨lw, hlw, how⟩ := et
              have ut := ev_get hlw
              exact iv_val (v := .int .i64 ((Y.map (·.2)).getD (-1))) (by simp [execOp, ut, go_sem, Result.andThen]) ⟨_, rfl, hj, .inl rfl, rfl⟩
            · have et : isTupP W0 Y (a'.eval (.tmp 101)) wk := hd ⟨9, .data⟩ (by simp) rfl (by intro j _ hc; revert hc; unfold noCons; simp; try omega)
              obtain ⟨lw, hlw, how⟩ := et
              have ut := ev_get hlw
              exact iv_val (v := .bool Y.isSome) (by simp [execOp, ut, go_sem, Result.andThen]) ⟨_, rfl, hj, .inl rfl, rfl⟩
            · have et : isPcsY W0 Y (a'.eval (.tmp 111)) wk := hd ⟨10, .data⟩ (by simp) rfl (by intro j _ hc; revert hc; unfold noCons; simp; try omega)
              exact iv_val (v := a'.eval (.tmp 111)) (by simp [execOp]) ⟨_, rfl, hj, .inl rfl, et⟩
            · have v11 : a'.eval (.tmp 112) = .int .i64 ((Y.map (·.2)).getD (-1)) := hd ⟨11, .data⟩ (by simp) rfl (by intro j _ hc; revert hc; unfold noCons; simp; try omega); have u11 := ev_get v11
              exact iv_val (v := .int .i64 ((Y.map (·.2)).getD (-1))) (by simp [execOp, v11]) ⟨_, rfl, hj, .inl rfl, rfl⟩
            · have v12 : a'.eval (.tmp 113) = .bool Y.isSome := hd ⟨12, .data⟩ (by simp) rfl (by intro j _ hc; revert hc; unfold noCons; simp; try omega); have u12 := ev_get v12
              exact iv_val (v := .bool Y.isSome) (by simp [execOp, v12]) ⟨_, rfl, hj, .inl rfl, rfl⟩
          case fin =>
            intro tm w9 hj hF
            have q17 : Pcs w9 w9.heap.size (tm.getD 17 undef) ((Y.map (·.1)).getD []) := hF 13 _ rfl (fun j => rfl)
            have q18 : tm.getD 18 undef = .int .i64 ((Y.map (·.2)).getD (-1)) := hF 14 _ rfl (fun j => rfl)
            have q10 : tm.getD 10 undef = .bool Y.isSome := hF 15 _ rfl (fun j => rfl)
            clear hF
            simp only [refillL, List.setIfInBounds_toArray, List.set_cons_succ, List.set_cons_zero]
            rw [q18, q10]
            obtain ⟨wv, hwv⟩ : ∃ wv, tm.getD 17 undef = wv := ⟨_, rfl⟩
            rw [hwv] at q17 ⊢
            clear hwv q18 q10
            have d9 := bl_then d0 hj
            clear hj
            cases Y with
            | none =>
              obtain rfl : R = (xs, root, false) := by rw [← HDE.out, HWY.out]
              clear q17
              go_wp2_with fail
              refine (cloneP_c _ xs _ (HP.out _ d9) HL.out).mono ?_
              rintro e w10 ⟨u10, rfl, o10, b10⟩
              have d10 := bl_then d9 b10
              go_wp2
              go_ret3
              exact ⟨_, rfl, Rd.of_own o10, d10⟩
            | some sp =>
              obtain ⟨s2, p2⟩ := sp
              obtain rfl : R = (s2, p2, true) := by rw [← HDE.out, HWY.out]
              go_wp2
              go_ret3
              exact ⟨_, rfl, q17, d9⟩
        · have hq2 : ((q : Int) == 0) = false := by simp; omega
          go_wp2_with fail
          refine (impl_FolderText_c _ T _ O5.out (HG.out _ d5)).mono ?_
          rintro e w6 ⟨rfl, b6⟩
          have d6 := bl_then d5 b6
          have e6 := bl_then D5 b6
          clear b6 d5 O5
          obtain ⟨pt, hpt⟩ : ∃ pt, putS xs (strL (folderText T)) = pt := ⟨_, rfl⟩
          have HPUT := hid hpt
          clear hpt
          go_wp2_with fail
          refine (impl_PutText_c _ xs _ _ (HP.out _ d6)).mono ?_
          rw [HPUT.out]
          obtain ⟨s1, p1, ok1⟩ := pt
          rintro e w7 ⟨tv, rfl, o7, b7⟩
          have d7 := bl_then d6 b7
          have e7 := bl_then e6 b7
          have S7 := hid (Rd.of_own o7)
          clear b7 d6 e6 o7 D5
          cases ok1
          · obtain rfl : R = (xs, root, false) := by rw [← HDE.out, HDO.out, HPUT.out]; rfl
            go_wp2_with fail
            refine (cloneP_c _ xs _ (HP.out _ d7) HL.out).mono ?_
            rintro e w8 ⟨u8, rfl, o8, b8⟩
            have d8 := bl_then d7 b8
            go_wp2
            go_ret3
            exact ⟨_, rfl, Rd.of_own o8, d8⟩
          have HP1 := hid (show p1 = printOf (folderText T) by
            have := (put_get HSK.out (t := strL (folderText T)) (by rw [HPUT.out])).2.2.1
            rw [HPUT.out, bs_strL] at this
            exact this)
          obtain ⟨Y, hY⟩ : ∃ Y, backTo s1 ((E.take j).zip (parts.take j)) p1 = Y := ⟨_, rfl⟩
          have HY := hid hY
          have HWY := hid (show dropOff xs root parts = Y by rw [HDO.out, HPUT.out, if_pos rfl, ← HP1.out, HZP.out, zip_take]; exact hY)
          clear hY HDO
          go_wp2
          refine drew_out w7 ⟨0, rfl⟩ ?_
          rintro W0 ⟨z00, hW0⟩
          have hw0 : Below w7.heap.size w7 W0 := by rw [hW0]; exact bl_drewN (Below.refl _ _) z00
          have d0 := bl_then d7 hw0
          have SW := hid (S7.out.on hw0)
          have FW := hid (Folds.front ((FR4.out.on (bl_then e7 hw0))) HEL.out (show j ≤ m by omega))
          have NW := hid (Rd.frontS (R4.out.on (bl_then e7 hw0)) HML.out (show j ≤ m by omega))
          have GW := hid (HG.out _ d0)
          have HT1 := hid (show (E.take j).length ≤ (parts.take j).length by rw [List.length_take, List.length_take, HEL.out, HML.out]; exact Nat.le_refl _)
          have HT2 := hid (show (parts.take j).length ≤ 1000 by rw [List.length_take]; omega)
          have HT3 := hid (show ∀ x ∈ parts.take j, x.size ≤ 1048576 from fun x hx => HSM.out x (List.mem_of_mem_take hx))
          clear hW0 hw0 S7 d7 e7
          refine wp_region_inv3e rfl (by kernel_rfl) (by kernel_rfl) (by kernel_rfl) (by kernel_rfl) (by simp) (fun _ w' => Below W0.heap.size W0 w') (fun j w' w'' => w' = w'' ∨ Below w'.heap.size w' w'') (fact [isV tv, isV (.slice (some ⟨fb, fo, none⟩) m fc), isV (.int .i64 j), isV (.slice (some ⟨fb, fo, none⟩) j fc), isV (.slice (some ⟨nb, no, none⟩) m nc), isV (.int .i64 j), isV (.slice (some ⟨nb, no, none⟩) j nc), isV (.int .i64 p1), isTupP W0 Y, isTupP W0 Y, isPcsY W0 Y, isV (.int .i64 ((Y.map (·.2)).getD (-1))), isV (.bool Y.isSome), isPcsY W0 Y, isV (.int .i64 ((Y.map (·.2)).getD (-1))), isV (.bool Y.isSome)]) noCons (Below.refl _ _).drew ?hF ?grd ?oo ?cg ?fin
          case hF =>
            intro j i v w' w'' hS hc hne hwt hdp hf
            have hi : i < 16 ∨ 16 ≤ i := by omega
            rcases hi with hi | hi
            · obtain rfl | rfl | rfl | rfl | rfl | rfl | rfl | rfl | rfl | rfl | rfl | rfl | rfl | rfl | rfl | rfl : i = 0 ∨ i = 1 ∨ i = 2 ∨ i = 3 ∨ i = 4 ∨ i = 5 ∨ i = 6 ∨ i = 7 ∨ i = 8 ∨ i = 9 ∨ i = 10 ∨ i = 11 ∨ i = 12 ∨ i = 13 ∨ i = 14 ∨ i = 15 := by omega
              · exact hf
              · exact hf
              · exact hf
              · exact hf
              · exact hf
              · exact hf
              · exact hf
              · exact hf
              · rcases hS with rfl | hb9
                · exact hf
                · obtain ⟨lw, h1, h2⟩ := hf; exact ⟨lw, h1, h2.on hb9⟩
              · rcases hS with rfl | hb9
                · exact hf
                · obtain ⟨lw, h1, h2⟩ := hf; exact ⟨lw, h1, h2.on hb9⟩
              · rcases hS with rfl | hb9
                · exact hf
                · exact Rd.on hf hb9
              · exact hf
              · exact hf
              · rcases hS with rfl | hb9
                · exact hf
                · exact Rd.on hf hb9
              · exact hf
              · exact hf
            · unfold fact at *; rw [List.getD_eq_getElem?_getD, List.getElem?_eq_none (by simpa using hi)]; trivial
          case grd =>
            intro i oo d bb hi hg v w' hf
            obtain ⟨hlt1, rfl⟩ := Array.getElem?_eq_some_iff.1 hi
            have hlt' : i < 16 := hlt1
            clear hi
            obtain rfl | rfl | rfl | rfl | rfl | rfl | rfl | rfl | rfl | rfl | rfl | rfl | rfl | rfl | rfl | rfl : i = 0 ∨ i = 1 ∨ i = 2 ∨ i = 3 ∨ i = 4 ∨ i = 5 ∨ i = 6 ∨ i = 7 ∨ i = 8 ∨ i = 9 ∨ i = 10 ∨ i = 11 ∨ i = 12 ∨ i = 13 ∨ i = 14 ∨ i = 15 := by omega
            all_goals simp at hg
          case cg =>
            intro i oo d bb hi hg j
            obtain ⟨hlt1, rfl⟩ := Array.getElem?_eq_some_iff.1 hi
            have hlt' : i < 16 := hlt1
            clear hi
            obtain rfl | rfl | rfl | rfl | rfl | rfl | rfl | rfl | rfl | rfl | rfl | rfl | rfl | rfl | rfl | rfl : i = 0 ∨ i = 1 ∨ i = 2 ∨ i = 3 ∨ i = 4 ∨ i = 5 ∨ i = 6 ∨ i = 7 ∨ i = 8 ∨ i = 9 ∨ i = 10 ∨ i = 11 ∨ i = 12 ∨ i = 13 ∨ i = 14 ∨ i = 15 := by omega
            all_goals simp at hg
          case oo =>
            intro i oo hi qn a' wk hnn hj hb' hd
            obtain ⟨hlt1, rfl⟩ := Array.getElem?_eq_some_iff.1 hi
            have hlt' : i < 16 := hlt1
            clear hi
            obtain rfl | rfl | rfl | rfl | rfl | rfl | rfl | rfl | rfl | rfl | rfl | rfl | rfl | rfl | rfl | rfl : i = 0 ∨ i = 1 ∨ i = 2 ∨ i = 3 ∨ i = 4 ∨ i = 5 ∨ i = 6 ∨ i = 7 ∨ i = 8 ∨ i = 9 ∨ i = 10 ∨ i = 11 ∨ i = 12 ∨ i = 13 ∨ i = 14 ∨ i = 15 := by omega
            · have b17 : a'.eval (.tmp 17) = tv := hb' 17 (by kernel_rfl); have c17 := ev_get b17
              exact iv_val (v := tv) (by simp [execOp, b17]) ⟨_, rfl, hj, .inl rfl, rfl⟩
            · have b13 : a'.eval (.tmp 13) = .slice (some ⟨fb, fo, none⟩) m fc := hb' 13 (by kernel_rfl); have c13 := ev_get b13
              exact iv_val (v := .slice (some ⟨fb, fo, none⟩) m fc) (by simp [execOp, b13]) ⟨_, rfl, hj, .inl rfl, rfl⟩
            · have b14 : a'.eval (.tmp 14) = .int .i64 j := hb' 14 (by kernel_rfl); have c14 := ev_get b14
              exact iv_val (v := .int .i64 j) (by simp [execOp, b14]) ⟨_, rfl, hj, .inl rfl, rfl⟩
            · have v1 : a'.eval (.tmp 103) = .slice (some ⟨fb, fo, none⟩) m fc := hd ⟨1, .data⟩ (by simp) rfl (by intro j _ hc; revert hc; unfold noCons; simp; try omega); have u1 := ev_get v1
              have v2 : a'.eval (.tmp 104) = .int .i64 j := hd ⟨2, .data⟩ (by simp) rfl (by intro j _ hc; revert hc; unfold noCons; simp; try omega); have u2 := ev_get v2
              exact iv_val (v := .slice (some ⟨fb, fo, none⟩) j fc) (by simp [execOp, u1, u2, hjc, go_sem, Result.andThen]) ⟨_, rfl, hj, .inl rfl, rfl⟩
            · have b9 : a'.eval (.tmp 9) = .slice (some ⟨nb, no, none⟩) m nc := hb' 9 (by kernel_rfl); have c9 := ev_get b9
              exact iv_val (v := .slice (some ⟨nb, no, none⟩) m nc) (by simp [execOp, b9]) ⟨_, rfl, hj, .inl rfl, rfl⟩
            · have b14 : a'.eval (.tmp 14) = .int .i64 j := hb' 14 (by kernel_rfl); have c14 := ev_get b14
              exact iv_val (v := .int .i64 j) (by simp [execOp, b14]) ⟨_, rfl, hj, .inl rfl, rfl⟩
            · have v4 : a'.eval (.tmp 106) = .slice (some ⟨nb, no, none⟩) m nc := hd ⟨4, .data⟩ (by simp) rfl (by intro j _ hc; revert hc; unfold noCons; simp; try omega); have u4 := ev_get v4
              have v5 : a'.eval (.tmp 107) = .int .i64 j := hd ⟨5, .data⟩ (by simp) rfl (by intro j _ hc; revert hc; unfold noCons; simp; try omega); have u5 := ev_get v5
              exact iv_val (v := .slice (some ⟨nb, no, none⟩) j nc) (by simp [execOp, u4, u5, hjc2, go_sem, Result.andThen]) ⟨_, rfl, hj, .inl rfl, rfl⟩
            · have b18 : a'.eval (.tmp 18) = .int .i64 p1 := hb' 18 (by kernel_rfl); have c18 := ev_get b18
              exact iv_val (v := .int .i64 p1) (by simp [execOp, b18]) ⟨_, rfl, hj, .inl rfl, rfl⟩
            · have v0 : a'.eval (.tmp 102) = tv := hd ⟨0, .data⟩ (by simp) rfl (by intro j _ hc; revert hc; unfold noCons; simp; try omega); have u0 := ev_get v0
              have v3 : a'.eval (.tmp 105) = .slice (some ⟨fb, fo, none⟩) j fc := hd ⟨3, .data⟩ (by simp) rfl (by intro j _ hc; revert hc; unfold noCons; simp; try omega); have u3 := ev_get v3
              have v6 : a'.eval (.tmp 108) = .slice (some ⟨nb, no, none⟩) j nc := hd ⟨6, .data⟩ (by simp) rfl (by intro j _ hc; revert hc; unfold noCons; simp; try omega); have u6 := ev_get v6
              have v7 : a'.eval (.tmp 109) = .int .i64 p1 := hd ⟨7, .data⟩ (by simp) rfl (by intro j _ hc; revert hc; unfold noCons; simp; try omega); have u7 := ev_get v7
              refine iv_enter (f := 97) (args := #[tv, .slice (some ⟨fb, fo, none⟩) j fc, .slice (some ⟨nb, no, none⟩) j nc, .int .i64 p1]) (by simp [execOp, u0, u3, u6, u7, go_sem]) ?_
              refine (impl_putFolders_c _ _ _ s1 (E.take j) (parts.take j) p1 wk Y HY.out (SW.out.on hj) (FW.out.on hj) (NW.out.on hj) HT1.out HT2.out HT3.out (GW.out.on hj)).mono ?_
              rintro e9 w9 ⟨v9, rfl, o9, b9⟩
              exact ⟨_, rfl, _, rfl, bl_then hj b9, .inr b9, (show isTupP W0 Y _ w9 from ⟨v9, rfl, o9⟩)⟩
            · have et : isTupP W0 Y (a'.eval (.tmp 110)) wk := hd ⟨8, .data⟩ (by simp) rfl (by intro j _ hc; revert hc; unfold noCons; simp; try omega)
              exact iv_val (v := a'.eval (.tmp 110)) (by simp [execOp]) ⟨_, rfl, hj, .inl rfl, et⟩
            · have et : isTupP W0 Y (a'.eval (.tmp 101)) wk := hd ⟨9, .data⟩ (by simp) rfl (by intro j _ hc; revert hc; unfold noCons; simp; try omega)
              obtain ⟨lw, hlw, how⟩ := et
              have ut := ev_get hlw
              exact iv_val (v := lw) (by simp [execOp, ut, go_sem, Result.andThen]) ⟨_, rfl, hj, .inl rfl, (show isPcsY W0 Y _ wk from how)⟩
            · have et : isTupP W0 Y (a'.eval (.tmp 101)) wk := hd ⟨9, .data⟩ (by simp) rfl (by intro j _ hc; revert hc; unfold noCons; simp; try omega)
              obtain ⟨lw, hlw, how⟩ := et
              have ut := ev_get hlw
              exact iv_val (v := .int .i64 ((Y.map (·.2)).getD (-1))) (by simp [execOp, ut, go_sem, Result.andThen]) ⟨_, rfl, hj, .inl rfl, rfl⟩
            · have et : isTupP W0 Y (a'.eval (.tmp 101)) wk := hd ⟨9, .data⟩ (by simp) rfl (by intro j _ hc; revert hc; unfold noCons; simp; try omega)
              obtain ⟨lw, hlw, how⟩ := et
              have ut := ev_get hlw
              exact iv_val (v := .bool Y.isSome) (by simp [execOp, ut, go_sem, Result.andThen]) ⟨_, rfl, hj, .inl rfl, rfl⟩
            · have et : isPcsY W0 Y (a'.eval (.tmp 111)) wk := hd ⟨10, .data⟩ (by simp) rfl (by intro j _ hc; revert hc; unfold noCons; simp; try omega)
              exact iv_val (v := a'.eval (.tmp 111)) (by simp [execOp]) ⟨_, rfl, hj, .inl rfl, et⟩
            · have v11 : a'.eval (.tmp 112) = .int .i64 ((Y.map (·.2)).getD (-1)) := hd ⟨11, .data⟩ (by simp) rfl (by intro j _ hc; revert hc; unfold noCons; simp; try omega); have u11 := ev_get v11
              exact iv_val (v := .int .i64 ((Y.map (·.2)).getD (-1))) (by simp [execOp, v11]) ⟨_, rfl, hj, .inl rfl, rfl⟩
            · have v12 : a'.eval (.tmp 113) = .bool Y.isSome := hd ⟨12, .data⟩ (by simp) rfl (by intro j _ hc; revert hc; unfold noCons; simp; try omega); have u12 := ev_get v12
              exact iv_val (v := .bool Y.isSome) (by simp [execOp, v12]) ⟨_, rfl, hj, .inl rfl, rfl⟩
          case fin =>
            intro tm w9 hj hF
            have q17 : Pcs w9 w9.heap.size (tm.getD 17 undef) ((Y.map (·.1)).getD []) := hF 13 _ rfl (fun j => rfl)
            have q18 : tm.getD 18 undef = .int .i64 ((Y.map (·.2)).getD (-1)) := hF 14 _ rfl (fun j => rfl)
            have q10 : tm.getD 10 undef = .bool Y.isSome := hF 15 _ rfl (fun j => rfl)
            clear hF
            simp only [refillL, List.setIfInBounds_toArray, List.set_cons_succ, List.set_cons_zero]
            rw [q18, q10]
            obtain ⟨wv, hwv⟩ : ∃ wv, tm.getD 17 undef = wv := ⟨_, rfl⟩
            rw [hwv] at q17 ⊢
            clear hwv q18 q10
            have d9 := bl_then d0 hj
            clear hj
            cases Y with
            | none =>
              obtain rfl : R = (xs, root, false) := by rw [← HDE.out, HWY.out]
              clear q17
              go_wp2_with fail
              refine (cloneP_c _ xs _ (HP.out _ d9) HL.out).mono ?_
              rintro e w10 ⟨u10, rfl, o10, b10⟩
              have d10 := bl_then d9 b10
              go_wp2
              go_ret3
              exact ⟨_, rfl, Rd.of_own o10, d10⟩
            | some sp =>
              obtain ⟨s2, p2⟩ := sp
              obtain rfl : R = (s2, p2, true) := by rw [← HDE.out, HWY.out]
              go_wp2
              go_ret3
              exact ⟨_, rfl, q17, d9⟩

end Go.Proofs.YtachfmlfmpaddaaGreatDoor
