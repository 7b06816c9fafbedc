/- Walks and plain facts, joined: WriteW, GoodP, Find, Want, Named, ReachP, Count, CountS, Top, Miss, LwP. -/
import Derived.Test.YtfdhaigmekmboaaMg2
import Derived.Test.YtfdhaigmekmboaaMg3
import Derived.Test.YtfdhaigmekmboaaMg4
import Derived.Test.YtfdhaigmekmboaaMg5
set_option linter.unusedVariables false

/- Walks: the reference's writes and drops. -/
namespace Go.Proofs.Ytfdhaigmekmboaa
open Go.RowKit

theorem parts_small {path : List UInt8} {ws : List (List UInt8)} (h : pathParts path = some ws) : (∀ x ∈ ws.map strL, x.size ≤ 1000) ∧ (ws.map strL).length ≤ 3 := by
  obtain ⟨h1, h2, _⟩ := pathParts_in h
  refine ⟨fun x hx => ?_, by simpa using h1⟩
  obtain ⟨y, hy, rfl⟩ := List.mem_map.1 hx
  have := h2 y hy
  simp only [wordOk, Bool.and_eq_true, decide_eq_true_eq] at this
  rw [strL_size]; omega
theorem Own.cat0 {w : World} {n c : Nat} {a : Option Addr} {xs : List Pc} (h : Pcs w w.heap.size (.slice a n c) xs) : Pcs (w.alloc (.cells #[] 45)) (w.alloc (.cells #[] 45)).heap.size (.slice a n c) xs := h.on ((Below.refl _ _).alloc (Nat.le_refl _) _)

def WrPost (w : World) (R : List Pc × Int × Bool) : Ending → World → Prop := fun e w' => ∃ v', e = .returned (.tuple #[v', .int .i64 R.2.1, .bool R.2.2]) ∧ OwnP w' w.heap.size v' R.1 ∧ Below w.heap.size w w'

set_option maxHeartbeats 2000000 in
set_option maxRecDepth 100000 in
theorem spec_EmptyRoot_c (v : Value) (xs : List Pc) (w : World) (h : Pcs w w.heap.size v xs) (hx0 : ∀ x ∈ xs, x.text.size ≤ 1048576) (hl0 : xs.length ≤ 1048576) :
    Calls Try.prog 49 #[v] w fun e w' => ∃ v', e = .returned (.tuple #[v', .int .i64 (emptyRoot xs).2.1, .bool (emptyRoot xs).2.2]) ∧ OwnP w' w.heap.size v' (emptyRoot xs).1 ∧ Below w.heap.size w w' := by
  have hal : Below w.heap.size w (w.alloc (.cells #[] 78)) := (Below.refl _ _).alloc (Nat.le_refl _) _
  have hown0 : Hid (OwnE (w.alloc (.cells #[] 78)) w.heap.size (.slice (some ⟨w.heap.size, 0, none⟩) 0 0) []) := hid (Own.made _ (Nat.le_refl _))
  have HH := hid h
  have HX := hid hx0
  have HL := hid hl0
  obtain ⟨⟨xs2, p2, ok2⟩, hpq⟩ : ∃ P, emptyRoot xs = P := ⟨_, rfl⟩
  have HPQ := hid (show putS xs (strL (folderText [])) = (xs2, p2, ok2) from hpq)
  rw [hpq]
  have HFT := hid (show (strL (folderText [])).size ≤ 4611686018427387904 by rw [strL_size]; have := folder_len (show entsOk [] = true from rfl); omega)
  clear h hx0 hl0 hpq
  go_enter Try.func49, Try.ntmps49
  go_wp2_with fail
  refine (spec_FolderText_c _ [] _ _ (Rd.of_own hown0.out) (by simp) (by simp)).mono ?_
  rintro e w7 ⟨rfl, z7, rfl⟩
  have d8 := bl_drewN hal z7
  have h8 := hid (HH.out.on d8)
  go_wp2_with fail
  refine (spec_PutText_c _ xs _ _ h8.out HX.out HL.out HFT.out).mono ?_
  rw [HPQ.out]
  rintro e w8 ⟨fv, rfl, o8, b8⟩
  have d9 := bl_then d8 b8
  have O8 := hid (o8.less d8.size)
  clear o8 b8 d8
  go_wp2
  go_ret3
  exact ⟨_, rfl, O8.out, d9⟩

theorem write_off {xs : List Pc} {root : Int} {path content : List UInt8} (h : storeOk xs = false ∨ pathParts path = none ∨ pathParts path = some [] ∨ contOk content = false) : writeAt xs root path content = ([], -1, false) := by
  unfold writeAt
  cases hp : pathParts path with
  | none => rfl
  | some ws =>
    simp only []
    rw [if_pos]
    rcases h with h | h | h | h
    · exact .inl h
    · rw [hp] at h; cases h
    · rw [hp] at h; exact .inr (.inl (Option.some.inj h))
    · exact .inr (.inr h)
theorem write_on {xs : List Pc} {root : Int} {path content : List UInt8} {ws : List (List UInt8)} (hs : storeOk xs = true) (hp : pathParts path = some ws) (h0 : ws ≠ []) (hc : contOk content = true) :
    writeAt xs root path content = if hasP xs root = false then (xs, root, false)
    else if (setAt xs root (ws.map strL) (printOf (fileText content))).2.2 = false then (xs, root, false)
    else if (putS (setAt xs root (ws.map strL) (printOf (fileText content))).1 (strL (fileText content))).2.2 = false then (xs, root, false)
    else ((putS (setAt xs root (ws.map strL) (printOf (fileText content))).1 (strL (fileText content))).1, (setAt xs root (ws.map strL) (printOf (fileText content))).2.1, true) := by
  unfold writeAt
  rw [hp]
  simp only []
  rw [if_neg (fun h => h.elim (fun h => by rw [hs] at h; cases h) (fun h => h.elim h0 (fun h => by rw [hc] at h; cases h)))]

set_option maxHeartbeats 2000000 in
set_option maxRecDepth 100000 in
theorem spec_WriteAt_c (v : Value) (xs : List Pc) (root : Int) (path content : ByteArray) (w : World) (R : List Pc × Int × Bool) (hR : writeAt xs root (bs path) (bs content) = R) (h : Pcs w w.heap.size v xs) (hx0 : ∀ x ∈ xs, x.text.size ≤ 1048576) (hl0 : xs.length ≤ 1048576) (hp0 : path.size ≤ 900) (hc0 : content.size ≤ 1000000) :
    Calls Try.prog 57 #[v, .int .i64 root, .string path, .string content] w (WrPost w R) := by
  obtain ⟨n, hn⟩ : ∃ n, xs.length = n := ⟨_, rfl⟩
  obtain ⟨a, c, rfl, hnc, hc63, _⟩ := h.pcs hn
  have HN := hid hn
  have HH := hid h
  have HX := hid hx0
  have HL := hid hl0
  have HR := hid hR
  have HC := hid hc0
  obtain ⟨P, hP⟩ : ∃ P, pathParts (bs path) = P := ⟨_, rfl⟩
  have HP := hid hP
  clear hn h hx0 hl0 hR hP
  obtain ⟨i0, hi0, hz0, hz1, hz2⟩ := info_parts info_pcO
  cases hok : storeOk xs
  · have HK := hid hok
    obtain rfl : R = ([], -1, false) := by rw [← HR.out]; exact write_off (.inl hok)
    clear hok
    go_enter Try.func57, Try.ntmps57
    go_wp2_with fail
    refine (spec_PathParts_c _ _ hp0).mono ?_
    rw [HP.out]
    rintro e w1 ⟨pv, rfl, o1, b1⟩
    clear o1
    go_wp2_with fail
    refine (spec_StoreValid_c _ xs _ _ (HH.out.on b1) HX.out HL.out).mono ?_
    rw [HK.out]
    rintro e w2 ⟨rfl, z, rfl⟩
    have d2 := bl_drewN b1 z
    clear b1
    go_wp2
    go_ret3
    exact ⟨_, rfl, Own.made _ d2.size, d2.alloc d2.size _⟩
  have HK := hid hok
  clear hok
  cases P with
  | none =>
    obtain rfl : R = ([], -1, false) := by rw [← HR.out]; exact write_off (.inr (.inl HP.out))
    go_enter Try.func57, Try.ntmps57
    go_wp2_with fail
    refine (spec_PathParts_c _ _ hp0).mono ?_
    rw [HP.out]
    rintro e w1 ⟨pv, rfl, o1, b1⟩
    clear o1
    go_wp2_with fail
    refine (spec_StoreValid_c _ xs _ _ (HH.out.on b1) HX.out HL.out).mono ?_
    rw [HK.out]
    rintro e w2 ⟨rfl, z, rfl⟩
    have d2 := bl_drewN b1 z
    clear b1
    go_wp2
    go_ret3
    exact ⟨_, rfl, Own.made _ d2.size, d2.alloc d2.size _⟩
  | some ws =>
    have HPS := hid (parts_small HP.out)
    obtain ⟨m, hm⟩ : ∃ m, (ws.map strL).length = m := ⟨_, rfl⟩
    have HM := hid hm
    have hm3 : m ≤ 3 := by rw [← hm]; exact HPS.out.2
    clear hm
    by_cases hm0 : m = 0
    · obtain rfl : R = ([], -1, false) := by
        rw [← HR.out]; refine write_off (.inr (.inr (.inl ?_)))
        have := HM.out; rw [hm0] at this
        rw [HP.out, List.length_map] at *
        rw [List.eq_nil_of_length_eq_zero this]
      have hmd : ((m : Int) == 0) = true := by rw [hm0]; rfl
      clear hm0
      go_enter Try.func57, Try.ntmps57
      go_wp2_with fail
      refine (spec_PathParts_c _ _ hp0).mono ?_
      rw [HP.out]
      rintro e w1 ⟨pv, rfl, o1, b1⟩
      obtain ⟨pa, pc, rfl, _, _, _⟩ := (Rd.of_own o1).strs HM.out
      clear o1
      go_wp2_with fail
      refine (spec_StoreValid_c _ xs _ _ (HH.out.on b1) HX.out HL.out).mono ?_
      rw [HK.out]
      rintro e w2 ⟨rfl, z, rfl⟩
      have d2 := bl_drewN b1 z
      clear b1
      go_wp2
      go_ret3
      exact ⟨_, rfl, Own.made _ d2.size, d2.alloc d2.size _⟩
    have hmd : ((m : Int) == 0) = false := by simp; omega
    have H0 := hid (show ws ≠ [] by rintro rfl; have := HM.out; simp at this; omega)
    clear hm0
    cases hco : contOk (bs content)
    · obtain rfl : R = ([], -1, false) := by rw [← HR.out]; exact write_off (.inr (.inr (.inr hco)))
      have HCO := hid hco
      clear hco
      go_enter Try.func57, Try.ntmps57
      go_wp2_with fail
      refine (spec_PathParts_c _ _ hp0).mono ?_
      rw [HP.out]
      rintro e w1 ⟨pv, rfl, o1, b1⟩
      obtain ⟨pa, pc, rfl, _, _, _⟩ := (Rd.of_own o1).strs HM.out
      clear o1
      go_wp2_with fail
      refine (spec_StoreValid_c _ xs _ _ (HH.out.on b1) HX.out HL.out).mono ?_
      rw [HK.out]
      rintro e w2 ⟨rfl, z, rfl⟩
      have d2 := bl_drewN b1 z
      clear b1
      go_wp2_with (go_at_call 65; refine (spec_ContentValid_c _ _ HC.out).mono ?_; rw [HCO.out]; rintro e w3 ⟨rfl, rfl⟩)
      go_ret3
      exact ⟨_, rfl, Own.made _ d2.size, d2.alloc d2.size _⟩
    have HCO := hid hco
    have HRR := hid (HR.out.symm.trans (write_on HK.out HP.out H0.out hco))
    clear hco HR
    go_enter Try.func57, Try.ntmps57
    go_wp2_with fail
    refine (spec_PathParts_c _ _ hp0).mono ?_
    rw [HP.out]
    rintro e w1 ⟨pv, rfl, o1, b1⟩
    obtain ⟨pa, pc, rfl, _, _, _⟩ := (Rd.of_own o1).strs HM.out
    have O1 := hid (Rd.of_own o1)
    clear o1
    go_wp2_with fail
    refine (spec_StoreValid_c _ xs _ _ (HH.out.on b1) HX.out HL.out).mono ?_
    rw [HK.out]
    rintro e w2 ⟨rfl, z, rfl⟩
    obtain ⟨W0, hW0⟩ : ∃ W0, W0 = w1.drewN z := ⟨_, rfl⟩
    have d2 : Below w.heap.size w W0 := by rw [hW0]; exact bl_drewN b1 z
    have O2 : Hid (Strs W0 W0.heap.size (.slice pa m pc) (ws.map strL)) := by rw [hW0]; exact O1.out.drewN z
    have H2 := hid (HH.out.on d2)
    have hal : Below W0.heap.size W0 (W0.alloc (.cells #[] 45)) := (Below.refl _ _).alloc (Nat.le_refl _) _
    rw [← hW0]
    clear b1 hW0 O1
    go_wp2_with (first | (go_at_call 65; refine (spec_ContentValid_c _ _ HC.out).mono ?_; rw [HCO.out]; rintro e w3 ⟨rfl, rfl⟩) | (at_builtin; refine wpList_cat (enc := encP) (w0 := W0.alloc (.cells #[] 45)) rfl _ _ 23 rfl W0.heap.size W0.heap.size 45 i0 _ 2 24 Try.underlying23 hi0 hz0 hz1 hz2 rfl (by decide) _ _ [] xs (Own.made W0 (Nat.le_refl _)) _ (H2.out.below hal (Nat.le_refl _)) (Below.refl _ _) (by simp) (Nat.le_refl _) rfl rfl encP_one (by have := HL.out; simp; omega) (by decide) ?_; intro sv w3 hown' hb' hB' hg'))
    have b3 := hal.trans hb'
    have d3 := bl_then d2 b3
    have O3 := hid (O2.out.on b3)
    have H3 := hid (H2.out.on b3)
    have S3 := hid (hown'.less d2.size)
    clear hown' hb' hg' hB' b3 d2 O2 H2 hal
    refine (spec_l4Get_c _ xs root _ _ H3.out).mono ?_
    rintro e w4 ⟨rfl, rfl⟩
    cases hp : hasP xs root
    · obtain rfl : R = (xs, root, false) := by rw [HRR.out, if_pos hp]
      clear hp
      go_wp2
      go_ret3
      exact ⟨sv, rfl, S3.out, d3⟩
    have HRR2 := hid (HRR.out.trans (if_neg (by rw [hp]; simp)))
    clear hp HRR
    obtain ⟨⟨xs1, p1, ok⟩, hR1⟩ : ∃ R1, setAt xs root (ws.map strL) (printOf (fileText (bs content))) = R1 := ⟨_, rfl⟩
    have HR1 := hid hR1
    rw [hR1] at HRR2
    have HS1 := hid (show storeOk xs1 = true by have := set_ok (ws.map strL) xs root (printOf (fileText (bs content))) HK.out; rw [hR1] at this; exact this)
    have HFS := hid (show (strL (fileText (bs content))).size ≤ 4611686018427387904 by
      rw [strL_size]; unfold fileText; rw [HCO.out]; simp; have := HC.out; have := bs_len content; omega)
    clear hR1
    go_wp2_with fail
    refine (spec_FileText_c _ _ HC.out).mono ?_
    rintro e w4 ⟨rfl, rfl⟩
    go_wp2_with fail
    refine (spec_PrintOf_e _ _ HFS.out (by rw [bs_strL])).mono ?_
    rintro e w4 ⟨rfl, rfl⟩
    go_wp2_with fail
    refine (spec_l10Set_c (ws.map strL) _ _ xs root _ _ (xs1, p1, ok) HR1.out H3.out HK.out O3.out HPS.out.1 (by have := HPS.out.2; omega)).mono ?_
    rintro e w5 ⟨nv, rfl, s5, b5⟩
    have d5 := bl_then d3 b5
    have S5 := hid (S3.out.on b5)
    have N5 := hid s5
    clear s5 b5 S3 H3 O3 d3
    cases ok
    · obtain rfl : R = (xs, root, false) := by rw [HRR2.out]; rfl
      go_wp2
      go_ret3
      exact ⟨sv, rfl, S5.out, d5⟩
    obtain ⟨⟨xs2, p2, ok2⟩, hpq⟩ : ∃ Q, putS xs1 (strL (fileText (bs content))) = Q := ⟨_, rfl⟩
    have HPQ := hid hpq
    have HRR3 := hid (show R = if ok2 = false then (xs, root, false) else (xs2, p1, true) by rw [HRR2.out]; simp only [hpq]; rfl)
    have HT1 := hid (fun (x : Pc) (hx : x ∈ xs1) => show x.text.size ≤ 1048576 by have := st_text HS1.out hx; omega)
    have HN1 := hid (show xs1.length ≤ 1048576 by have := (st_in HS1.out).1; omega)
    have HS2 := hid (show xs2.length ≤ 40 by have := (st_in (put_ok (t := strL (fileText (bs content))) HS1.out)).1; rw [hpq] at this; exact this)
    clear hpq HRR2
    go_wp2_with fail
    refine (spec_FileText_c _ _ HC.out).mono ?_
    rintro e w6 ⟨rfl, rfl⟩
    go_wp2_with fail
    refine (spec_PutText_c _ xs1 _ _ N5.out HT1.out HN1.out HFS.out).mono ?_
    rw [HPQ.out]
    rintro e w6 ⟨ov, rfl, o6, b6⟩
    have d6 := bl_then d5 b6
    have S6 := hid (S5.out.on b6)
    have O6 := hid (Rd.of_own o6)
    clear o6 b6 S5 N5 d5
    cases ok2
    · obtain rfl : R = (xs, root, false) := by rw [HRR3.out]; rfl
      go_wp2
      go_ret3
      exact ⟨sv, rfl, S6.out, d6⟩
    · obtain rfl : R = (xs2, p1, true) := by rw [HRR3.out]; rfl
      have hal6 : Below w6.heap.size w6 (w6.alloc (.cells #[] 45)) := (Below.refl _ _).alloc (Nat.le_refl _) _
      go_wp2_with (at_builtin; refine wpList_cat (enc := encP) (w0 := w6.alloc (.cells #[] 45)) rfl _ _ 23 rfl w6.heap.size w6.heap.size 45 i0 _ 2 24 Try.underlying23 hi0 hz0 hz1 hz2 rfl (by decide) _ _ [] xs2 (Own.made w6 (Nat.le_refl _)) _ (O6.out.below hal6 (Nat.le_refl _)) (Below.refl _ _) (by simp) (Nat.le_refl _) rfl rfl encP_one (by have := HS2.out; simp; omega) (by decide) ?_; intro fv w7 hown' hb' hB' hg')
      go_ret3
      exact ⟨fv, rfl, hown'.less d6.size, bl_then d6 (hal6.trans hb')⟩

theorem drop_off {xs : List Pc} {root : Int} {path : List UInt8} (h : storeOk xs = false ∨ pathParts path = none ∨ pathParts path = some []) : dropAt xs root path = ([], -1, false) := by
  unfold dropAt
  cases hp : pathParts path with
  | none => rfl
  | some ws =>
    simp only []
    rw [if_pos]
    rcases h with h | h | h
    · exact .inl h
    · rw [hp] at h; cases h
    · rw [hp] at h; exact .inr (Option.some.inj h)
theorem drop_on {xs : List Pc} {root : Int} {path : List UInt8} {ws : List (List UInt8)} (hs : storeOk xs = true) (hp : pathParts path = some ws) (h0 : ws ≠ []) :
    dropAt xs root path = if (walkAt xs root (ws.map strL)).2 = false then (xs, root, false)
    else if (dropTo xs root (ws.map strL)).2.2 = false then (xs, root, false)
    else ((dropTo xs root (ws.map strL)).1, (dropTo xs root (ws.map strL)).2.1, true) := by
  unfold dropAt
  rw [hp]
  simp only []
  rw [if_neg (fun h => h.elim (fun h => by rw [hs] at h; cases h) h0)]

set_option maxHeartbeats 2000000 in
set_option maxRecDepth 100000 in
theorem spec_DropAt_c (v : Value) (xs : List Pc) (root : Int) (path : ByteArray) (w : World) (R : List Pc × Int × Bool) (hR : dropAt xs root (bs path) = R) (h : Pcs w w.heap.size v xs) (hx0 : ∀ x ∈ xs, x.text.size ≤ 1048576) (hl0 : xs.length ≤ 1048576) (hp0 : path.size ≤ 900) :
    Calls Try.prog 56 #[v, .int .i64 root, .string path] w (WrPost w R) := by
  obtain ⟨n, hn⟩ : ∃ n, xs.length = n := ⟨_, rfl⟩
  obtain ⟨a, c, rfl, hnc, hc63, _⟩ := h.pcs hn
  have HN := hid hn
  have HH := hid h
  have HX := hid hx0
  have HL := hid hl0
  have HR := hid hR
  obtain ⟨P, hP⟩ : ∃ P, pathParts (bs path) = P := ⟨_, rfl⟩
  have HP := hid hP
  clear hn h hx0 hl0 hR hP
  obtain ⟨i0, hi0, hz0, hz1, hz2⟩ := info_parts info_pcO
  cases hok : storeOk xs
  · have HK := hid hok
    obtain rfl : R = ([], -1, false) := by rw [← HR.out]; exact drop_off (.inl hok)
    clear hok
    go_enter Try.func56, Try.ntmps56
    go_wp2_with fail
    refine (spec_PathParts_c _ _ hp0).mono ?_
    rw [HP.out]
    rintro e w1 ⟨pv, rfl, o1, b1⟩
    clear o1
    go_wp2_with fail
    refine (spec_StoreValid_c _ xs _ _ (HH.out.on b1) HX.out HL.out).mono ?_
    rw [HK.out]
    rintro e w2 ⟨rfl, z, rfl⟩
    have d2 := bl_drewN b1 z
    clear b1
    go_wp2
    go_ret3
    exact ⟨_, rfl, Own.made _ d2.size, d2.alloc d2.size _⟩
  have HK := hid hok
  clear hok
  cases P with
  | none =>
    obtain rfl : R = ([], -1, false) := by rw [← HR.out]; exact drop_off (.inr (.inl HP.out))
    go_enter Try.func56, Try.ntmps56
    go_wp2_with fail
    refine (spec_PathParts_c _ _ hp0).mono ?_
    rw [HP.out]
    rintro e w1 ⟨pv, rfl, o1, b1⟩
    clear o1
    go_wp2_with fail
    refine (spec_StoreValid_c _ xs _ _ (HH.out.on b1) HX.out HL.out).mono ?_
    rw [HK.out]
    rintro e w2 ⟨rfl, z, rfl⟩
    have d2 := bl_drewN b1 z
    clear b1
    go_wp2
    go_ret3
    exact ⟨_, rfl, Own.made _ d2.size, d2.alloc d2.size _⟩
  | some ws =>
    have HPS := hid (parts_small HP.out)
    obtain ⟨m, hm⟩ : ∃ m, (ws.map strL).length = m := ⟨_, rfl⟩
    have HM := hid hm
    have hm3 : m ≤ 3 := by rw [← hm]; exact HPS.out.2
    clear hm
    by_cases hm0 : m = 0
    · obtain rfl : R = ([], -1, false) := by
        rw [← HR.out]; refine drop_off (.inr (.inr ?_))
        have := HM.out; rw [hm0] at this
        rw [HP.out, List.length_map] at *
        rw [List.eq_nil_of_length_eq_zero this]
      have hmd : ((m : Int) == 0) = true := by rw [hm0]; rfl
      clear hm0
      go_enter Try.func56, Try.ntmps56
      go_wp2_with fail
      refine (spec_PathParts_c _ _ hp0).mono ?_
      rw [HP.out]
      rintro e w1 ⟨pv, rfl, o1, b1⟩
      obtain ⟨pa, pc, rfl, _, _, _⟩ := (Rd.of_own o1).strs HM.out
      clear o1
      go_wp2_with fail
      refine (spec_StoreValid_c _ xs _ _ (HH.out.on b1) HX.out HL.out).mono ?_
      rw [HK.out]
      rintro e w2 ⟨rfl, z, rfl⟩
      have d2 := bl_drewN b1 z
      clear b1
      go_wp2
      go_ret3
      exact ⟨_, rfl, Own.made _ d2.size, d2.alloc d2.size _⟩
    have hmd : ((m : Int) == 0) = false := by simp; omega
    have H0 := hid (show ws ≠ [] by rintro rfl; have := HM.out; simp at this; omega)
    clear hm0
    have HRR := hid (HR.out.symm.trans (drop_on HK.out HP.out H0.out))
    clear HR
    go_enter Try.func56, Try.ntmps56
    go_wp2_with fail
    refine (spec_PathParts_c _ _ hp0).mono ?_
    rw [HP.out]
    rintro e w1 ⟨pv, rfl, o1, b1⟩
    obtain ⟨pa, pc, rfl, _, _, _⟩ := (Rd.of_own o1).strs HM.out
    have O1 := hid (Rd.of_own o1)
    clear o1
    go_wp2_with fail
    refine (spec_StoreValid_c _ xs _ _ (HH.out.on b1) HX.out HL.out).mono ?_
    rw [HK.out]
    rintro e w2 ⟨rfl, z, rfl⟩
    obtain ⟨W0, hW0⟩ : ∃ W0, W0 = w1.drewN z := ⟨_, rfl⟩
    have d2 : Below w.heap.size w W0 := by rw [hW0]; exact bl_drewN b1 z
    have O2 : Hid (Strs W0 W0.heap.size (.slice pa m pc) (ws.map strL)) := by rw [hW0]; exact O1.out.drewN z
    have H2 := hid (HH.out.on d2)
    have hal : Below W0.heap.size W0 (W0.alloc (.cells #[] 45)) := (Below.refl _ _).alloc (Nat.le_refl _) _
    rw [← hW0]
    clear b1 hW0 O1
    go_wp2_with (at_builtin; refine wpList_cat (enc := encP) (w0 := W0.alloc (.cells #[] 45)) rfl _ _ 23 rfl W0.heap.size W0.heap.size 45 i0 _ 2 24 Try.underlying23 hi0 hz0 hz1 hz2 rfl (by decide) _ _ [] xs (Own.made W0 (Nat.le_refl _)) _ (H2.out.below hal (Nat.le_refl _)) (Below.refl _ _) (by simp) (Nat.le_refl _) rfl rfl encP_one (by have := HL.out; simp; omega) (by decide) ?_; intro sv w3 hown' hb' hB' hg')
    have b3 := hal.trans hb'
    have d3 := bl_then d2 b3
    have O3 := hid (O2.out.on b3)
    have H3 := hid (H2.out.on b3)
    have S3 := hid (hown'.less d2.size)
    clear hown' hb' hg' hB' b3 d2 O2 H2 hal
    obtain ⟨⟨wp, there⟩, hwk⟩ : ∃ Q, walkAt xs root (ws.map strL) = Q := ⟨_, rfl⟩
    have HWK := hid hwk
    rw [hwk] at HRR
    clear hwk
    refine (spec_l9Walk_c _ _ xs root (ws.map strL) _ (wp, there) HWK.out H3.out HK.out O3.out).mono ?_
    rintro e w4 ⟨rfl, b4⟩
    have d4 := bl_then d3 b4
    have O4 := hid (O3.out.on b4)
    have H4 := hid (H3.out.on b4)
    have S4 := hid (S3.out.on b4)
    clear b4 d3 O3 H3 S3
    cases there
    · obtain rfl : R = (xs, root, false) := by rw [HRR.out]; rfl
      go_wp2
      go_ret3
      exact ⟨sv, rfl, S4.out, d4⟩
    have HRR2 := hid (HRR.out.trans (if_neg (by simp)))
    clear HRR
    obtain ⟨⟨xs1, p1, ok⟩, hR1⟩ : ∃ R1, dropIn xs root (ws.map strL) = R1 := ⟨_, rfl⟩
    have HR1 := hid hR1
    have HDT := hid (show dropTo xs root (ws.map strL) = if ok = true ∧ p1 < 0 then emptyRoot xs1 else (xs1, p1, ok) by unfold dropTo; rw [hR1])
    have HS1 := hid (show storeOk xs1 = true by have := dropIn_ok (ws.map strL) xs root HK.out; rw [hR1] at this; exact this)
    clear hR1
    go_wp2_with fail
    refine (spec_l10Drop_c (ws.map strL) _ _ xs root _ (xs1, p1, ok) (by simpa using H0.out) HR1.out H4.out HK.out O4.out HPS.out.1 (by have := HPS.out.2; omega)).mono ?_
    rintro e w5 ⟨nv, rfl, s5, b5⟩
    have d5 := bl_then d4 b5
    have S5 := hid (S4.out.on b5)
    have N5 := hid s5
    clear s5 b5 S4 H4 O4 d4
    cases ok
    · obtain rfl : R = (xs, root, false) := by rw [HRR2.out, HDT.out]; simp
      go_wp2
      go_ret3
      exact ⟨sv, rfl, S5.out, d5⟩
    have HT1 := hid (fun (x : Pc) (hx : x ∈ xs1) => show x.text.size ≤ 1048576 by have := st_text HS1.out hx; omega)
    have HN1 := hid (show xs1.length ≤ 1048576 by have := (st_in HS1.out).1; omega)
    by_cases hp1 : p1 < 0
    · obtain ⟨⟨xs2, p2, ok2⟩, hpq⟩ : ∃ Q, emptyRoot xs1 = Q := ⟨_, rfl⟩
      have HPQ := hid hpq
      have HRR3 := hid (show R = if ok2 = false then (xs, root, false) else (xs2, p2, true) by
        have e : dropTo xs root (ws.map strL) = emptyRoot xs1 := HDT.out.trans (if_pos ⟨rfl, hp1⟩)
        rw [HRR2.out, e, hpq])
      have HS2 := hid (show xs2.length ≤ 40 by have := (st_in (put_ok (t := strL (folderText [])) HS1.out)).1; have e : putS xs1 (strL (folderText [])) = (xs2, p2, ok2) := hpq; rw [e] at this; exact this)
      clear hpq HRR2 HDT
      go_wp2_with fail
      refine (spec_EmptyRoot_c _ xs1 _ N5.out HT1.out HN1.out).mono ?_
      rw [HPQ.out]
      rintro e w6 ⟨ov, rfl, o6, b6⟩
      have d6 := bl_then d5 b6
      have S6 := hid (S5.out.on b6)
      have O6 := hid (Rd.of_own o6)
      clear o6 b6 S5 N5 d5
      cases ok2
      · obtain rfl : R = (xs, root, false) := by rw [HRR3.out]; rfl
        go_wp2
        go_ret3
        exact ⟨sv, rfl, S6.out, d6⟩
      · obtain rfl : R = (xs2, p2, true) := by rw [HRR3.out]; rfl
        have hal6 : Below w6.heap.size w6 (w6.alloc (.cells #[] 45)) := (Below.refl _ _).alloc (Nat.le_refl _) _
        go_wp2_with (at_builtin; refine wpList_cat (enc := encP) (w0 := w6.alloc (.cells #[] 45)) rfl _ _ 23 rfl w6.heap.size w6.heap.size 45 i0 _ 2 24 Try.underlying23 hi0 hz0 hz1 hz2 rfl (by decide) _ _ [] xs2 (Own.made w6 (Nat.le_refl _)) _ (O6.out.below hal6 (Nat.le_refl _)) (Below.refl _ _) (by simp) (Nat.le_refl _) rfl rfl encP_one (by have := HS2.out; simp; omega) (by decide) ?_; intro fv w7 hown' hb' hB' hg')
        go_ret3
        exact ⟨fv, rfl, hown'.less d6.size, bl_then d6 (hal6.trans hb')⟩
    · have hp1' : 0 ≤ p1 := by omega
      obtain rfl : R = (xs1, p1, true) := by
        have e : dropTo xs root (ws.map strL) = (xs1, p1, true) := HDT.out.trans (if_neg (fun h => hp1 h.2))
        rw [HRR2.out, e]; rfl
      have hal6 : Below w5.heap.size w5 (w5.alloc (.cells #[] 45)) := (Below.refl _ _).alloc (Nat.le_refl _) _
      go_wp2_with (at_builtin; refine wpList_cat (enc := encP) (w0 := w5.alloc (.cells #[] 45)) rfl _ _ 23 rfl w5.heap.size w5.heap.size 45 i0 _ 2 24 Try.underlying23 hi0 hz0 hz1 hz2 rfl (by decide) _ _ [] xs1 (Own.made w5 (Nat.le_refl _)) _ (N5.out.below hal6 (Nat.le_refl _)) (Below.refl _ _) (by simp) (Nat.le_refl _) rfl rfl encP_one (by have := (st_in HS1.out).1; simp; omega) (by decide) ?_; intro fv w7 hown' hb' hB' hg')
      go_ret3
      exact ⟨fv, rfl, hown'.less d5.size, bl_then d5 (hal6.trans hb')⟩

end Go.Proofs.Ytfdhaigmekmboaa

/- Drawn stores: no folder leads to itself, and nothing that is named is missing. No program in sight. -/
namespace Go.Proofs.Ytfdhaigmekmboaa
open Go.RowKit

/-- What the folder of a text names. -/
noncomputable def nmd (t : ByteArray) : List Int := (entsOf (bs t)).map (·.print)
/-- Ranks fall from a folder to what it names; what is named is there, or it is L. -/
def GoodL (s : List Pc) (L : Int) : Prop := storeOk s = true ∧ ∃ rank : Int → Nat, ∀ n t, getP s n = some t → ∀ y ∈ nmd t, y = L ∨ (hasP s y = true ∧ rank y < rank n)
def Good (s : List Pc) : Prop := storeOk s = true ∧ ∃ rank : Int → Nat, ∀ n t, getP s n = some t → ∀ y ∈ nmd t, hasP s y = true ∧ rank y < rank n
theorem Good.l {s : List Pc} (h : Good s) (L : Int) : GoodL s L := ⟨h.1, h.2.imp fun _ hr n t hg y hy => .inr (hr n t hg y hy)⟩
theorem nmd_pv {t : ByteArray} {y : Int} (h : y ∈ nmd t) : pv y = true := by
  unfold nmd at h
  obtain ⟨e, he, rfl⟩ := List.mem_map.1 h
  exact (entOk_iff.1 (ents_all (entsOf_ok _) he)).2
theorem GoodL.good {s : List Pc} (h : GoodL s (-1)) : Good s := by
  refine ⟨h.1, h.2.imp fun r hr n t hg y hy => ?_⟩
  rcases hr n t hg y hy with rfl | h1
  · have := nmd_pv hy; simp [pv, inB] at this
  · exact h1
theorem nmd_file {t : ByteArray} (h : isFile (bs t) = true) : nmd t = [] := by unfold nmd entsOf; rw [file_no_folder h]; rfl
theorem nmd_folder {es : List Ent} (h : entsOk es = true) : nmd (strL (folderText es)) = es.map (·.print) := by unfold nmd entsOf; rw [bs_strL, readFolder_self h]; rfl
theorem has_get {s : List Pc} {n : Int} (h : hasP s n = true) : ∃ t, getP s n = some t := by unfold hasP at h; exact Option.isSome_iff_exists.1 h
theorem get_has {s : List Pc} {n : Int} {t : ByteArray} (h : getP s n = some t) : hasP s n = true := by unfold hasP; rw [h]; rfl
theorem Le.has {s x : List Pc} (h : Le s x) {n : Int} (hn : hasP s n = true) : hasP x n = true := by obtain ⟨t, ht⟩ := has_get hn; exact get_has (h _ _ ht)

theorem sum_ge {f : Int → Nat} : ∀ {l : List Int} {y : Int}, y ∈ l → f y ≤ (l.map f).sum
  | x :: r, y, h => by
    rw [List.map_cons, List.sum_cons]
    rcases List.mem_cons.1 h with rfl | h
    · omega
    · have := sum_ge (f := f) h; omega
theorem goodL_put {s : List Pc} {L : Int} {t : ByteArray} (h : GoodL s L) (hp : (putS s t).2.2 = true) (hn : ∀ y ∈ nmd t, y = L ∨ hasP s y = true) : GoodL (putS s t).1 L := by
  obtain ⟨hs, rank, hr⟩ := h
  obtain ⟨h1, h2, h3, h4⟩ := put_get hs hp
  have hle : Le s (putS s t).1 := fun n u hu => (h4 n u).2 (.inl hu)
  cases hg : getP s (printOf (bs t)) with
  | some u =>
    have hu : u = t := by
      have e1 := (h4 _ _).2 (.inl hg)
      have e2 := (h4 (printOf (bs t)) t).2 (.inr ⟨rfl, rfl⟩)
      rw [e1] at e2; exact Option.some.inj e2
    subst hu
    refine ⟨h1, rank, fun n v hv y hy => ?_⟩
    have hv' : getP s n = some v := by
      rcases (h4 n v).1 hv with h5 | ⟨rfl, rfl⟩
      · exact h5
      · exact hg
    exact (hr n v hv' y hy).imp id fun h5 => ⟨hle.has h5.1, h5.2⟩
  | none =>
    have hnq : ∀ y, hasP s y = true → y ≠ printOf (bs t) := fun y hy e => by subst e; unfold hasP at hy; rw [hg] at hy; cases hy
    refine ⟨h1, fun n => if n = printOf (bs t) then ((nmd t).map rank).sum + 1 else rank n, fun n v hv y hy => ?_⟩
    rcases (h4 n v).1 hv with h5 | ⟨rfl, rfl⟩
    · rcases hr n v h5 y hy with h6 | ⟨h6, h7⟩
      · exact .inl h6
      · right
        refine ⟨hle.has h6, ?_⟩
        simp only []
        rw [if_neg (hnq y h6), if_neg (hnq n (get_has h5))]
        exact h7
    · rcases hn y hy with h6 | h6
      · exact .inl h6
      · right
        refine ⟨hle.has h6, ?_⟩
        simp only []
        rw [if_neg (hnq y h6), if_pos trivial]
        have := sum_ge (f := rank) hy
        omega
/-- The last text is the one that was missing, a file. -/
theorem goodL_last {s : List Pc} {t : ByteArray} (h : GoodL s (printOf (bs t))) (hp : (putS s t).2.2 = true) (hf : isFile (bs t) = true) : Good (putS s t).1 := by
  have h0 := goodL_put h hp (by rw [nmd_file hf]; simp)
  obtain ⟨hs, rank, hr⟩ := h0
  have hL := ((put_get h.1 hp).2.2.2 (printOf (bs t)) t).2 (.inr ⟨rfl, rfl⟩)
  refine ⟨hs, fun n => if n = printOf (bs t) then 0 else rank n + 1, fun n v hv y hy => ?_⟩
  have hne : n ≠ printOf (bs t) := by
    rintro rfl
    rw [hL] at hv
    obtain rfl := Option.some.inj hv
    rw [nmd_file hf] at hy; simp at hy
  simp only []
  rw [if_neg hne]
  rcases hr n v hv y hy with rfl | ⟨h6, h7⟩
  · rw [if_pos rfl]; exact ⟨get_has hL, by omega⟩
  · refine ⟨h6, ?_⟩
    split <;> omega
/-- Each text names what is there, what was put ahead of it, or L. -/
def Chain (s : List Pc) (L : Int) : List ByteArray → Prop
  | [] => True
  | t :: r => (∀ y ∈ nmd t, y = L ∨ hasP s y = true) ∧ ((putS s t).2.2 = true → Chain (putS s t).1 L r)
theorem chain_good : ∀ (T : List ByteArray) {s s' : List Pc} {L : Int}, GoodL s L → Chain s L T → putAll s T = some s' → GoodL s' L
  | [], s, s', L, h, _, hp => by simp only [putAll, Option.some.injEq] at hp; rw [← hp]; exact h
  | t :: r, s, s', L, h, hc, hp => by
    unfold putAll at hp
    split at hp
    · rename_i h1
      exact chain_good r (goodL_put h h1 hc.1) (hc.2 h1) hp
    · cases hp
theorem chain_app : ∀ (T : List ByteArray) {s : List Pc} {L : Int} {t : ByteArray}, Chain s L T → (∀ s1, putAll s T = some s1 → ∀ y ∈ nmd t, y = L ∨ hasP s1 y = true) → Chain s L (T ++ [t])
  | [], s, L, t, _, h => ⟨h s rfl, fun _ => trivial⟩
  | x :: r, s, L, t, hc, h => ⟨hc.1, fun h1 => chain_app r (hc.2 h1) (fun s1 hs1 => h s1 (by unfold putAll; rw [if_pos h1]; exact hs1))⟩
theorem upT_chain {s : List Pc} (hs : Good s) (leaf : Int) (hl : pv leaf = true) : ∀ (FZ : List (List Ent × ByteArray)) (T : List ByteArray) (p : Int), (∀ x ∈ FZ, ∀ e ∈ x.1, hasP s e.print = true) → upT FZ leaf = some (T, p) →
    Chain s leaf T ∧ (p = leaf ∨ ∀ s1, putAll s T = some s1 → hasP s1 p = true)
  | [], T, p, _, h => by
    simp only [upT, Option.some.injEq, Prod.mk.injEq] at h
    rw [← h.1]; exact ⟨trivial, .inl h.2.symm⟩
  | (es, nm) :: r, T, p, hF, h => by
    unfold upT at h
    cases hu : upT r leaf with
    | none => rw [hu] at h; cases h
    | some TP =>
      obtain ⟨T0, ch⟩ := TP
      rw [hu] at h
      simp only [] at h
      split at h
      · rename_i hpe
        simp only [Option.some.injEq, Prod.mk.injEq] at h
        obtain ⟨rfl, rfl⟩ := h
        obtain ⟨c1, c2⟩ := upT_chain hs leaf hl r T0 ch (fun x hx => hF x (by simp [hx])) hu
        obtain ⟨e1, e2, e3⟩ := putEnt_ok hpe
        rw [e3]
        refine ⟨chain_app T0 c1 (fun s1 hs1 y hy => ?_), .inr (fun s1 hs1 => ?_)⟩
        · rw [nmd_folder e2] at hy
          obtain ⟨e, he, rfl⟩ := List.mem_map.1 hy
          rcases (putE_mem (ents_asc e1)).1 he with rfl | he
          · exact c2.imp id (fun c => c s1 hs1)
          · exact .inr ((putAll_le hs.1 hs1).2.1.has (hF (es, nm) (by simp) e he.1))
        · have := (putAll_le hs.1 hs1).2.2 (strL (folderText (putE es ⟨nm, ch⟩))) (by simp)
          rw [bs_strL] at this
          exact get_has this.2
      · cases h
theorem folder_names {s : List Pc} (hs : Good s) {pr : Int} {es : List Ent} (h : folderAt s pr = some es) : ∀ e ∈ es, hasP s e.print = true := by
  intro e he
  unfold folderAt at h
  cases hg : getP s pr with
  | none => rw [hg] at h; cases h
  | some t =>
    rw [hg] at h
    have h1 : readFolder (bs t) = some es := h
    obtain ⟨rank, hr⟩ := hs.2
    exact (hr pr t hg e.print (by unfold nmd entsOf; rw [h1]; exact List.mem_map.2 ⟨e, he, rfl⟩)).1
theorem way_names {s : List Pc} (hs : Good s) : ∀ (parts : List ByteArray) (q : Option Int) (F : List (List Ent)) (z : Option Int), wayW s q parts = some (F, z) → ∀ es ∈ F, ∀ e ∈ es, hasP s e.print = true
  | [], q, F, z, h => by simp [wayW] at h; rw [h.1]; simp
  | nm :: r, q, F, z, h => by
    unfold wayW at h
    split at h
    · cases h
    · rename_i es hes
      split at h
      · cases h
      · rename_i F' z' hw
        simp only [Option.some.injEq, Prod.mk.injEq] at h
        rw [← h.1]
        intro x hx
        rcases List.mem_cons.1 hx with rfl | hx
        · cases q with
          | none => simp [folderQ] at hes; subst hes; simp
          | some pr => exact folder_names hs hes
        · exact way_names hs r _ F' z' hw x hx
theorem write_good {s s' : List Pc} {root p : Int} {ws : List ByteArray} {content : List UInt8} (hs : Good s) (hc : contOk content = true) (h : writeTo s root ws content = some (s', p)) : Good s' := by
  have hft := file_textOk hc
  unfold writeTo at h
  cases hw : wayW s (some root) ws with
  | none => rw [hw] at h; cases h
  | some FZ =>
    obtain ⟨F, z⟩ := FZ
    rw [hw] at h
    simp only [] at h
    split at h
    · cases h
    · cases hu : upT (F.zip ws) (printOf (fileText content)) with
      | none => rw [hu] at h; cases h
      | some TP =>
        obtain ⟨T, p'⟩ := TP
        rw [hu] at h
        simp only [] at h
        rw [putAll_same (T' := T ++ [strL (fileText content)]) hs.1 (fun t => by simp [or_comm]), putAll_append] at h
        have hch := (upT_chain hs _ (printOf_pv hft.1) (F.zip ws) T p' (fun x hx e he => way_names hs ws _ F z hw x.1 (List.of_mem_zip hx).1 e he) hu).1
        cases hpa : putAll s T with
        | none => rw [hpa] at h; cases h
        | some s1 =>
          rw [hpa] at h
          simp only [Option.bind_some] at h
          rw [putAll_one] at h
          have hg := chain_good T (hs.l _) hch hpa
          by_cases hput : (putS s1 (strL (fileText content))).2.2 = true
          · rw [if_pos hput] at h
            simp only [Option.some.injEq, Prod.mk.injEq] at h
            rw [← h.1]
            refine goodL_last ?_ hput (by rw [bs_strL]; exact hft.2)
            rw [bs_strL]; exact hg
          · rw [if_neg hput] at h
            cases h
theorem dropT_chain {s : List Pc} (hs : Good s) : ∀ (FZ : List (List Ent × ByteArray)) (T : List ByteArray) (p : Int), Named FZ → (∀ x ∈ FZ, ∀ e ∈ x.1, hasP s e.print = true) → dropT FZ = some (T, p) →
    Chain s (-1) T ∧ ∀ s1, putAll s T = some s1 → hasP s1 p = true
  | [], T, p, _, _, h => by cases h
  | (es, nm) :: r, T, p, hN, hF, h => by
    have ho := hN (es, nm) (by simp)
    have hr : Named r := fun x hx => hN x (by simp [hx])
    unfold dropT at h
    cases hd : dropT r with
    | none =>
      rw [hd] at h
      simp only [] at h
      split at h
      · cases h
      · simp only [Option.some.injEq, Prod.mk.injEq] at h
        obtain ⟨rfl, rfl⟩ := h
        have hok := dropE_ok ho.1 nm
        refine ⟨⟨fun y hy => ?_, fun _ => trivial⟩, fun s1 hs1 => ?_⟩
        · rw [nmd_folder hok] at hy
          obtain ⟨e, he, rfl⟩ := List.mem_map.1 hy
          exact .inr (hF (es, nm) (by simp) e (dropE_mem.1 he).1)
        · have := (putAll_le hs.1 hs1).2.2 _ (by simp; rfl)
          rw [bs_strL] at this
          exact get_has this.2
    | some TP =>
      obtain ⟨T0, ch⟩ := TP
      rw [hd] at h
      simp only [Option.some.injEq, Prod.mk.injEq] at h
      obtain ⟨rfl, rfl⟩ := h
      obtain ⟨c, hc⟩ := ho.2
      have hch := dropT_pv hr hd
      have e2 := putE_there ho.1 hc hch
      rw [putEnt_on ho.1 e2]
      obtain ⟨c1, c2⟩ := dropT_chain hs r T0 ch hr (fun x hx => hF x (by simp [hx])) hd
      refine ⟨chain_app T0 c1 (fun s1 hs1 y hy => ?_), fun s1 hs1 => ?_⟩
      · rw [nmd_folder e2] at hy
        obtain ⟨e, he, rfl⟩ := List.mem_map.1 hy
        rcases (putE_mem (ents_asc ho.1)).1 he with rfl | he
        · exact .inr (c2 s1 hs1)
        · exact .inr ((putAll_le hs.1 hs1).2.1.has (hF (es, nm) (by simp) e he.1))
      · have := (putAll_le hs.1 hs1).2.2 (strL (folderText (putE es ⟨nm, ch⟩))) (by simp)
        rw [bs_strL] at this
        exact get_has this.2
theorem wayD_names {s : List Pc} (hs : Good s) : ∀ (parts : List ByteArray) (pr : Int), ∀ x ∈ wayD s pr parts, ∀ e ∈ x.1, hasP s e.print = true
  | [], _, x, hx => by simp [wayD] at hx
  | nm :: r, pr, x, hx => by
    unfold wayD at hx
    rcases List.mem_cons.1 hx with rfl | hx
    · intro e he
      simp only [entsOf_at] at he
      cases hf : folderAt s pr with
      | none => rw [hf] at he; simp at he
      | some es => rw [hf] at he; exact folder_names hs hf e he
    · exact wayD_names hs r _ x hx
theorem entsOk_nil : entsOk [] = true := rfl
theorem drop_good {s s' : List Pc} {root p : Int} {ws : List ByteArray} (hs : Good s) (hn : Named (wayD s root ws)) (h : dropOff s root ws = some (s', p)) : Good s' := by
  unfold dropOff dropTs at h
  cases hd : dropT (wayD s root ws) with
  | none =>
    rw [hd] at h
    simp only [Option.getD_none] at h
    cases hpa : putAll s [strL (folderText [])] with
    | none => rw [hpa] at h; cases h
    | some s1 =>
      rw [hpa] at h
      simp only [Option.some.injEq, Prod.mk.injEq] at h
      rw [← h.1]
      have hch : Chain s (-1) [strL (folderText [])] := ⟨fun y hy => by rw [nmd_folder entsOk_nil] at hy; simp at hy, fun _ => trivial⟩
      exact (chain_good _ (hs.l (-1)) hch hpa).good
  | some TP =>
    obtain ⟨T, p'⟩ := TP
    rw [hd] at h
    simp only [Option.getD_some] at h
    cases hpa : putAll s T with
    | none => rw [hpa] at h; cases h
    | some s1 =>
      rw [hpa] at h
      simp only [Option.some.injEq, Prod.mk.injEq] at h
      rw [← h.1]
      exact (chain_good _ (hs.l (-1)) (dropT_chain hs _ T p' hn (wayD_names hs ws root) hd).1 hpa).good

/-- Good stores stay good. -/
theorem writeAt_good {s : List Pc} {root : Int} {path content : List UInt8} {ws : List (List UInt8)} (hs : Good s) (hp : pathParts path = some ws) (h0 : ws ≠ []) (hc : contOk content = true) :
    Good (writeAt s root path content).1 ∧ Le s (writeAt s root path content).1 := by
  rw [writeAt_eq hs.1 hp h0 hc]
  cases h : writeTo s root (ws.map strL) content with
  | none => exact ⟨hs, Le.rfl' s⟩
  | some r =>
    obtain ⟨s', p⟩ := r
    refine ⟨write_good hs hc h, ?_⟩
    unfold writeTo at h
    split at h
    · cases h
    · split at h
      · cases h
      · split at h
        · cases h
        · split at h
          · cases h
          · rename_i hpa
            simp only [Option.some.injEq, Prod.mk.injEq] at h
            rw [← h.1]
            exact (putAll_le hs.1 hpa).2.1
theorem dropAt_good {s : List Pc} {root : Int} {path : List UInt8} {ws : List (List UInt8)} (hs : Good s) (hp : pathParts path = some ws) (h0 : ws ≠ []) :
    Good (dropAt s root path).1 ∧ Le s (dropAt s root path).1 := by
  by_cases hw : (walkAt s root (ws.map strL)).2 = true
  · rw [dropAt_eq hs.1 hp h0 hw]
    cases h : dropOff s root (ws.map strL) with
    | none => exact ⟨hs, Le.rfl' s⟩
    | some r =>
      obtain ⟨s', p⟩ := r
      refine ⟨drop_good hs (walk_named _ _ _ hw) h, ?_⟩
      unfold dropOff at h
      split at h
      · cases h
      · rename_i hpa
        simp only [Option.some.injEq, Prod.mk.injEq] at h
        rw [← h.1]
        exact (putAll_le hs.1 hpa).2.1
  · unfold dropAt
    rw [hp]
    simp only []
    rw [if_neg (fun h => h.elim (fun h => by rw [hs.1] at h; cases h) h0), if_pos (by simpa using hw)]
    exact ⟨hs, Le.rfl' s⟩

end Go.Proofs.Ytfdhaigmekmboaa

/- Walks: where a print is in a store. -/
namespace Go.Proofs.Ytfdhaigmekmboaa
open Go.RowKit

theorem find_at {l : List Pc} {n : Int} (h : storeOk l = true) (hh : hasP l n = true) : ∃ x : Pc, l[findAt l n]? = some x ∧ getP l n = some x.text ∧ x.print = n := by
  cases hg : l[findAt l n]? with
  | none =>
    exfalso
    have := find_no (l := l) (n := n) (st_asc h) (fun z hz => by rw [hg] at hz; cases hz)
    unfold hasP at hh
    rw [this] at hh
    cases hh
  | some z =>
    by_cases hz : z.print = n
    · exact ⟨z, rfl, find_has (st_asc h) hg hz, hz⟩
    · exfalso
      have := find_no (l := l) (n := n) (st_asc h) (fun z' hz' => by rw [hg] at hz'; rw [← Option.some.inj hz']; exact hz)
      unfold hasP at hh
      rw [this] at hh
      cases hh

def cmpI (x y : Int) : Int := if x < y then -1 else if y < x then 1 else 0

set_option maxHeartbeats 400000 in
theorem cmp_isNaN_c (x : Int) (w : World) :
    Calls Try.prog 51 #[.int .i64 x] w fun e w' => e = .returned (.bool false) ∧ w = w' := by
  go_enter Try.func51, Try.ntmps51
  go_wp2
  go_ret
  exact ⟨by simp, rfl⟩

set_option maxHeartbeats 400000 in
theorem cmp_Compare_c (x y : Int) (w : World) :
    Calls Try.prog 43 #[.int .i64 x, .int .i64 y] w fun e w' => e = .returned (.int .i64 (cmpI x y)) ∧ w = w' := by
  by_cases h1 : x < y
  · have HO := hid (show cmpI x y = -1 by unfold cmpI; rw [if_pos h1])
    go_enter Try.func43, Try.ntmps43
    go_wp2_with (go_at_call 51; refine (cmp_isNaN_c _ _).mono ?_; rintro e w' ⟨rfl, rfl⟩)
    go_ret
    exact ⟨ret_i HO.out.symm, rfl⟩
  · by_cases h2 : y < x
    · have HO := hid (show cmpI x y = 1 by unfold cmpI; rw [if_neg h1, if_pos h2])
      go_enter Try.func43, Try.ntmps43
      go_wp2_with (go_at_call 51; refine (cmp_isNaN_c _ _).mono ?_; rintro e w' ⟨rfl, rfl⟩)
      go_ret
      exact ⟨ret_i HO.out.symm, rfl⟩
    · have HO := hid (show cmpI x y = 0 by unfold cmpI; rw [if_neg h1, if_neg h2])
      go_enter Try.func43, Try.ntmps43
      go_wp2_with (go_at_call 51; refine (cmp_isNaN_c _ _).mono ?_; rintro e w' ⟨rfl, rfl⟩)
      go_ret
      exact ⟨ret_i HO.out.symm, rfl⟩

set_option maxHeartbeats 400000 in
theorem impl_findPiece1_c (r : Int) (t : ByteArray) (y z : Int) (hz : cmpI r y = z) (w : World) :
    Calls Try.prog 42 #[.agg #[.int .i64 r, .string t], .int .i64 y] w fun e w' => e = .returned (.int .i64 z) ∧ Below w.heap.size w w' := by
  have HZ := hid hz
  clear hz
  go_enter Try.func42, Try.ntmps42
  go_wp2_with (go_at_call 43; refine (cmp_Compare_c _ _ _).mono ?_; rintro e w' ⟨rfl, rfl⟩)
  go_ret
  exact ⟨ret_i HZ.out, (Below.refl _ _).alloc (Nat.le_refl _) _⟩

set_option maxHeartbeats 2000000 in
set_option maxRecDepth 100000 in
theorem bsearch_c (v : Value) (xs : List Pc) (y : Int) (w : World) (h : Pcs w w.heap.size v xs) (ha : xs.Pairwise (fun a b => a.print < b.print)) (hl : xs.length ≤ 1048576) :
    Calls Try.prog 41 #[v, .int .i64 y, .func (.func 42) #[] #[]] w fun e w' => e = .returned (.tuple #[.int .i64 (findAt xs y), .bool (hasP xs y)]) ∧ Below w.heap.size w w' := by
  obtain ⟨n, hn⟩ : ∃ n, xs.length = n := ⟨_, rfl⟩
  obtain ⟨a, c, rfl, h1, h2, h3⟩ := h.pcs hn
  rw [hn] at hl
  have HN := hid hn
  have HA := hid ha
  clear hn ha h
  go_enter Try.func41, Try.ntmps41
  go_wp2
  go_loopw [9, 10] (fun i j wr => ∃ lo hi : Nat, i = .int .i64 lo ∧ j = .int .i64 hi ∧ lo ≤ hi ∧ hi ≤ n ∧ Hid ((∀ (q : Nat) (x : Pc), q < lo → xs[q]? = some x → x.print < y) ∧ (∀ (q : Nat) (x : Pc), hi ≤ q → xs[q]? = some x → y ≤ x.print)) ∧ Below w.heap.size w wr) (fun i j _ => (intOf j).toNat - (intOf i).toNat)
  case atStart => exact ⟨0, n, rfl, rfl, Nat.zero_le _, Nat.le_refl _, hid ⟨fun q x hq => absurd hq (Nat.not_lt_zero _), fun q x hq hg => absurd (List.getElem?_eq_some_iff.1 hg).1 (by have := HN.out; omega)⟩, Below.refl _ _⟩
  case round =>
    obtain ⟨lo, hi, rfl, rfl, hlh, hin, hinv, hb⟩ := hrel
    by_cases hlt : lo < hi
    · obtain ⟨m, hm⟩ : ∃ m, (lo + hi) / 2 = m := ⟨_, rfl⟩
      have hmi : ((lo : Int) + (hi : Int)) / 2 = (m : Int) := by omega
      have hm1 : lo ≤ m := by omega
      have hm2 : m < hi := by omega
      obtain ⟨b, o, r, t, rfl, hbl, hx, k0, k1⟩ := h3 m (by omega)
      have j0 := (hb.cell (p := ⟨b, o + m * 2, none⟩) hbl).trans k0
      have j1 := (hb.cell (p := ⟨b, o + m * 2 + 1, none⟩) hbl).trans k1
      clear k0 k1 h3 hm
      obtain ⟨z, hz⟩ : ∃ z, cmpI r y = z := ⟨_, rfl⟩
      by_cases hry : r < y
      · have hz1 : z = -1 := by rw [← hz]; unfold cmpI; rw [if_pos hry]
        subst hz1
        have HZ := hid hz
        have HS := hid (show ∀ (q : Nat) (x : Pc), q < m + 1 → xs[q]? = some x → x.print < y by
          intro q x hq hg
          rcases Nat.lt_succ_iff_lt_or_eq.1 hq with h | rfl
          · have := asc_get HA.out hg hx.out h
            simp only at this; omega
          · rw [hx.out] at hg; rw [← Option.some.inj hg]; exact hry)
        clear hz hry
        go_wp2_with fail
        refine (impl_findPiece1_c r t y _ HZ.out _).mono ?_
        rintro e w4 ⟨rfl, b4⟩
        have hb4 := bl_then hb b4
        clear b4
        go_wp2
        go_roundw
        case rel => exact ⟨m + 1, hi, by go_num, rfl, by omega, hin, hid ⟨HS.out, hinv.out.2⟩, hb4⟩
        case measure => simp [intOf]; omega
      · have hz0 : ¬ z < 0 := by rw [← hz]; unfold cmpI; rw [if_neg hry]; split <;> omega
        have hz0' : decide (z < 0) = false := by simp; omega
        have HZ := hid hz
        have HS := hid (show ∀ (q : Nat) (x : Pc), m ≤ q → xs[q]? = some x → y ≤ x.print by
          intro q x hq hg
          rcases Nat.lt_or_eq_of_le hq with h | rfl
          · have := asc_get HA.out hx.out hg h
            simp only at this; omega
          · rw [hx.out] at hg; rw [← Option.some.inj hg]; simp only; omega)
        clear hz hry
        go_wp2_with fail
        refine (impl_findPiece1_c r t y _ HZ.out _).mono ?_
        rintro e w4 ⟨rfl, b4⟩
        have hb4 := bl_then hb b4
        clear b4
        go_wp2
        go_roundw
        case rel => exact ⟨lo, m, rfl, rfl, by omega, by omega, hid ⟨hinv.out.1, HS.out⟩, hb4⟩
        case measure => simp [intOf]; omega
    · obtain rfl : hi = lo := by omega
      have HF := hid (findAt_eq (l := xs) (n := y) (k := hi) (by rw [HN.out]; exact hin) hinv.out.1 (fun x hx => hinv.out.2 _ _ (Nat.le_refl _) hx))
      by_cases hend : hi < n
      · obtain ⟨b, o, r, t, rfl, hbl, hx, k0, k1⟩ := h3 hi hend
        have j0 := (hb.cell (p := ⟨b, o + hi * 2, none⟩) hbl).trans k0
        have j1 := (hb.cell (p := ⟨b, o + hi * 2 + 1, none⟩) hbl).trans k1
        clear k0 k1 h3
        obtain ⟨z, hz⟩ : ∃ z, cmpI r y = z := ⟨_, rfl⟩
        have hry := hinv.out.2 _ _ (Nat.le_refl _) hx.out
        simp only at hry
        have hzb : (z == 0) = hasP xs y := by
          rw [Bool.eq_iff_iff, hasP_iff, beq_iff_eq]
          constructor
          · intro h0
            refine ⟨_, List.mem_of_getElem? hx.out, ?_⟩
            rw [← hz] at h0
            unfold cmpI at h0
            split at h0
            · simp at h0
            · split at h0
              · simp at h0
              · simp only; omega
          · rintro ⟨x, hxm, rfl⟩
            obtain ⟨q, hq, e⟩ := List.getElem_of_mem hxm
            have hg : xs[q]? = some x := by rw [List.getElem?_eq_getElem hq, e]
            have hqi : q = hi := by
              rcases Nat.lt_trichotomy q hi with h | h | h
              · have := hinv.out.1 _ _ h hg; omega
              · exact h
              · have := asc_get HA.out hx.out hg h; simp only at this; omega
            subst hqi
            rw [hx.out] at hg
            have := Option.some.inj hg
            subst this
            rw [← hz]; unfold cmpI; simp
        have HZ := hid hz
        have HZB := hid hzb
        clear hz hry hzb
        go_wp2_with fail
        refine (impl_findPiece1_c r t y _ HZ.out _).mono ?_
        rintro e w4 ⟨rfl, b4⟩
        have hb4 := bl_then hb b4
        clear b4
        go_wp2
        go_ret2
        exact ⟨by rw [HF.out, ← HZB.out]; rfl, hb4⟩
      · have HH := hid (show hasP xs y = false by
          rw [Bool.eq_false_iff]
          intro hh
          obtain ⟨x, hxm, hxy⟩ := hasP_iff.1 hh
          obtain ⟨q, hq, e⟩ := List.getElem_of_mem hxm
          have hg : xs[q]? = some x := by rw [List.getElem?_eq_getElem hq, e]
          have := hinv.out.1 _ _ (by have := HN.out; omega) hg
          omega)
        clear h3
        go_wp2
        go_ret2
        exact ⟨by rw [HF.out, HH.out]; rfl, hb⟩

set_option maxHeartbeats 400000 in
theorem impl_findPiece_c (v : Value) (xs : List Pc) (y : Int) (w : World) (h : Pcs w w.heap.size v xs) (ho : storeOk xs = true) :
    Calls Try.prog 28 #[v, .int .i64 y] w fun e w' => e = .returned (.tuple #[.int .i64 (findAt xs y), .bool (hasP xs y)]) ∧ Below w.heap.size w w' := by
  obtain ⟨n, hn⟩ : ∃ n, xs.length = n := ⟨_, rfl⟩
  obtain ⟨a, c, rfl, h1, h2, h3⟩ := h.pcs hn
  have h40 := (st_in ho).1
  have HO := hid ho
  clear h3
  go_enter Try.func28, Try.ntmps28
  go_wp2_with fail
  refine (bsearch_c _ xs y _ h (st_asc HO.out) (by omega)).mono ?_
  rintro e w1 ⟨rfl, b1⟩
  go_wp2
  go_ret2
  exact ⟨rfl, b1⟩

set_option maxHeartbeats 400000 in
theorem impl_textOf_c (v : Value) (xs : List Pc) (y : Int) (w : World) (h : Pcs w w.heap.size v xs) (ho : storeOk xs = true) :
    Calls Try.prog 25 #[v, .int .i64 y] w fun e w' => e = .returned (.tuple #[.string ((getP xs y).getD ByteArray.empty), .bool (hasP xs y)]) ∧ Below w.heap.size w w' := by
  obtain ⟨n, hn⟩ : ∃ n, xs.length = n := ⟨_, rfl⟩
  obtain ⟨a, c, rfl, h1, h2, h3⟩ := h.pcs hn
  have HN := hid hn
  have HO := hid ho
  clear hn ho
  obtain ⟨q, hq⟩ : ∃ q, findAt xs y = q := ⟨_, rfl⟩
  have HQ := hid hq
  cases hh : hasP xs y
  · have HG := hid (show getP xs y = none by unfold hasP at hh; simpa using hh)
    have HH := hid hh
    clear hh hq h3
    go_enter Try.func25, Try.ntmps25
    go_wp2_with fail
    refine (impl_findPiece_c _ xs y _ h HO.out).mono ?_
    rw [HQ.out, HH.out]
    rintro e w1 ⟨rfl, b1⟩
    go_wp2
    go_ret2
    exact ⟨by rw [HG.out]; rfl, b1⟩
  · have hex : ∃ x, xs[q]? = some x ∧ x.print = y := by
      obtain ⟨x, hxm, hxy⟩ := hasP_iff.1 hh
      cases hg : xs[q]? with
      | none =>
        exfalso
        have := find_no (l := xs) (n := y) (st_asc HO.out) (fun z hz => by rw [hq, hg] at hz; cases hz)
        unfold hasP at hh
        rw [this] at hh
        cases hh
      | some z =>
        by_cases hz : z.print = y
        · exact ⟨z, rfl, hz⟩
        · exfalso
          have := find_no (l := xs) (n := y) (st_asc HO.out) (fun z' hz' => by rw [hq, hg] at hz'; rw [← Option.some.inj hz']; exact hz)
          unfold hasP at hh
          rw [this] at hh
          cases hh
    obtain ⟨x, hx1, hx2⟩ := hex
    have hqn : q < n := by have := (List.getElem?_eq_some_iff.1 hx1).1; have := HN.out; omega
    have hgt := find_has (l := xs) (n := y) (x := x) (st_asc HO.out) (by rw [hq]; exact hx1) hx2
    obtain ⟨b, o, r, t, rfl, hbl, hx, k0, k1⟩ := h3 q hqn
    have hxr : x = ⟨r, t⟩ := by have := hx1.symm.trans hx.out; simpa using this
    subst hxr
    have HG := hid hgt
    have HH := hid hh
    clear hh hq h3 hgt hx1 hx2 k0
    go_enter Try.func25, Try.ntmps25
    go_wp2_with fail
    refine (impl_findPiece_c _ xs y _ h HO.out).mono ?_
    rw [HQ.out, HH.out]
    rintro e w1 ⟨rfl, b1⟩
    have j1 := (b1.cell (p := ⟨b, o + q * 2 + 1, none⟩) hbl).trans k1
    have hqn' : (q : Int) < n := by omega
    go_wp2
    go_ret2
    exact ⟨by rw [HG.out]; rfl, b1⟩

end Go.Proofs.Ytfdhaigmekmboaa

/- Walks: prints that are wanted, texts to send. -/
namespace Go.Proofs.Ytfdhaigmekmboaa
open Go.RowKit

set_option maxHeartbeats 2000000 in
set_option maxRecDepth 100000 in
theorem impl_WantedOf_c (v u : Value) (xs : List Pc) (ns : List Int) (w : World) (h : Pcs w w.heap.size v xs) (h' : Ints w w.heap.size u ns) (hl : ns.length ≤ 1048576) :
    Calls Try.prog 10 #[v, u] w fun e w' => ∃ v', e = .returned v' ∧ OwnI w' w.heap.size v' (wantedOf xs ns) ∧ Below w.heap.size w w' := by
  obtain ⟨n, hn⟩ : ∃ n, xs.length = n := ⟨_, rfl⟩
  obtain ⟨a, c, rfl, _, _, _⟩ := h.pcs hn
  obtain ⟨m, hm⟩ : ∃ m, ns.length = m := ⟨_, rfl⟩
  obtain ⟨a', c', rfl, h1, h2, h3⟩ := h'.ints hm
  rw [hm] at hl
  have HM := hid hm
  have HP : Hid (∀ wx, Below w.heap.size w wx → Pcs wx wx.heap.size (.slice a n c) xs) := fun wx hx' => h.on hx'
  clear hn hm h'
  cases hok : storeOk xs
  · have HO := hid (show wantedOf xs ns = [] by unfold wantedOf; rw [hok]; rfl)
    clear h3
    go_enter Try.func10, Try.ntmps10
    go_wp2_with fail
    refine (impl_StoreValid_c _ xs _ h).mono ?_
    rw [hok]
    rintro e w1 ⟨rfl, b1⟩
    go_wp2
    go_ret
    exact ⟨_, rfl, by rw [HO.out]; exact Own.nil_, b1⟩
  · have HO := hid (show wantedOf xs ns = wantFrom xs ns by unfold wantedOf; rw [hok]; rfl)
    have HK := hid hok
    go_enter Try.func10, Try.ntmps10
    go_wp2_with fail
    refine (impl_StoreValid_c _ xs _ h).mono ?_
    rw [hok]
    rintro e w1 ⟨rfl, b1⟩
    clear hok h
    have hs1 := b1.size
    go_wp2
    go_loopw [5, 15] (fun out i wr => ∃ (k : Nat) (acc : List Int), k ≤ m ∧ i = .int .i64 k ∧ OwnI wr w1.heap.size out acc ∧ Hid (acc = wantFrom xs (ns.take k)) ∧ acc.length ≤ k ∧ Below w1.heap.size w1 wr) (fun _ i _ => m - (intOf i).toNat)
    case atStart => exact ⟨0, [], Nat.zero_le _, rfl, Own.nil_, rfl, Nat.zero_le _, Below.refl _ _⟩
    case round =>
      obtain ⟨k, acc, hk, rfl, hown, hacc, hlen, hb⟩ := hrel
      have c1 := bl_then b1 hb
      by_cases hlt : k < m
      · obtain ⟨b, o, x, rfl, hbl, hx, k0⟩ := h3 k hlt
        have j0 := (c1.cell (p := ⟨b, o + k, none⟩) hbl).trans k0
        have HF := hid ((wantFrom_succ (l := xs) hx.out).trans (by rw [← hacc.out]))
        clear k0 h3
        obtain ⟨y, hy⟩ : ∃ y, hasP xs x = y := ⟨_, rfl⟩
        have HY := hid hy
        clear hy
        go_wp2_with fail
        refine (impl_findPiece_c _ xs x _ (HP.out _ c1) HK.out).mono ?_
        rw [HY.out]
        rintro e w4 ⟨rfl, b4⟩
        have hown4 := hown.on b4
        have hb4 := hb.trans (b4.mono hb.size)
        have hB4 := hb4.size
        clear b4 hown hb
        cases y
        · obtain ⟨z, hz⟩ : ∃ z, hasI acc x = z := ⟨_, rfl⟩
          have HZ := hid hz
          clear hz
          go_wp2_with fail
          refine (slices_Contains_c _ acc x _ _ (Rd.of_own hown4)).mono ?_
          rw [HZ.out]
          rintro e w5 ⟨rfl, rfl⟩
          cases z
          · have HS := hid (show wantStep xs acc x = acc ++ [x] by unfold wantStep; rw [HY.out, HZ.out]; rfl)
            go_wp2_with (at_builtin; refine push_int (w0 := w1) rfl _ _ rfl _ _ _ _ _ hown4 hb4 hB4 (Nat.le_refl _) rfl rfl (by omega) ?_; intro v' w' hown' hb' hB' _)
            go_roundw
            case rel => exact ⟨k + 1, _, by omega, by go_num, hown', hid (HF.out.trans HS.out).symm, by simp; omega, hb'⟩
            case measure => simp [intOf]; omega
          · have HS := hid (show wantStep xs acc x = acc by unfold wantStep; rw [HY.out, HZ.out]; rfl)
            go_wp2
            go_roundw
            case rel => exact ⟨k + 1, _, by omega, by go_num, hown4, hid (HF.out.trans HS.out).symm, by omega, hb4⟩
            case measure => simp [intOf]; omega
        · have HS := hid (show wantStep xs acc x = acc by unfold wantStep; rw [HY.out]; rfl)
          go_wp2
          go_roundw
          case rel => exact ⟨k + 1, _, by omega, by go_num, hown4, hid (HF.out.trans HS.out).symm, by omega, hb4⟩
          case measure => simp [intOf]; omega
      · have HA := hid (show acc = wantedOf xs ns by rw [HO.out, hacc.out, take_all HM.out (show m ≤ k by omega)])
        go_wp2
        go_ret
        exact ⟨_, rfl, by rw [← HA.out]; exact hown.less hs1, c1⟩

set_option maxHeartbeats 2000000 in
set_option maxRecDepth 100000 in
theorem spec_WantedOf_c (v u : Value) (xs : List Pc) (ns : List Int) (w : World) (h : Pcs w w.heap.size v xs) (h' : Ints w w.heap.size u ns) (hx0 : ∀ x ∈ xs, x.text.size ≤ 1048576) (hl0 : xs.length ≤ 1048576) (hl : ns.length ≤ 1048576) :
    Calls Try.prog 17 #[v, u] w fun e w' => ∃ v', e = .returned v' ∧ OwnI w' w.heap.size v' (wantedOf xs ns) ∧ Below w.heap.size w w' := by
  obtain ⟨n, hn⟩ : ∃ n, xs.length = n := ⟨_, rfl⟩
  obtain ⟨a, c, rfl, _, _, _⟩ := h.pcs hn
  obtain ⟨m, hm⟩ : ∃ m, ns.length = m := ⟨_, rfl⟩
  obtain ⟨a', c', rfl, h1, h2, h3⟩ := h'.ints hm
  rw [hm] at hl
  have HM := hid hm
  have HX := hid hx0
  have HL := hid hl0
  have HP : Hid (∀ wx, Below w.heap.size w wx → Pcs wx wx.heap.size (.slice a n c) xs) := fun wx hx' => h.on hx'
  clear hn hm h' h hx0 hl0
  have hal : Below w.heap.size w (w.alloc (.cells #[] 3)) := (Below.refl _ _).alloc (Nat.le_refl _) _
  have hown0 : OwnI (w.alloc (.cells #[] 3)) w.heap.size (.slice (some ⟨w.heap.size, 0, none⟩) 0 0) [] := Own.made _ (Nat.le_refl _)
  cases hok : storeOk xs
  · have HO := hid (show wantedOf xs ns = [] by unfold wantedOf; rw [hok]; rfl)
    have HK := hid hok
    clear hok
    by_cases h0 : 0 < m
    · go_enter Try.func17, Try.ntmps17
      go_wp2
      refine wp_loop_rounds 1 ?_
      rw [rounds_succ]
      go_wp2_with (go_at_call 26; refine (spec_StoreValid_c _ xs _ _ (HP.out _ hal) HX.out HL.out).mono ?_; rw [HK.out]; rintro e w' ⟨rfl, q, rfl⟩)
      go_ret
      exact ⟨_, rfl, by rw [HO.out]; exact hown0.drewN q, bl_drewN hal q⟩
    · go_enter Try.func17, Try.ntmps17
      go_wp2
      refine wp_loop_rounds 1 ?_
      rw [rounds_succ]
      go_wp2
      go_ret
      exact ⟨_, rfl, by rw [HO.out]; exact hown0, hal⟩
  · have HO := hid (show wantedOf xs ns = wantFrom xs ns by unfold wantedOf; rw [hok]; rfl)
    have HK := hid hok
    clear hok
    go_enter Try.func17, Try.ntmps17
    go_wp2
    go_loopw [5, 6] (fun out i wr => ∃ (k : Nat) (acc : List Int), k ≤ m ∧ i = .int .i64 k ∧ OwnI wr w.heap.size out acc ∧ Hid (acc = wantFrom xs (ns.take k)) ∧ acc.length ≤ k ∧ Below w.heap.size w wr) (fun _ i _ => m - (intOf i).toNat)
    case atStart => exact ⟨0, [], Nat.zero_le _, rfl, hown0, rfl, Nat.zero_le _, hal⟩
    case round =>
      obtain ⟨k, acc, hk, rfl, hown, hacc, hlen, hb⟩ := hrel
      clear hown0 hal
      by_cases hlt : k < m
      · obtain ⟨b, o, x, rfl, hbl, hx, k0⟩ := h3 k hlt
        have j0 := (hb.cell (p := ⟨b, o + k, none⟩) hbl).trans k0
        have HF := hid ((wantFrom_succ (l := xs) hx.out).trans (by rw [← hacc.out]))
        clear k0 h3
        obtain ⟨y, hy⟩ : ∃ y, hasP xs x = y := ⟨_, rfl⟩
        have HY := hid hy
        clear hy
        go_wp2_with fail
        refine (spec_StoreValid_c _ xs _ _ (HP.out _ hb) HX.out HL.out).mono ?_
        rw [HK.out]
        rintro e w3 ⟨rfl, q, rfl⟩
        have hb3 := bl_drewN hb q
        have hown3 := hown.drewN q
        clear hown hb
        go_wp2_with fail
        refine (spec_l4Get_c _ xs x _ _ (HP.out _ hb3)).mono ?_
        rw [HY.out]
        rintro e w4 ⟨rfl, rfl⟩
        have hB3 := hb3.size
        cases y
        · obtain ⟨z, hz⟩ : ∃ z, hasI acc x = z := ⟨_, rfl⟩
          have HZ := hid hz
          clear hz
          go_wp2_with fail
          refine (spec_l19Has_c _ acc x _ _ (Rd.of_own hown3)).mono ?_
          rw [HZ.out]
          rintro e w5 ⟨rfl, rfl⟩
          cases z
          · have HS := hid (show wantStep xs acc x = acc ++ [x] by unfold wantStep; rw [HY.out, HZ.out]; rfl)
            go_wp2_with (at_builtin; refine push_int (w0 := w) rfl _ _ rfl _ _ _ _ _ hown3 hb3 hB3 (Nat.le_refl _) rfl rfl (by omega) ?_; intro v' w' hown' hb' hB' _)
            go_roundw
            case rel => exact ⟨k + 1, _, by omega, by go_num, hown', hid (HF.out.trans HS.out).symm, by simp; omega, hb'⟩
            case measure => simp [intOf]; omega
          · have HS := hid (show wantStep xs acc x = acc by unfold wantStep; rw [HY.out, HZ.out]; rfl)
            go_wp2
            go_roundw
            case rel => exact ⟨k + 1, _, by omega, by go_num, hown3, hid (HF.out.trans HS.out).symm, by omega, hb3⟩
            case measure => simp [intOf]; omega
        · have HS := hid (show wantStep xs acc x = acc by unfold wantStep; rw [HY.out]; rfl)
          go_wp2
          go_roundw
          case rel => exact ⟨k + 1, _, by omega, by go_num, hown3, hid (HF.out.trans HS.out).symm, by omega, hb3⟩
          case measure => simp [intOf]; omega
      · have HA := hid (show acc = wantedOf xs ns by rw [HO.out, hacc.out, take_all HM.out (show m ≤ k by omega)])
        go_wp2
        go_ret
        exact ⟨_, rfl, by rw [← HA.out]; exact hown, hb⟩

set_option maxHeartbeats 2000000 in
set_option maxRecDepth 100000 in
theorem impl_SendTexts_c (v u : Value) (xs : List Pc) (ns : List Int) (w : World) (h : Pcs w w.heap.size v xs) (h' : Ints w w.heap.size u ns) (hl : ns.length ≤ 1048576) :
    Calls Try.prog 7 #[v, u] w fun e w' => ∃ v', e = .returned v' ∧ OwnS w' w.heap.size v' (sendTexts xs ns) ∧ Below w.heap.size w w' := by
  obtain ⟨n, hn⟩ : ∃ n, xs.length = n := ⟨_, rfl⟩
  obtain ⟨a, c, rfl, _, _, _⟩ := h.pcs hn
  obtain ⟨m, hm⟩ : ∃ m, ns.length = m := ⟨_, rfl⟩
  obtain ⟨a', c', rfl, h1, h2, h3⟩ := h'.ints hm
  rw [hm] at hl
  have HM := hid hm
  have HP : Hid (∀ wx, Below w.heap.size w wx → Pcs wx wx.heap.size (.slice a n c) xs) := fun wx hx' => h.on hx'
  clear hn hm h'
  cases hok : storeOk xs
  · have HO := hid (show sendTexts xs ns = [] by unfold sendTexts; rw [hok]; rfl)
    clear h3
    go_enter Try.func7, Try.ntmps7
    go_wp2_with fail
    refine (impl_StoreValid_c _ xs _ h).mono ?_
    rw [hok]
    rintro e w1 ⟨rfl, b1⟩
    go_wp2
    go_ret
    exact ⟨_, rfl, by rw [HO.out]; exact Own.nil_, b1⟩
  · have HO := hid (show sendTexts xs ns = sendFrom xs ns by unfold sendTexts; rw [hok]; rfl)
    have HK := hid hok
    go_enter Try.func7, Try.ntmps7
    go_wp2_with fail
    refine (impl_StoreValid_c _ xs _ h).mono ?_
    rw [hok]
    rintro e w1 ⟨rfl, b1⟩
    clear hok h
    have hs1 := b1.size
    go_wp2
    go_loopw [5, 15] (fun out i wr => ∃ (k : Nat) (acc : List ByteArray), k ≤ m ∧ i = .int .i64 k ∧ OwnS wr w1.heap.size out acc ∧ Hid (acc = sendFrom xs (ns.take k)) ∧ acc.length ≤ k ∧ Below w1.heap.size w1 wr) (fun _ i _ => m - (intOf i).toNat)
    case atStart => exact ⟨0, [], Nat.zero_le _, rfl, Own.nil_, rfl, Nat.zero_le _, Below.refl _ _⟩
    case round =>
      obtain ⟨k, acc, hk, rfl, hown, hacc, hlen, hb⟩ := hrel
      have c1 := bl_then b1 hb
      by_cases hlt : k < m
      · obtain ⟨b, o, x, rfl, hbl, hx, k0⟩ := h3 k hlt
        have j0 := (c1.cell (p := ⟨b, o + k, none⟩) hbl).trans k0
        have HF := hid ((sendFrom_succ (l := xs) hx.out).trans (by rw [← hacc.out]))
        clear k0 h3
        obtain ⟨y, hy⟩ : ∃ y, hasP xs x = y := ⟨_, rfl⟩
        have HY := hid hy
        clear hy
        go_wp2_with fail
        refine (impl_textOf_c _ xs x _ (HP.out _ c1) HK.out).mono ?_
        rw [HY.out]
        rintro e w4 ⟨rfl, b4⟩
        have hown4 := hown.on b4
        have hb4 := hb.trans (b4.mono hb.size)
        have hB4 := hb4.size
        clear b4 hown hb
        cases y
        · have HS := hid (show sendStep xs acc x = acc by have := HY.out; unfold hasP at this; have hg : getP xs x = none := by simpa using this
                                                          unfold sendStep; rw [hg])
          go_wp2
          go_roundw
          case rel => exact ⟨k + 1, _, by omega, by go_num, hown4, hid (HF.out.trans HS.out).symm, by omega, hb4⟩
          case measure => simp [intOf]; omega
        · obtain ⟨t, ht⟩ := Option.isSome_iff_exists.1 HY.out
          have HS := hid (show sendStep xs acc x = acc ++ [t] by unfold sendStep; rw [ht])
          have hgd : (getP xs x).getD ByteArray.empty = t := by rw [ht]; rfl
          clear ht
          rw [hgd]
          clear hgd
          go_wp2_with (at_builtin; refine push_str (w0 := w1) rfl _ _ rfl _ _ _ _ _ hown4 hb4 hB4 (Nat.le_refl _) rfl rfl (by omega) ?_; intro v' w' hown' hb' hB' _)
          go_roundw
          case rel => exact ⟨k + 1, _, by omega, by go_num, hown', hid (HF.out.trans HS.out).symm, by simp; omega, hb'⟩
          case measure => simp [intOf]; omega
      · have HA := hid (show acc = sendTexts xs ns by rw [HO.out, hacc.out, take_all HM.out (show m ≤ k by omega)])
        go_wp2
        go_ret
        exact ⟨_, rfl, by rw [← HA.out]; exact hown.less hs1, c1⟩

set_option maxHeartbeats 2000000 in
set_option maxRecDepth 100000 in
theorem spec_SendTexts_c (v u : Value) (xs : List Pc) (ns : List Int) (w : World) (h : Pcs w w.heap.size v xs) (h' : Ints w w.heap.size u ns) (hx0 : ∀ x ∈ xs, x.text.size ≤ 1048576) (hl0 : xs.length ≤ 1048576) (hl : ns.length ≤ 1048576) :
    Calls Try.prog 9 #[v, u] w fun e w' => ∃ v', e = .returned v' ∧ OwnS w' w.heap.size v' (sendTexts xs ns) ∧ Below w.heap.size w w' := by
  obtain ⟨n, hn⟩ : ∃ n, xs.length = n := ⟨_, rfl⟩
  obtain ⟨a, c, rfl, _, _, _⟩ := h.pcs hn
  obtain ⟨m, hm⟩ : ∃ m, ns.length = m := ⟨_, rfl⟩
  obtain ⟨a', c', rfl, h1, h2, h3⟩ := h'.ints hm
  rw [hm] at hl
  have HM := hid hm
  have HX := hid hx0
  have HL := hid hl0
  have HP : Hid (∀ wx, Below w.heap.size w wx → Pcs wx wx.heap.size (.slice a n c) xs) := fun wx hx' => h.on hx'
  clear hn hm h' h hx0 hl0
  have hal : Below w.heap.size w (w.alloc (.cells #[] 9)) := (Below.refl _ _).alloc (Nat.le_refl _) _
  have hown0 : OwnS (w.alloc (.cells #[] 9)) w.heap.size (.slice (some ⟨w.heap.size, 0, none⟩) 0 0) [] := Own.made _ (Nat.le_refl _)
  cases hok : storeOk xs
  · have HO := hid (show sendTexts xs ns = [] by unfold sendTexts; rw [hok]; rfl)
    have HK := hid hok
    clear hok
    by_cases h0 : 0 < m
    · go_enter Try.func9, Try.ntmps9
      go_wp2
      refine wp_loop_rounds 1 ?_
      rw [rounds_succ]
      go_wp2_with (go_at_call 26; refine (spec_StoreValid_c _ xs _ _ (HP.out _ hal) HX.out HL.out).mono ?_; rw [HK.out]; rintro e w' ⟨rfl, q, rfl⟩)
      go_ret
      exact ⟨_, rfl, by rw [HO.out]; exact hown0.drewN q, bl_drewN hal q⟩
    · go_enter Try.func9, Try.ntmps9
      go_wp2
      refine wp_loop_rounds 1 ?_
      rw [rounds_succ]
      go_wp2
      go_ret
      exact ⟨_, rfl, by rw [HO.out]; exact hown0, hal⟩
  · have HO := hid (show sendTexts xs ns = sendFrom xs ns by unfold sendTexts; rw [hok]; rfl)
    have HK := hid hok
    clear hok
    go_enter Try.func9, Try.ntmps9
    go_wp2
    go_loopw [5, 6] (fun out i wr => ∃ (k : Nat) (acc : List ByteArray), k ≤ m ∧ i = .int .i64 k ∧ OwnS wr w.heap.size out acc ∧ Hid (acc = sendFrom xs (ns.take k)) ∧ acc.length ≤ k ∧ Below w.heap.size w wr) (fun _ i _ => m - (intOf i).toNat)
    case atStart => exact ⟨0, [], Nat.zero_le _, rfl, hown0, rfl, Nat.zero_le _, hal⟩
    case round =>
      obtain ⟨k, acc, hk, rfl, hown, hacc, hlen, hb⟩ := hrel
      clear hown0 hal
      by_cases hlt : k < m
      · obtain ⟨b, o, x, rfl, hbl, hx, k0⟩ := h3 k hlt
        have j0 := (hb.cell (p := ⟨b, o + k, none⟩) hbl).trans k0
        have HF := hid ((sendFrom_succ (l := xs) hx.out).trans (by rw [← hacc.out]))
        clear k0 h3
        obtain ⟨y, hy⟩ : ∃ y, hasP xs x = y := ⟨_, rfl⟩
        have HY := hid hy
        clear hy
        go_wp2_with fail
        refine (spec_StoreValid_c _ xs _ _ (HP.out _ hb) HX.out HL.out).mono ?_
        rw [HK.out]
        rintro e w3 ⟨rfl, q, rfl⟩
        have hb3 := bl_drewN hb q
        have hown3 := hown.drewN q
        clear hown hb
        go_wp2_with fail
        refine (spec_l4Get_c _ xs x _ _ (HP.out _ hb3)).mono ?_
        rw [HY.out]
        rintro e w4 ⟨rfl, rfl⟩
        have hB3 := hb3.size
        cases y
        · have HS := hid (show sendStep xs acc x = acc by have := HY.out; unfold hasP at this; have hg : getP xs x = none := by simpa using this
                                                          unfold sendStep; rw [hg])
          go_wp2
          go_roundw
          case rel => exact ⟨k + 1, _, by omega, by go_num, hown3, hid (HF.out.trans HS.out).symm, by omega, hb3⟩
          case measure => simp [intOf]; omega
        · obtain ⟨t, ht⟩ := Option.isSome_iff_exists.1 HY.out
          have HS := hid (show sendStep xs acc x = acc ++ [t] by unfold sendStep; rw [ht])
          have hgd : (getP xs x).getD ByteArray.empty = t := by rw [ht]; rfl
          clear ht
          rw [hgd]
          clear hgd
          go_wp2_with (at_builtin; refine push_str (w0 := w) rfl _ _ rfl _ _ _ _ _ hown3 hb3 hB3 (Nat.le_refl _) rfl rfl (by omega) ?_; intro v' w' hown' hb' hB' _)
          go_roundw
          case rel => exact ⟨k + 1, _, by omega, by go_num, hown', hid (HF.out.trans HS.out).symm, by simp; omega, hb'⟩
          case measure => simp [intOf]; omega
      · have HA := hid (show acc = sendTexts xs ns by rw [HO.out, hacc.out, take_all HM.out (show m ≤ k by omega)])
        go_wp2
        go_ret
        exact ⟨_, rfl, by rw [← HA.out]; exact hown, hb⟩

end Go.Proofs.Ytfdhaigmekmboaa

/- Walks: the prints that folders name; those that are missing. -/
namespace Go.Proofs.Ytfdhaigmekmboaa
open Go.RowKit

noncomputable def prs (p : Pc) : List Int := (entsOf (bs p.text)).map (·.print)
noncomputable def named (l : List Pc) : List Int := l.flatMap prs
theorem named_succ {l : List Pc} {k : Nat} {x : Pc} (h : l[k]? = some x) : named (l.take (k + 1)) = named (l.take k) ++ prs x := by
  unfold named; rw [take_snoc' h]; simp
theorem entsOf_len (l : List UInt8) : (entsOf l).length ≤ 3 := by
  unfold entsOf
  cases h : readFolder l with
  | none => simp
  | some es => exact (ents_in (readFolder_some h).1).1
theorem named_len : ∀ l : List Pc, (named l).length ≤ 3 * l.length
  | [] => by simp [named]
  | p :: r => by
    have h1 := named_len r
    have h2 := entsOf_len (bs p.text)
    unfold named at h1 ⊢
    simp only [List.flatMap_cons, List.length_append, List.length_cons]
    simp only [prs, List.length_map]
    omega
noncomputable def missingOf (l : List Pc) : List Int := wantedOf l (named l)


end Go.Proofs.Ytfdhaigmekmboaa

/- What roots reach in a store, in plain Lean. -/
namespace Go.Proofs.Ytfdhaigmekmboaa
open Go.RowKit

/-- A set of prints that has the roots that are there, and with a piece all that its folder names and that is there. -/
def Shut (l : List Pc) (roots : List Int) (S : Int → Prop) : Prop :=
  (∀ y ∈ roots, hasP l y = true → S y) ∧ ∀ x ∈ l, S x.print → ∀ y ∈ prs x, hasP l y = true → S y
def Rch (l : List Pc) (roots : List Int) (y : Int) : Prop := ∀ S : Int → Prop, Shut l roots S → S y
theorem rch_root {l : List Pc} {roots : List Int} {y : Int} (h : y ∈ roots) (hy : hasP l y = true) : Rch l roots y := fun _ hS => hS.1 y h hy
theorem rch_step {l : List Pc} {roots : List Int} {x : Pc} {y : Int} (hx : x ∈ l) (h : Rch l roots x.print) (hy : y ∈ prs x) (hp : hasP l y = true) : Rch l roots y := fun S hS => hS.2 x hx (h S hS) y hy hp
noncomputable def inR (l : List Pc) (roots : List Int) (y : Int) : Bool := @decide (Rch l roots y) (Classical.propDecidable _)
theorem inR_iff {l : List Pc} {roots : List Int} {y : Int} : inR l roots y = true ↔ Rch l roots y := by unfold inR; simp
noncomputable def reachB (l : List Pc) (roots : List Int) : List Bool := l.map fun p => inR l roots p.print
noncomputable def reachOf (l : List Pc) (roots : List Int) : List Int := if storeOk l then (l.filter fun p => inR l roots p.print).map (·.print) else []
theorem reachB_len (l : List Pc) (roots : List Int) : (reachB l roots).length = l.length := by simp [reachB]

/-- The piece with a print is marked. -/
def OnA (A : List Bool) (l : List Pc) (y : Int) : Prop := ∃ (i : Nat) (x : Pc), A[i]? = some true ∧ l[i]? = some x ∧ x.print = y
theorem print_one {l : List Pc} (hs : storeOk l = true) {i j : Nat} {x z : Pc} (hi : l[i]? = some x) (hj : l[j]? = some z) (h : x.print = z.print) : i = j := by
  rcases Nat.lt_trichotomy i j with h1 | h1 | h1
  · have := asc_get (st_asc hs) hi hj h1; omega
  · exact h1
  · have := asc_get (st_asc hs) hj hi h1; omega
theorem has_mem {l : List Pc} {x : Pc} (h : x ∈ l) : hasP l x.print = true := hasP_iff.2 ⟨x, h, rfl⟩
theorem has_spot {l : List Pc} {y : Int} (hs : storeOk l = true) (h : hasP l y = true) : ∃ x, l[findAt l y]? = some x ∧ x.print = y := by
  refine Classical.byContradiction (fun hc => ?_)
  have := find_no (st_asc hs) (n := y) (fun x hx e => hc ⟨x, hx, e⟩)
  unfold hasP at h
  rw [this] at h; cases h

/-- Marks that are right as far as they go and lack nothing are those of what is reached. -/
theorem marks_all {l : List Pc} {roots : List Int} {A : List Bool} (hs : storeOk l = true) (hl : A.length = l.length)
    (snd : ∀ (i : Nat) (x : Pc), A[i]? = some true → l[i]? = some x → Rch l roots x.print) (cpl : ∀ (i : Nat) (x : Pc), l[i]? = some x → Rch l roots x.print → A[i]? = some true) : A = reachB l roots := by
  apply List.ext_getElem?
  intro i
  unfold reachB
  rw [List.getElem?_map]
  cases hx : l[i]? with
  | none =>
    have := List.getElem?_eq_none_iff.1 hx
    rw [List.getElem?_eq_none (by omega)]; rfl
  | some x =>
    have hi : i < A.length := by have := (List.getElem?_eq_some_iff.1 hx).1; omega
    have hA : A[i]? = some A[i] := List.getElem?_eq_getElem hi
    rw [hA]
    simp only [Option.map_some]
    cases hv : A[i] with
    | true =>
      rw [hv] at hA
      rw [inR_iff.2 (snd i x hA hx)]
    | false =>
      cases hr : inR l roots x.print with
      | false => rfl
      | true =>
        have := cpl i x hx (inR_iff.1 hr)
        rw [hA, hv] at this; cases this
theorem cpl_of {l : List Pc} {roots : List Int} {A : List Bool} (hs : storeOk l = true) (hr : ∀ y ∈ roots, hasP l y = true → OnA A l y)
    (hc : ∀ (i : Nat) (x : Pc), A[i]? = some true → l[i]? = some x → ∀ y ∈ prs x, hasP l y = true → OnA A l y) : ∀ (i : Nat) (x : Pc), l[i]? = some x → Rch l roots x.print → A[i]? = some true := by
  intro i x hx hR
  have : OnA A l x.print := hR (OnA A l) ⟨hr, fun z hz hS y hy hp => by
    obtain ⟨j, z', h1, h2, h3⟩ := hS
    obtain ⟨k, hk, e⟩ := List.getElem_of_mem hz
    have hzk : l[k]? = some z := by rw [List.getElem?_eq_getElem hk, e]
    obtain rfl := print_one hs h2 hzk h3
    rw [h2] at hzk
    obtain rfl := Option.some.inj hzk
    exact hc j z' h1 h2 y hy hp⟩
  obtain ⟨j, z, h1, h2, h3⟩ := this
  obtain rfl := print_one hs h2 hx h3
  exact h1

/-! ### The program's way: a heap of pieces to look at -/
structure DInv (l : List Pc) (roots : List Int) (A : List Bool) (todo : List Nat) (T : List Int) : Prop where
  len : A.length = l.length
  snd : ∀ (i : Nat) (x : Pc), A[i]? = some true → l[i]? = some x → Rch l roots x.print
  tin : ∀ i ∈ todo, A[i]? = some true
  sndT : ∀ y ∈ T, hasP l y = true → Rch l roots y
  rts : ∀ y ∈ roots, hasP l y = true → OnA A l y ∨ y ∈ T
  cls : ∀ (i : Nat) (x : Pc), A[i]? = some true → l[i]? = some x → i ∉ todo → ∀ y ∈ prs x, hasP l y = true → OnA A l y ∨ y ∈ T
def reachStep (l : List Pc) (y : Int) (s : List Bool × List Nat) : List Bool × List Nat :=
  if hasP l y = true ∧ s.1[findAt l y]? = some false then (s.1.set (findAt l y) true, s.2 ++ [findAt l y]) else s
theorem onA_set {A : List Bool} {l : List Pc} {y : Int} {i : Nat} (h : OnA A l y) : OnA (A.set i true) l y := by
  obtain ⟨j, x, h1, h2, h3⟩ := h
  refine ⟨j, x, ?_, h2, h3⟩
  by_cases e : i = j
  · subst e
    rw [List.getElem?_set_self (List.getElem?_eq_some_iff.1 h1).1]
  · rw [List.getElem?_set_ne e]; exact h1
theorem set_true {A : List Bool} {i j : Nat} (h : (A.set i true)[j]? = some true) : j = i ∨ A[j]? = some true := by
  by_cases e : i = j
  · exact .inl e.symm
  · rw [List.getElem?_set_ne e] at h; exact .inr h
theorem dinv_step {l : List Pc} {roots : List Int} {A : List Bool} {todo : List Nat} {y : Int} {T : List Int} (hs : storeOk l = true) (h : DInv l roots A todo (y :: T)) :
    DInv l roots (reachStep l y (A, todo)).1 (reachStep l y (A, todo)).2 T := by
  unfold reachStep
  split
  · rename_i hc
    obtain ⟨hp, hA⟩ := hc
    obtain ⟨x, hx, hxy⟩ := has_spot hs hp
    have hi := (List.getElem?_eq_some_iff.1 hA).1
    have hon : OnA (A.set (findAt l y) true) l y := ⟨findAt l y, x, by rw [List.getElem?_set_self hi], hx, hxy⟩
    refine ⟨by simp [h.len], ?_, ?_, fun z hz => h.sndT z (List.mem_cons_of_mem _ hz), ?_, ?_⟩
    · intro j z hj hz
      rcases set_true hj with rfl | hj'
      · rw [hx] at hz
        obtain rfl := Option.some.inj hz
        rw [hxy]; exact h.sndT y (List.mem_cons_self) hp
      · exact h.snd j z hj' hz
    · intro j hj
      rcases List.mem_append.1 hj with h1 | h1
      · by_cases e : findAt l y = j
        · rw [e, List.getElem?_set_self (by omega)]
        · rw [List.getElem?_set_ne e]; exact h.tin j h1
      · have : j = findAt l y := by simpa using h1
        rw [this, List.getElem?_set_self hi]
    · intro z hz hpz
      rcases h.rts z hz hpz with h1 | h1
      · exact .inl (onA_set h1)
      · rcases List.mem_cons.1 h1 with rfl | h2
        · exact .inl hon
        · exact .inr h2
    · intro j z hj hz hnt u hu hpu
      have hnt' : j ∉ todo ∧ j ≠ findAt l y := by
        constructor
        · exact fun h1 => hnt (List.mem_append_left _ h1)
        · intro e; exact hnt (by simp [e])
      rcases set_true hj with h1 | h1
      · exact absurd h1 hnt'.2
      · rcases h.cls j z h1 hz hnt'.1 u hu hpu with h2 | h2
        · exact .inl (onA_set h2)
        · rcases List.mem_cons.1 h2 with rfl | h3
          · exact .inl hon
          · exact .inr h3
  · rename_i hc
    have hon : hasP l y = true → OnA A l y := by
      intro hp
      obtain ⟨x, hx, hxy⟩ := has_spot hs hp
      have hi : findAt l y < A.length := by have := (List.getElem?_eq_some_iff.1 hx).1; rw [h.len]; exact this
      refine ⟨findAt l y, x, ?_, hx, hxy⟩
      rw [List.getElem?_eq_getElem hi]
      cases hv : A[findAt l y] with
      | true => rfl
      | false => exact absurd ⟨hp, by rw [List.getElem?_eq_getElem hi, hv]⟩ hc
    refine ⟨h.len, h.snd, h.tin, fun z hz => h.sndT z (List.mem_cons_of_mem _ hz), ?_, ?_⟩
    · intro z hz hpz
      rcases h.rts z hz hpz with h1 | h1
      · exact .inl h1
      · rcases List.mem_cons.1 h1 with rfl | h2
        · exact .inl (hon hpz)
        · exact .inr h2
    · intro j z hj hz hnt u hu hpu
      rcases h.cls j z hj hz hnt u hu hpu with h2 | h2
      · exact .inl h2
      · rcases List.mem_cons.1 h2 with rfl | h3
        · exact .inl (hon hpu)
        · exact .inr h3
theorem dinv_start {l : List Pc} {roots : List Int} : DInv l roots (List.replicate l.length false) [] roots := by
  refine ⟨by simp, ?_, by simp, fun y hy hp => rch_root hy hp, fun y hy _ => .inr hy, ?_⟩
  · intro i x hi; rw [List.getElem?_replicate] at hi; split at hi <;> simp at hi
  · intro i x hi; rw [List.getElem?_replicate] at hi; split at hi <;> simp at hi
theorem dinv_pop {l : List Pc} {roots : List Int} {A : List Bool} {todo : List Nat} {i : Nat} {x : Pc} (h : DInv l roots A (todo ++ [i]) []) (hx : l[i]? = some x) : DInv l roots A todo (prs x) := by
  have hi := h.tin i (by simp)
  refine ⟨h.len, h.snd, fun j hj => h.tin j (by simp [hj]), fun y hy hp => rch_step (List.mem_of_getElem? hx) (h.snd i x hi hx) hy hp, ?_, ?_⟩
  · intro y hy hp
    rcases h.rts y hy hp with h1 | h1
    · exact .inl h1
    · cases h1
  · intro j z hj hz hnt u hu hpu
    by_cases e : j = i
    · subst e
      rw [hx] at hz
      obtain rfl := Option.some.inj hz
      exact .inr hu
    · rcases h.cls j z hj hz (by simp [hnt, e]) u hu hpu with h2 | h2
      · exact .inl h2
      · cases h2
theorem dinv_end {l : List Pc} {roots : List Int} {A : List Bool} (hs : storeOk l = true) (h : DInv l roots A [] []) : A = reachB l roots := by
  refine marks_all hs h.len h.snd (cpl_of hs ?_ ?_)
  · intro y hy hp
    rcases h.rts y hy hp with h1 | h1
    · exact h1
    · cases h1
  · intro j z hj hz u hu hpu
    rcases h.cls j z hj hz (by simp) u hu hpu with h2 | h2
    · exact h2
    · cases h2
/-- The number that falls: twice the pieces without a mark, and those to look at. -/
def reachMu (s : List Bool × List Nat) : Nat := 2 * s.1.count false + s.2.length
theorem count_set_true : ∀ (A : List Bool) (i : Nat), A[i]? = some false → (A.set i true).count false + 1 = A.count false
  | [], i, h => by simp at h
  | a :: r, 0, h => by
    simp at h; subst h; simp
  | a :: r, i + 1, h => by
    have := count_set_true r i (by simpa using h)
    rw [List.set_cons_succ, List.count_cons, List.count_cons]
    omega
theorem reachMu_step (l : List Pc) (y : Int) (s : List Bool × List Nat) : reachMu (reachStep l y s) ≤ reachMu s := by
  unfold reachStep
  split
  · rename_i hc
    have := count_set_true s.1 _ hc.2
    simp only [reachMu, List.length_append, List.length_cons, List.length_nil]
    omega
  · exact Nat.le_refl _

/-! ### The reference's way: rounds -/
structure RInv (l : List Pc) (roots : List Int) (A : List Bool) : Prop where
  len : A.length = l.length
  snd : ∀ (i : Nat) (x : Pc), A[i]? = some true → l[i]? = some x → Rch l roots x.print
  rts : ∀ y ∈ roots, hasP l y = true → OnA A l y
def Cpl (l : List Pc) (roots : List Int) (A : List Bool) : Prop := ∀ (i : Nat) (x : Pc), l[i]? = some x → Rch l roots x.print → A[i]? = some true
/-- What was marked stays marked. -/
def Up (A B : List Bool) : Prop := A.length = B.length ∧ ∀ i : Nat, A[i]? = some true → B[i]? = some true
theorem Up.rfl' (A : List Bool) : Up A A := ⟨rfl, fun _ h => h⟩
theorem Up.trans {A B C : List Bool} (h : Up A B) (k : Up B C) : Up A C := ⟨h.1.trans k.1, fun i hi => k.2 i (h.2 i hi)⟩
theorem Up.on {A B : List Bool} {l : List Pc} {y : Int} (h : Up A B) (k : OnA A l y) : OnA B l y := by
  obtain ⟨i, x, h1, h2⟩ := k
  exact ⟨i, x, h.2 i h1, h2⟩
theorem up_cons {a b : Bool} {A B : List Bool} (h : Up (a :: A) (b :: B)) : (a = true → b = true) ∧ Up A B :=
  ⟨fun e => by have := h.2 0 (by simp [e]); simpa using this, by have := h.1; simpa using this, fun i hi => by have := h.2 (i + 1) (by simpa using hi); simpa using this⟩
theorem up_count : ∀ (A B : List Bool), Up A B → A.count true ≤ B.count true ∧ (A.count true = B.count true → A = B)
  | [], [], _ => ⟨Nat.le_refl _, fun _ => rfl⟩
  | [], b :: B, h => by have := h.1; simp at this
  | a :: A, [], h => by have := h.1; simp at this
  | a :: A, b :: B, h => by
    obtain ⟨h1, h2⟩ := up_cons h
    obtain ⟨h3, h4⟩ := up_count A B h2
    rw [List.count_cons, List.count_cons]
    cases a <;> cases b <;> simp at h1 ⊢ <;> first | exact ⟨h3, h4⟩ | (constructor <;> omega)
theorem round_gain {l : List Pc} {roots : List Int} {A B : List Bool} {r : Nat} (hs : storeOk l = true) (hA : RInv l roots A) (hB : RInv l roots B) (hup : Up A B)
    (hsucc : ∀ (i : Nat) (x : Pc), A[i]? = some true → l[i]? = some x → ∀ y ∈ prs x, hasP l y = true → OnA B l y) (h : Cpl l roots A ∨ r ≤ A.count true) : Cpl l roots B ∨ r + 1 ≤ B.count true := by
  rcases h with h | h
  · exact .inl fun i x hx hR => hup.2 i (h i x hx hR)
  · by_cases hr : r + 1 ≤ B.count true
    · exact .inr hr
    · obtain ⟨h1, h2⟩ := up_count A B hup
      obtain rfl := h2 (by omega)
      exact .inl (cpl_of hs hA.rts hsucc)
theorem round_end {l : List Pc} {roots : List Int} {A : List Bool} (hs : storeOk l = true) (hA : RInv l roots A) (h : Cpl l roots A ∨ l.length ≤ A.count true) : A = reachB l roots := by
  refine marks_all hs hA.len hA.snd ?_
  rcases h with h | h
  · exact h
  · have hall : ∀ b ∈ A, b = true := by
      have : A.count true = A.length := by have := List.count_le_length (a := true) (l := A); have := hA.len; omega
      exact fun b hb => ((List.count_eq_length.1 this) b hb).symm
    intro i x hx _
    have hi : i < A.length := by have := (List.getElem?_eq_some_iff.1 hx).1; rw [hA.len]; exact this
    rw [List.getElem?_eq_getElem hi, hall _ (List.getElem_mem hi)]
/-- All pieces with a print are marked. -/
def markY (l : List Pc) (y : Int) (A : List Bool) : List Bool := List.zipWith (fun b (p : Pc) => b || decide (p.print = y)) A l
theorem markY_len {l : List Pc} {y : Int} {A : List Bool} (h : A.length = l.length) : (markY l y A).length = l.length := by simp [markY, h]
theorem markY_get {l : List Pc} {y : Int} {A : List Bool} {i : Nat} {b : Bool} {x : Pc} (hA : A[i]? = some b) (hx : l[i]? = some x) : (markY l y A)[i]? = some (b || decide (x.print = y)) := by
  unfold markY
  rw [List.getElem?_zipWith, hA, hx]
theorem markY_up {l : List Pc} {y : Int} {A : List Bool} (h : A.length = l.length) : Up A (markY l y A) := by
  refine ⟨by rw [markY_len h, h], fun i hi => ?_⟩
  have hi2 := (List.getElem?_eq_some_iff.1 hi).1
  have hx : l[i]? = some (l[i]'(by omega)) := List.getElem?_eq_getElem _
  rw [markY_get hi hx]; rfl
theorem markY_on {l : List Pc} {y : Int} {A : List Bool} (h : A.length = l.length) (hs : storeOk l = true) (hp : hasP l y = true) : OnA (markY l y A) l y := by
  obtain ⟨x, hx, hxy⟩ := has_spot hs hp
  have hi : findAt l y < A.length := by have := (List.getElem?_eq_some_iff.1 hx).1; omega
  exact ⟨_, x, by rw [markY_get (List.getElem?_eq_getElem hi) hx, hxy]; simp, hx, hxy⟩
theorem markY_inv {l : List Pc} {roots : List Int} {y : Int} {A : List Bool} (h : RInv l roots A) (hy : hasP l y = true → Rch l roots y) : RInv l roots (markY l y A) := by
  refine ⟨markY_len h.len, ?_, fun z hz hp => (markY_up h.len).on (h.rts z hz hp)⟩
  intro i x hi hx
  have hiA : i < A.length := by have := (List.getElem?_eq_some_iff.1 hx).1; rw [h.len]; exact this
  rw [markY_get (List.getElem?_eq_getElem hiA) hx] at hi
  cases hb : A[i] with
  | true => exact h.snd i x (by rw [List.getElem?_eq_getElem hiA, hb]) hx
  | false =>
    rw [hb] at hi
    have hxy : x.print = y := by simpa using hi
    rw [hxy]
    exact hy (by rw [← hxy]; exact has_mem (List.mem_of_getElem? hx))

/-! ### The prints -/
theorem reach_succ {l : List Pc} {f : Pc → Bool} {k : Nat} {x : Pc} (h : l[k]? = some x) : ((l.take (k + 1)).filter f).map (·.print) = ((l.take k).filter f).map (·.print) ++ (if f x then [x.print] else []) := by
  rw [take_snoc' h, List.filter_append, List.map_append]
  cases hf : f x <;> simp [hf]
theorem reachOf_off {l : List Pc} {roots : List Int} (h : storeOk l = false) : reachOf l roots = [] := by unfold reachOf; rw [h]; rfl
theorem reachOf_on {l : List Pc} {roots : List Int} (h : storeOk l = true) : reachOf l roots = (l.filter fun p => inR l roots p.print).map (·.print) := by unfold reachOf; rw [h]; rfl
theorem reachOf_len {l : List Pc} {roots : List Int} : (reachOf l roots).length ≤ 40 := by
  cases h : storeOk l
  · rw [reachOf_off h]; simp
  · rw [reachOf_on h, List.length_map]
    exact Nat.le_trans (List.length_filter_le _ _) (st_in h).1

end Go.Proofs.Ytfdhaigmekmboaa

/- Walks: how many entries name each piece. -/
namespace Go.Proofs.Ytfdhaigmekmboaa
open Go.RowKit

/-- For every piece the times that its print stands in a row. -/
def cntIn (l : List Pc) (ns : List Int) : List Int := l.map fun p => ((ns.count p.print : Nat) : Int)
noncomputable def countsOf (l : List Pc) : List Int := if storeOk l then cntIn l (named l) else []
theorem cnt_len (l : List Pc) (ns : List Int) : (cntIn l ns).length = l.length := by simp [cntIn]
theorem cnt_get {l : List Pc} {i : Nat} {x : Pc} (ns : List Int) (h : l[i]? = some x) : (cntIn l ns)[i]? = some ((ns.count x.print : Nat) : Int) := by simp [cntIn, h]
theorem cnt_nil (l : List Pc) : cntIn l [] = List.replicate l.length 0 := by
  unfold cntIn
  rw [List.eq_replicate_iff]
  simp
theorem cnt_snoc (ns : List Int) (y p : Int) : (ns ++ [y]).count p = ns.count p + if y = p then 1 else 0 := by
  rw [List.count_append, List.count_singleton]
  simp
theorem countsOf_off {l : List Pc} (h : storeOk l = false) : countsOf l = [] := by unfold countsOf; rw [h]; rfl
theorem countsOf_on {l : List Pc} (h : storeOk l = true) : countsOf l = cntIn l (named l) := by unfold countsOf; rw [h]; rfl
theorem countsOf_len {l : List Pc} : (countsOf l).length ≤ 40 := by
  cases h : storeOk l
  · rw [countsOf_off h]; simp
  · rw [countsOf_on h, cnt_len]; exact (st_in h).1
theorem cnt_no {l : List Pc} {y : Int} (ns : List Int) (h : hasP l y = false) : cntIn l (ns ++ [y]) = cntIn l ns := by
  unfold cntIn
  refine List.map_congr_left (fun x hx => ?_)
  rw [cnt_snoc, if_neg (fun e => ?_)]
  · rfl
  · have := hasP_iff.2 ⟨x, hx, e.symm⟩
    rw [h] at this; cases this
theorem has_at {l : List Pc} {y : Int} (hs : storeOk l = true) (h : hasP l y = true) : ∃ x, l[findAt l y]? = some x ∧ x.print = y := by
  refine Classical.byContradiction (fun hc => ?_)
  have := find_no (st_asc hs) (n := y) (fun x hx e => hc ⟨x, hx, e⟩)
  unfold hasP at h
  rw [this] at h; cases h
theorem cnt_yes {l : List Pc} {y : Int} (ns : List Int) (hs : storeOk l = true) (h : hasP l y = true) : cntIn l (ns ++ [y]) = (cntIn l ns).set (findAt l y) ((ns.count y : Nat) + 1 : Int) := by
  obtain ⟨x, hx, rfl⟩ := has_at hs h
  apply List.ext_getElem?
  intro j
  by_cases hj : j = findAt l x.print
  · rw [hj, cnt_get _ hx, List.getElem?_set_self (by rw [cnt_len]; exact (List.getElem?_eq_some_iff.1 hx).1), cnt_snoc, if_pos rfl]
    simp
  · rw [List.getElem?_set_ne (Ne.symm hj)]
    unfold cntIn
    rw [List.getElem?_map, List.getElem?_map]
    cases hz : l[j]? with
    | none => rfl
    | some z =>
      have hne : x.print ≠ z.print := by
        rcases Nat.lt_or_gt_of_ne hj with h1 | h1
        · have := asc_get (st_asc hs) hz hx h1; omega
        · have := asc_get (st_asc hs) hx hz h1; omega
      simp only [Option.map_some]
      rw [cnt_snoc, if_neg hne]
      simp
theorem set_flat (xs : List Int) (i : Nat) (z : Int) : (xs.flatMap encI).set i (.int .i64 z) = (xs.set i z).flatMap encI := by
  unfold encI
  rw [← List.map_eq_flatMap, ← List.map_eq_flatMap, List.map_set]


end Go.Proofs.Ytfdhaigmekmboaa

/- Walks: how many entries name each piece, the reference's way. -/
namespace Go.Proofs.Ytfdhaigmekmboaa
open Go.RowKit


end Go.Proofs.Ytfdhaigmekmboaa

/- Walks: the prints that nobody names. -/
namespace Go.Proofs.Ytfdhaigmekmboaa
open Go.RowKit

def topF (x : Int × Pc) : List Int := if x.1 = 0 then [x.2.print] else []
noncomputable def topsOf (l : List Pc) : List Int := ((countsOf l).zip l).flatMap topF
theorem zip_at {c : List Int} {l : List Pc} {k : Nat} {z : Int} {x : Pc} (hc : c[k]? = some z) (hx : l[k]? = some x) : ((c.zip l).take (k + 1)).flatMap topF = ((c.zip l).take k).flatMap topF ++ topF (z, x) := by
  have : (c.zip l)[k]? = some (z, x) := List.getElem?_zip_eq_some.2 ⟨hc, hx⟩
  rw [take_snoc' this]; simp
theorem counts_le {l : List Pc} : (countsOf l).length ≤ l.length := by
  cases h : storeOk l
  · rw [countsOf_off h]; simp
  · rw [countsOf_on h, cnt_len]; exact Nat.le_refl _
theorem topsOf_len {l : List Pc} : (topsOf l).length ≤ 40 := by
  have : ∀ (a : List (Int × Pc)), (a.flatMap topF).length ≤ a.length := by
    intro a
    induction a with
    | nil => simp
    | cons x r ih =>
      simp only [List.flatMap_cons, List.length_append, List.length_cons]
      have : (topF x).length ≤ 1 := by unfold topF; split <;> simp
      omega
  have h1 := this ((countsOf l).zip l)
  have h2 := countsOf_len (l := l)
  rw [List.length_zip] at h1
  unfold topsOf
  omega
theorem topF_yes {z : Int} {x : Pc} (h : z = 0) : topF (z, x) = [x.print] := by unfold topF; rw [if_pos h]
theorem topF_no {z : Int} {x : Pc} (h : ¬ z = 0) : topF (z, x) = [] := by unfold topF; rw [if_neg h]



end Go.Proofs.Ytfdhaigmekmboaa

/- Walks: the prints that are missing. -/
namespace Go.Proofs.Ytfdhaigmekmboaa
open Go.RowKit

theorem wantFrom_snoc (l : List Pc) (ns : List Int) (n : Int) : wantFrom l (ns ++ [n]) = wantStep l (wantFrom l ns) n := by
  unfold wantFrom; rw [List.foldl_append]; rfl
theorem missingOf_off {l : List Pc} (h : storeOk l = false) : missingOf l = [] := by unfold missingOf wantedOf; rw [h]; rfl
theorem missingOf_on {l : List Pc} (h : storeOk l = true) : missingOf l = wantFrom l (named l) := by unfold missingOf wantedOf; rw [h]; rfl
theorem missingOf_len {l : List Pc} : (missingOf l).length ≤ 120 := by
  cases h : storeOk l
  · rw [missingOf_off h]; simp
  · rw [missingOf_on h]
    have h1 := wantFrom_len l (named l) []
    have h2 := named_len l
    have h3 := (st_in h).1
    unfold wantFrom
    simp only [List.length_nil] at h1
    omega



end Go.Proofs.Ytfdhaigmekmboaa

/- What the laws on wanted, sent and taken texts, on named and missing prints and on what is reached say, in plain Lean. No program in sight. -/
namespace Go.Proofs.Ytfdhaigmekmboaa
open Go.RowKit

theorem hasI_wantStep {l : List Pc} {out : List Int} {n y : Int} : y ∈ wantStep l out n ↔ (y ∈ out ∨ (y = n ∧ hasP l n = false)) := by
  unfold wantStep
  cases hp : hasP l n
  · cases hi : hasI out n
    · simp
    · simp only [Bool.false_or, if_true]
      constructor
      · exact .inl
      · rintro (h | ⟨rfl, _⟩)
        · exact h
        · exact hasI_iff.1 hi
  · simp
theorem want_mem {l : List Pc} {y : Int} : ∀ (ns out : List Int), y ∈ ns.foldl (wantStep l) out ↔ (y ∈ out ∨ (y ∈ ns ∧ hasP l y = false))
  | [], out => by simp
  | n :: r, out => by
    rw [List.foldl_cons, want_mem r, hasI_wantStep]
    constructor
    · rintro ((h | ⟨rfl, h⟩) | h)
      · exact .inl h
      · exact .inr ⟨by simp, h⟩
      · exact .inr ⟨by simp [h.1], h.2⟩
    · rintro (h | ⟨h, h2⟩)
      · exact .inl (.inl h)
      · rcases List.mem_cons.1 h with rfl | h
        · exact .inl (.inr ⟨rfl, h2⟩)
        · exact .inr ⟨h, h2⟩
theorem wantedOf_mem {l : List Pc} (h : storeOk l = true) {ns : List Int} {y : Int} : y ∈ wantedOf l ns ↔ (y ∈ ns ∧ hasP l y = false) := by
  unfold wantedOf wantFrom; rw [h]; simp [want_mem]
theorem wanted_has {l : List Pc} (h : storeOk l = true) {ns : List Int} {y : Int} (hy : y ∈ ns) : hasI (wantedOf l ns) y = !hasP l y := by
  rw [Bool.eq_iff_iff, hasI_iff, wantedOf_mem h]
  simp [hy]
theorem want_nodup {l : List Pc} : ∀ (ns out : List Int), out.Nodup → (ns.foldl (wantStep l) out).Nodup
  | [], out, h => h
  | n :: r, out, h => by
    rw [List.foldl_cons]
    refine want_nodup r _ ?_
    unfold wantStep
    split
    · exact h
    · rename_i hc
      rw [List.nodup_append]
      refine ⟨h, by simp, ?_⟩
      intro a ha b hb
      simp at hb; subst hb
      rintro rfl
      exact hc (by rw [hasI_iff.2 ha]; simp)
theorem want_same {l : List Pc} : ∀ (ns out : List Int), (out ++ ns).Nodup → (∀ y ∈ ns, hasP l y = false) → ns.foldl (wantStep l) out = out ++ ns
  | [], out, _, _ => by simp
  | n :: r, out, h, h2 => by
    rw [List.foldl_cons]
    have hs : wantStep l out n = out ++ [n] := by
      unfold wantStep
      rw [h2 n (by simp)]
      have : hasI out n = false := by
        cases hi : hasI out n
        · rfl
        · exfalso
          have := hasI_iff.1 hi
          rw [List.nodup_append] at h
          exact h.2.2 n this n (by simp) rfl
      rw [this]; rfl
    rw [hs, want_same r _ (by simpa using h) (fun y hy => h2 y (by simp [hy]))]
    simp
theorem send_map {l : List Pc} : ∀ (ns : List Int) (out : List ByteArray), ns.foldl (sendStep l) out = out ++ ns.filterMap (getP l)
  | [], out => by simp
  | n :: r, out => by
    rw [List.foldl_cons, send_map r]
    unfold sendStep
    rw [List.filterMap_cons]
    cases getP l n <;> simp
theorem sendTexts_on {l : List Pc} (h : storeOk l = true) (ns : List Int) : sendTexts l ns = ns.filterMap (getP l) := by
  unfold sendTexts sendFrom; rw [h, if_pos rfl, send_map]; rfl
theorem filterMap_len {α β : Type} (f : α → Option β) (p : α → Bool) : ∀ (l : List α), (∀ x ∈ l, p x = (f x).isSome) → (l.filterMap f).length = (l.filter p).length
  | [], _ => rfl
  | x :: r, h => by
    have h1 := h x (by simp)
    have ih := filterMap_len f p r (fun y hy => h y (by simp [hy]))
    rw [List.filterMap_cons, List.filter_cons, h1]
    cases f x with
    | none => simpa using ih
    | some y => simpa using ih
/-- FnSendTexts. -/
theorem lw_send {l : List Pc} (h : storeOk l = true) (ns : List Int) : (sendTexts l ns).length = (ns.filter fun n => !hasI (wantedOf l ns) n).length := by
  rw [sendTexts_on h]
  exact filterMap_len _ _ ns (fun n hn => by rw [wanted_has h hn]; simp [hasP])
theorem lw_send2 {l : List Pc} {ns : List Int} {t : ByteArray} (ht : t ∈ sendTexts l ns) : hasI ns (printOf (bs t)) = true := by
  cases h : storeOk l
  · unfold sendTexts at ht; rw [h] at ht; simp at ht
  · rw [sendTexts_on h] at ht
    obtain ⟨n, hn, hg⟩ := List.mem_filterMap.1 ht
    have hm := st_all h ((getP_iff h).1 hg)
    rw [hasI_iff, ← (pcOk_iff.1 hm).2]
    exact hn
/-- FnWantedOf. -/
theorem wantedOf_le {l : List Pc} {ns : List Int} : (wantedOf l ns).length ≤ ns.length := by
  unfold wantedOf
  split
  · have := wantFrom_len l ns []; unfold wantFrom; simpa using this
  · simp

/-! ### FnTakeTexts -/
theorem take_get {ps : List Int} : ∀ (ts : List ByteArray) (s : List Pc × Nat), storeOk s.1 = true →
    storeOk (ts.foldl (takeStep ps) s).1 = true ∧ (∀ n u, getP s.1 n = some u → getP (ts.foldl (takeStep ps) s).1 n = some u) ∧
    (∀ n, hasP (ts.foldl (takeStep ps) s).1 n = true → hasP s.1 n = true ∨ n ∈ ps) ∧
    s.2 ≤ (ts.foldl (takeStep ps) s).2 ∧ (ts.foldl (takeStep ps) s).2 ≤ s.2 + ts.length ∧ (ts.foldl (takeStep ps) s).1.length + (ts.foldl (takeStep ps) s).2 ≤ s.1.length + s.2 + ts.length
  | [], s, h => ⟨h, fun _ _ h => h, fun _ h => .inl h, Nat.le_refl _, by simp, by simp⟩
  | t :: r, s, h => by
    rw [List.foldl_cons]
    obtain ⟨i1, i2, i3, i4, i5, i6⟩ := take_get r (takeStep ps s t) (takeStep_ok h)
    by_cases hc : ((putS s.1 t).2.2 && hasI ps (putS s.1 t).2.1) = true
    · have e : takeStep ps s t = ((putS s.1 t).1, s.2) := by unfold takeStep; rw [if_pos hc]
      rw [e] at i1 i2 i3 i4 i5 i6 ⊢
      obtain ⟨hp, hi⟩ := Bool.and_eq_true_iff.1 hc
      obtain ⟨p1, p2, p3, p4⟩ := put_get h hp
      have hl : (putS s.1 t).1.length ≤ s.1.length + 1 := by
        rcases put_cases (t := t) h with e | ⟨_, _, e⟩ | ⟨_, _, _, e⟩
        · rw [e]; simp
        · rw [e]; simp
        · rw [e]; simp [insP_len]
      refine ⟨i1, fun n u hn => i2 n u ((p4 n u).2 (.inl hn)), fun n hn => ?_, i4, ?_, ?_⟩
      · rcases i3 n hn with h1 | h1
        · obtain ⟨u, hu⟩ := has_get h1
          rcases (p4 n u).1 hu with h2 | ⟨rfl, _⟩
          · exact .inl (get_has h2)
          · right
            rw [p3] at hi
            exact hasI_iff.1 hi
        · exact .inr h1
      · simp only [List.length_cons] at i5 ⊢; omega
      · simp only [List.length_cons] at i6 ⊢; omega
    · have e : takeStep ps s t = (s.1, s.2 + 1) := by unfold takeStep; rw [if_neg hc]
      rw [e] at i1 i2 i3 i4 i5 i6 ⊢
      refine ⟨i1, i2, i3, ?_, ?_, ?_⟩
      · simp only at i4; omega
      · simp only [List.length_cons] at i5 ⊢; omega
      · simp only [List.length_cons] at i6 ⊢; omega
theorem lw_take {l : List Pc} (h : storeOk l = true) (ps : List Int) (ts : List ByteArray) : ∃ (x : List Pc) (b : Nat), takeTexts l ps ts = (x, (b : Int)) ∧ storeOk x = true ∧ Le l x ∧ (∀ p ∈ x, hasP l p.print = true ∨ hasI ps p.print = true) ∧ b ≤ ts.length ∧ x.length + b ≤ l.length + ts.length := by
  obtain ⟨i1, i2, i3, i4, i5, i6⟩ := take_get (ps := ps) ts (l, 0) h
  refine ⟨(takeFrom l ps ts).1, (takeFrom l ps ts).2, by unfold takeTexts; rw [h]; rfl, i1, i2, fun p hp => ?_, ?_, ?_⟩
  · exact (i3 p.print (hasP_iff.2 ⟨p, hp, rfl⟩)).imp id hasI_iff.2
  · simpa [takeFrom] using i5
  · simpa [takeFrom] using i6

/-! ### FnMissingPrints -/
theorem missing_mem {l : List Pc} (h : storeOk l = true) {y : Int} : y ∈ missingOf l ↔ (y ∈ named l ∧ hasP l y = false) := by unfold missingOf; exact wantedOf_mem h
theorem missing_nodup (l : List Pc) : (missingOf l).Nodup := by
  unfold missingOf wantedOf
  split
  · exact want_nodup _ _ (by simp)
  · simp
theorem missing_hasP {l : List Pc} {y : Int} (hy : y ∈ missingOf l) : hasP l y = false := by
  cases h : storeOk l
  · rw [missingOf_off h] at hy; simp at hy
  · exact ((missing_mem h).1 hy).2
theorem missing_want (l : List Pc) : wantedOf l (missingOf l) = missingOf l := by
  cases h : storeOk l
  · rw [missingOf_off h]; unfold wantedOf; rw [h]; rfl
  · conv => lhs; unfold wantedOf
    rw [if_pos h]
    have := want_same (l := l) (missingOf l) [] (by simpa using missing_nodup l) (fun y hy => missing_hasP hy)
    simpa [wantFrom] using this
theorem missing_once {l : List Pc} {k : Nat} {y : Int} (h : (missingOf l)[k]? = some y) : hasI ((missingOf l).take k) y = false := by
  cases hh : hasI ((missingOf l).take k) y
  · rfl
  · exfalso
    have hm := hasI_iff.1 hh
    obtain ⟨j, hj, e⟩ := List.getElem_of_mem hm
    have hn := missing_nodup l
    obtain ⟨hk, ek⟩ := List.getElem?_eq_some_iff.1 h
    simp only [List.length_take] at hj
    rw [List.getElem_take] at e
    exact List.pairwise_iff_getElem.1 hn j k (by omega) hk (by omega) (by rw [e, ek])

/-! ### FnNameCounts -/
def cntHas (l : List Pc) (ns : List Int) : Nat := (ns.filter fun n => hasP l n).length
theorem sum_set : ∀ (L : List Int) (i : Nat) (x z : Int), L[i]? = some x → (L.set i z).sum = L.sum - x + z
  | [], i, x, z, h => by simp at h
  | a :: r, 0, x, z, h => by simp at h; subst h; simp; omega
  | a :: r, i + 1, x, z, h => by
    have := sum_set r i x z (by simpa using h)
    simp only [List.set_cons_succ, List.sum_cons, this]; omega
theorem cnt_sum {l : List Pc} (hs : storeOk l = true) (ns : List Int) : (cntIn l ns).sum = (cntHas l ns : Int) := by
  have key : ∀ n : Nat, ∀ ns : List Int, ns.length = n → (cntIn l ns).sum = (cntHas l ns : Int) := by
    intro n
    induction n with
    | zero =>
      intro ns hn
      obtain rfl := List.length_eq_zero_iff.1 hn
      rw [cnt_nil]
      simp [cntHas]
    | succ n ih =>
      intro ns hn
      rcases List.eq_nil_or_concat ns with rfl | ⟨t, y, rfl⟩
      · simp at hn
      · rw [List.concat_eq_append] at hn ⊢
        have iht := ih t (by simp at hn; omega)
        have hc : cntHas l (t ++ [y]) = cntHas l t + if hasP l y then 1 else 0 := by
          unfold cntHas
          rw [List.filter_append, List.length_append]
          cases hp : hasP l y <;> simp [hp]
        rw [hc]
        cases hp : hasP l y
        · rw [cnt_no t hp, iht]; simp
        · rw [cnt_yes t hs hp]
          obtain ⟨x, hx, hxy⟩ := has_at hs hp
          have hg := cnt_get t hx
          rw [hxy] at hg
          rw [sum_set _ _ _ _ hg, iht]
          simp; omega
  exact key ns.length ns rfl
theorem counts_sum {l : List Pc} (hs : storeOk l = true) : (countsOf l).sum = (cntHas l (named l) : Int) := by
  rw [countsOf_on hs]; exact cnt_sum hs _
/-- What the law's second loop takes away for one print. -/
noncomputable def missW (l : List Pc) (n : Int) : Int := if hasI (missingOf l) n then 0 else 1
theorem miss_named {l : List Pc} (hs : storeOk l = true) : ((named l).map (missW l)).sum = (cntHas l (named l) : Int) := by
  have key : ∀ ns : List Int, (∀ n ∈ ns, n ∈ named l) → (ns.map (missW l)).sum = (cntHas l ns : Int) := by
    intro ns
    induction ns with
    | nil => intro _; rfl
    | cons n r ih =>
      intro h
      rw [List.map_cons, List.sum_cons, ih (fun x hx => h x (by simp [hx]))]
      unfold missW cntHas
      rw [List.filter_cons]
      cases hp : hasP l n
      · rw [if_pos (hasI_iff.2 ((missing_mem hs).2 ⟨h n (by simp), hp⟩))]; simp
      · rw [if_neg (fun hc => by have := ((missing_mem hs).1 (hasI_iff.1 hc)).2; rw [hp] at this; cases this)]
        simp; omega
  exact key _ (fun _ h => h)
theorem lw_count {l : List Pc} (hs : storeOk l = true) : (countsOf l).sum - ((named l).map (missW l)).sum = 0 := by rw [counts_sum hs, miss_named hs]; omega
theorem counts_full {l : List Pc} (hs : storeOk l = true) : (countsOf l).length = l.length := by rw [countsOf_on hs, cnt_len]

/-! ### FnTopPrints, FnLostPrints -/
/-- No folder leads to itself. -/
def Acy (l : List Pc) : Prop := ∃ rank : Int → Nat, ∀ x ∈ l, ∀ y ∈ prs x, hasP l y = true → rank y < rank x.print
theorem Good.acy {l : List Pc} (h : Good l) : Acy l := by
  obtain ⟨hs, rank, hr⟩ := h
  exact ⟨rank, fun x hx y hy _ => (hr x.print x.text ((getP_iff hs).2 hx) y hy).2⟩
theorem top_mem {l : List Pc} (hs : storeOk l = true) {y : Int} : y ∈ topsOf l ↔ ∃ x ∈ l, x.print = y ∧ y ∉ named l := by
  unfold topsOf
  rw [List.mem_flatMap, countsOf_on hs]
  constructor
  · rintro ⟨⟨z, x⟩, hzx, hy⟩
    obtain ⟨i, hi, e⟩ := List.getElem_of_mem hzx
    have hi2 : i < l.length := by simp at hi; omega
    simp only [List.getElem_zip, Prod.mk.injEq] at e
    have hx : l[i]? = some x := by rw [List.getElem?_eq_getElem hi2, e.2]
    have hg := cnt_get (named l) hx
    have hz : (cntIn l (named l))[i]? = some z := by
      rw [List.getElem?_eq_getElem (by rw [cnt_len]; exact hi2)]
      rw [e.1]
    rw [hg] at hz
    have hz' := Option.some.inj hz
    unfold topF at hy
    simp only at hy
    split at hy
    · rename_i h0
      simp at hy; subst hy
      refine ⟨x, List.mem_of_getElem? hx, rfl, ?_⟩
      have : (named l).count x.print = 0 := by omega
      exact List.count_eq_zero.1 this
    · simp at hy
  · rintro ⟨x, hx, rfl, hn⟩
    obtain ⟨i, hi, e⟩ := List.getElem_of_mem hx
    have hx' : l[i]? = some x := by rw [List.getElem?_eq_getElem hi, e]
    have hg := cnt_get (named l) hx'
    rw [List.count_eq_zero.2 hn] at hg
    refine ⟨((0 : Nat), x), ?_, by simp [topF]⟩
    obtain ⟨h1, h2⟩ := List.getElem?_eq_some_iff.1 hg
    rw [List.mem_iff_getElem]
    refine ⟨i, by simp; omega, ?_⟩
    rw [List.getElem_zip, h2, e]
theorem named_mem {l : List Pc} {y : Int} : y ∈ named l ↔ ∃ x ∈ l, y ∈ prs x := by unfold named; exact List.mem_flatMap
theorem tops_reach {l : List Pc} (hs : storeOk l = true) (ha : Acy l) : ∀ x ∈ l, Rch l (topsOf l) x.print := by
  obtain ⟨rank, hr⟩ := ha
  obtain ⟨M, hM⟩ : ∃ M, ∀ x ∈ l, rank x.print ≤ M := ⟨(l.map fun x => rank x.print).sum, fun x hx => by
    have := sum_ge (f := rank) (l := l.map (·.print)) (List.mem_map.2 ⟨x, hx, rfl⟩)
    simpa [Function.comp_def] using this⟩
  have key : ∀ d : Nat, ∀ x ∈ l, M - rank x.print ≤ d → Rch l (topsOf l) x.print := by
    intro d
    induction d with
    | zero =>
      intro x hx hd
      have h1 := hM x hx
      refine rch_root ((top_mem hs).2 ⟨x, hx, rfl, fun hn => ?_⟩) (has_mem hx)
      obtain ⟨z, hz, hy⟩ := named_mem.1 hn
      have h2 := hr z hz _ hy (has_mem hx)
      have h3 := hM z hz
      omega
    | succ d ih =>
      intro x hx hd
      by_cases hn : x.print ∈ named l
      · obtain ⟨z, hz, hy⟩ := named_mem.1 hn
        have h2 := hr z hz _ hy (has_mem hx)
        have h3 := hM z hz
        exact rch_step hz (ih z hz (by omega)) hy (has_mem hx)
      · exact rch_root ((top_mem hs).2 ⟨x, hx, rfl, hn⟩) (has_mem hx)
  exact fun x hx => key _ x hx (Nat.le_refl _)
/-- The prints that are not reached. -/
noncomputable def lostOf (l : List Pc) (roots : List Int) : List Int := if storeOk l then (l.filter fun p => !inR l roots p.print).map (·.print) else []
theorem lostOf_off {l : List Pc} {roots : List Int} (h : storeOk l = false) : lostOf l roots = [] := by unfold lostOf; rw [h]; rfl
theorem lostOf_on {l : List Pc} {roots : List Int} (h : storeOk l = true) : lostOf l roots = (l.filter fun p => !inR l roots p.print).map (·.print) := by unfold lostOf; rw [h]; rfl
theorem lost_none {l : List Pc} {roots : List Int} (h : ∀ x ∈ l, Rch l roots x.print) : lostOf l roots = [] := by
  unfold lostOf
  split
  · rw [List.map_eq_nil_iff, List.filter_eq_nil_iff]
    intro x hx
    rw [inR_iff.2 (h x hx)]; simp
  · rfl
theorem filter_both {α : Type} (p : α → Bool) : ∀ l : List α, (l.filter fun x => !p x).length + (l.filter p).length = l.length
  | [] => rfl
  | x :: r => by
    have := filter_both p r
    rw [List.filter_cons, List.filter_cons]
    cases p x <;> simp <;> omega
theorem lost_all {l : List Pc} {roots : List Int} (h : storeOk l = true) : (lostOf l roots).length + (reachOf l roots).length = l.length := by
  rw [lostOf_on h, reachOf_on h, List.length_map, List.length_map]
  exact filter_both _ l
theorem rch_more {l : List Pc} {roots more : List Int} {y : Int} (h : Rch l roots y) (hm : ∀ z ∈ roots, z ∈ more) : Rch l more y := fun S hS => h S ⟨fun z hz hp => hS.1 z (hm z hz) hp, hS.2⟩
theorem lost_more {l : List Pc} {roots : List Int} (h : storeOk l = true) : lostOf l (roots ++ lostOf l roots) = [] := by
  refine lost_none (fun x hx => ?_)
  cases hr : inR l roots x.print
  · refine rch_root ?_ (has_mem hx)
    rw [List.mem_append, lostOf_on h]
    exact .inr (List.mem_map.2 ⟨x, List.mem_filter.2 ⟨hx, by simp [hr]⟩, rfl⟩)
  · exact rch_more (inR_iff.1 hr) (fun z hz => List.mem_append_left _ hz)
theorem lostOf_len {l : List Pc} {roots : List Int} : (lostOf l roots).length ≤ 40 := by
  cases h : storeOk l
  · rw [lostOf_off h]; simp
  · have := lost_all (roots := roots) h
    have := (st_in h).1
    omega
theorem topsOf_le {l : List Pc} : (topsOf l).length ≤ l.length := by
  unfold topsOf
  have h1 : ∀ z : List (Int × Pc), (z.flatMap topF).length ≤ z.length := by
    intro z
    induction z with
    | nil => simp
    | cons a r ih =>
      rw [List.flatMap_cons, List.length_append]
      have : (topF a).length ≤ 1 := by unfold topF; split <;> simp
      rw [List.length_cons]; omega
  refine Nat.le_trans (h1 _) ?_
  rw [List.length_zip]
  omega

/-! ### Drawn stores that are turned -/
theorem nmd_prs (x : Pc) : prs x = nmd x.text := rfl
def TURNED : ByteArray := ⟨#[116, 117, 114, 110, 101, 100]⟩
theorem nmd_turned : nmd TURNED = [] := by
  unfold nmd entsOf
  rw [readFolder_no (fun es h he => by rw [folder_on h] at he; have := congrArg List.head? he; simp [TURNED, bs] at this)]
  rfl
/-- A store that was drawn: not empty, small, and no valid part of it has a folder that leads to itself. -/
def DrawnH (l : List Pc) : Prop := l.length ≤ 41 ∧ (∀ x ∈ l, x.text.size ≤ 60) ∧ ∀ l' : List Pc, (∀ x ∈ l', x ∈ l) → storeOk l' = true → Acy l'
def Drawn (l : List Pc) : Prop := l ≠ [] ∧ DrawnH l
theorem acy_sub {l l' : List Pc} (h : Acy l) (hs : ∀ x ∈ l', x ∈ l) : Acy l' := by
  obtain ⟨rank, hr⟩ := h
  refine ⟨rank, fun x hx y hy hp => hr x (hs x hx) y hy ?_⟩
  obtain ⟨u, hu, rfl⟩ := hasP_iff.1 hp
  exact has_mem (hs u hu)
theorem DrawnH.acy {l : List Pc} (h : DrawnH l) (hs : storeOk l = true) : Acy l := h.2.2 l (fun _ hx => hx) hs
theorem Good.drawn {l : List Pc} (h : Good l) (h0 : l ≠ []) : Drawn l := ⟨h0, by have := (st_in h.1).1; omega, fun x hx => st_text h.1 hx, fun l' hl _ => acy_sub h.acy hl⟩
theorem drawn_print {l : List Pc} (h : Good l) (h0 : l ≠ []) {j : Nat} {x : Pc} (hx : l[j]? = some x) (r : Int) : Drawn (l.set j ⟨r, x.text⟩) := by
  have hm := List.mem_of_getElem? hx
  refine ⟨by simpa using h0, by have := (st_in h.1).1; simp; omega, fun y hy => ?_, fun l' hl hs => acy_sub h.acy (fun y hy => ?_)⟩
  · rcases List.mem_or_eq_of_mem_set hy with h1 | rfl
    · exact st_text h.1 h1
    · have := st_text h.1 hm; exact this
  · rcases List.mem_or_eq_of_mem_set (hl y hy) with h1 | rfl
    · exact h1
    · have h1 := (pcOk_iff.1 (st_all hs hy)).2
      have h2 := (pcOk_iff.1 (st_all h.1 hm)).2
      simp only at h1
      have e : (⟨r, x.text⟩ : Pc) = x := by
        obtain ⟨p, t⟩ := x
        simp only at h1 h2 ⊢
        rw [h1, h2]
      rw [e]; exact hm
theorem drawn_twice {l : List Pc} (h : Good l) {x : Pc} (hx : l[0]? = some x) : Drawn (l ++ [x]) := by
  have hm := List.mem_of_getElem? hx
  have hsub : ∀ y ∈ l ++ [x], y ∈ l := fun y hy => by
    rcases List.mem_append.1 hy with h1 | h1
    · exact h1
    · simp at h1; subst h1; exact hm
  exact ⟨by simp, by have := (st_in h.1).1; simp; omega, fun y hy => st_text h.1 (hsub y hy), fun l' hl _ => acy_sub h.acy (fun y hy => hsub y (hl y hy))⟩
theorem drawn_text {l : List Pc} (h : Good l) (h0 : l ≠ []) {j : Nat} {x : Pc} (hx : l[j]? = some x) : Drawn (l.set j ⟨x.print, TURNED⟩) := by
  have hm := List.mem_of_getElem? hx
  refine ⟨by simpa using h0, by have := (st_in h.1).1; simp; omega, fun y hy => ?_, fun l' hl hs => ?_⟩
  · rcases List.mem_or_eq_of_mem_set hy with h1 | rfl
    · exact st_text h.1 h1
    · simp [TURNED, ByteArray.size]
  · obtain ⟨rank, hr⟩ := h.acy
    refine ⟨rank, fun y hy z hz hp => ?_⟩
    have hpl : hasP l z = true := by
      obtain ⟨u, hu, rfl⟩ := hasP_iff.1 hp
      rcases List.mem_or_eq_of_mem_set (hl u hu) with h1 | rfl
      · exact has_mem h1
      · have := has_mem hm; exact this
    rcases List.mem_or_eq_of_mem_set (hl y hy) with h1 | rfl
    · exact hr y h1 z hz hpl
    · rw [nmd_prs] at hz; simp only [nmd_turned] at hz; simp at hz
theorem drawn_sub {l l' : List Pc} (h : DrawnH l) (hn : l'.length ≤ l.length) (hl : ∀ x ∈ l', x ∈ l) : DrawnH l' := ⟨by have := h.1; omega, fun x hx => h.2.1 x (hl x hx), fun m hm hs => h.2.2 m (fun x hx => hl x (hm x hx)) hs⟩

end Go.Proofs.Ytfdhaigmekmboaa
