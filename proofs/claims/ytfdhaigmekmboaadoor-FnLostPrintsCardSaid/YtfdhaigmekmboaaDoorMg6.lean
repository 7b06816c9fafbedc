/- Walks and plain facts, joined: WriteW, GoodP, Find, Want, Named, ReachP, Count, CountS, Top. -/
import Derived.Test.YtfdhaigmekmboaaDoorMg3
import Derived.Test.YtfdhaigmekmboaaDoorMg4
import Derived.Test.YtfdhaigmekmboaaDoorMg5
set_option linter.unusedVariables false

/- Walks: the reference's writes and drops. -/
namespace Go.Proofs.YtfdhaigmekmboaaDoor
open Go.RowKit

theorem parts_small {path : List UInt8} {ws : List (List UInt8)} (h : pathParts path = some ws) : (∀ x ∈ ws.map strL, x.size ≤ 1000) ∧ (ws.map strL).length ≤ 3 := by
  obtain ⟨h1, h2, _⟩ := pathParts_in h
  refine ⟨fun x hx => ?_, by simpa using h1⟩
  obtain ⟨y, hy, rfl⟩ := List.mem_map.1 hx
  have := h2 y hy
  simp only [wordOk, Bool.and_eq_true, decide_eq_true_eq] at this
  rw [strL_size]; omega
theorem Own.cat0 {w : World} {n c : Nat} {a : Option Addr} {xs : List Pc} (h : Pcs w w.heap.size (.slice a n c) xs) : Pcs (w.alloc (.cells #[] 34)) (w.alloc (.cells #[] 34)).heap.size (.slice a n c) xs := h.on ((Below.refl _ _).alloc (Nat.le_refl _) _)

def WrPost (w : World) (R : List Pc × Int × Bool) : Ending → World → Prop := fun e w' => ∃ v', e = .returned (.tuple #[v', .int .i64 R.2.1, .bool R.2.2]) ∧ OwnP w' w.heap.size v' R.1 ∧ Below w.heap.size w w'

set_option maxHeartbeats 2000000 in
set_option maxRecDepth 100000 in
theorem spec_EmptyRoot_c (v : Value) (xs : List Pc) (w : World) (h : Pcs w w.heap.size v xs) (hx0 : ∀ x ∈ xs, x.text.size ≤ 1048576) (hl0 : xs.length ≤ 1048576) :
    Calls Tryd.prog 65 #[v] w fun e w' => ∃ v', e = .returned (.tuple #[v', .int .i64 (emptyRoot xs).2.1, .bool (emptyRoot xs).2.2]) ∧ OwnP w' w.heap.size v' (emptyRoot xs).1 ∧ Below w.heap.size w w' := by
  have hal : Below w.heap.size w (w.alloc (.cells #[] 37)) := (Below.refl _ _).alloc (Nat.le_refl _) _
  have hown0 : Hid (OwnE (w.alloc (.cells #[] 37)) w.heap.size (.slice (some ⟨w.heap.size, 0, none⟩) 0 0) []) := hid (Own.made _ (Nat.le_refl _))
  have HH := hid h
  have HX := hid hx0
  have HL := hid hl0
  obtain ⟨⟨xs2, p2, ok2⟩, hpq⟩ : ∃ P, emptyRoot xs = P := ⟨_, rfl⟩
  have HPQ := hid (show putS xs (strL (folderText [])) = (xs2, p2, ok2) from hpq)
  rw [hpq]
  have HFT := hid (show (strL (folderText [])).size ≤ 4611686018427387904 by rw [strL_size]; have := folder_len (show entsOk [] = true from rfl); omega)
  clear h hx0 hl0 hpq
  go_enter Tryd.func65, Tryd.ntmps65
  go_wp2_with fail
  refine (spec_FolderText_c _ [] _ _ (Rd.of_own hown0.out) (by simp) (by simp)).mono ?_
  rintro e w7 ⟨rfl, z7, rfl⟩
  have d8 := bl_drewN hal z7
  have h8 := hid (HH.out.on d8)
  go_wp2_with fail
  refine (spec_PutText_c _ xs _ _ h8.out HX.out HL.out HFT.out).mono ?_
  rw [HPQ.out]
  rintro e w8 ⟨fv, rfl, o8, b8⟩
  have d9 := bl_then d8 b8
  have O8 := hid (o8.less d8.size)
  clear o8 b8 d8
  go_wp2
  go_ret3
  exact ⟨_, rfl, O8.out, d9⟩

theorem write_off {xs : List Pc} {root : Int} {path content : List UInt8} (h : storeOk xs = false ∨ pathParts path = none ∨ pathParts path = some [] ∨ contOk content = false) : writeAt xs root path content = ([], -1, false) := by
  unfold writeAt
  cases hp : pathParts path with
  | none => rfl
  | some ws =>
    simp only []
    rw [if_pos]
    rcases h with h | h | h | h
    · exact .inl h
    · rw [hp] at h; cases h
    · rw [hp] at h; exact .inr (.inl (Option.some.inj h))
    · exact .inr (.inr h)
theorem write_on {xs : List Pc} {root : Int} {path content : List UInt8} {ws : List (List UInt8)} (hs : storeOk xs = true) (hp : pathParts path = some ws) (h0 : ws ≠ []) (hc : contOk content = true) :
    writeAt xs root path content = if hasP xs root = false then (xs, root, false)
    else if (setAt xs root (ws.map strL) (printOf (fileText content))).2.2 = false then (xs, root, false)
    else if (putS (setAt xs root (ws.map strL) (printOf (fileText content))).1 (strL (fileText content))).2.2 = false then (xs, root, false)
    else ((putS (setAt xs root (ws.map strL) (printOf (fileText content))).1 (strL (fileText content))).1, (setAt xs root (ws.map strL) (printOf (fileText content))).2.1, true) := by
  unfold writeAt
  rw [hp]
  simp only []
  rw [if_neg (fun h => h.elim (fun h => by rw [hs] at h; cases h) (fun h => h.elim h0 (fun h => by rw [hc] at h; cases h)))]

set_option maxHeartbeats 2000000 in
set_option maxRecDepth 100000 in
theorem spec_WriteAt_c (v : Value) (xs : List Pc) (root : Int) (path content : ByteArray) (w : World) (R : List Pc × Int × Bool) (hR : writeAt xs root (bs path) (bs content) = R) (h : Pcs w w.heap.size v xs) (hx0 : ∀ x ∈ xs, x.text.size ≤ 1048576) (hl0 : xs.length ≤ 1048576) (hp0 : path.size ≤ 900) (hc0 : content.size ≤ 1000000) :
    Calls Tryd.prog 78 #[v, .int .i64 root, .string path, .string content] w (WrPost w R) := by
  obtain ⟨n, hn⟩ : ∃ n, xs.length = n := ⟨_, rfl⟩
  obtain ⟨a, c, rfl, hnc, hc63, _⟩ := h.pcs hn
  have HN := hid hn
  have HH := hid h
  have HX := hid hx0
  have HL := hid hl0
  have HR := hid hR
  have HC := hid hc0
  obtain ⟨P, hP⟩ : ∃ P, pathParts (bs path) = P := ⟨_, rfl⟩
  have HP := hid hP
  clear hn h hx0 hl0 hR hP
  obtain ⟨i0, hi0, hz0, hz1, hz2⟩ := info_parts info_pcO
  cases hok : storeOk xs
  · have HK := hid hok
    obtain rfl : R = ([], -1, false) := by rw [← HR.out]; exact write_off (.inl hok)
    clear hok
    go_enter Tryd.func78, Tryd.ntmps78
    go_wp2_with fail
    refine (spec_PathParts_c _ _ hp0).mono ?_
    rw [HP.out]
    rintro e w1 ⟨pv, rfl, o1, b1⟩
    clear o1
    go_wp2_with fail
    refine (spec_StoreValid_c _ xs _ _ (HH.out.on b1) HX.out HL.out).mono ?_
    rw [HK.out]
    rintro e w2 ⟨rfl, z, rfl⟩
    have d2 := bl_drewN b1 z
    clear b1
    go_wp2
    go_ret3
    exact ⟨_, rfl, Own.made _ d2.size, d2.alloc d2.size _⟩
  have HK := hid hok
  clear hok
  cases P with
  | none =>
    obtain rfl : R = ([], -1, false) := by rw [← HR.out]; exact write_off (.inr (.inl HP.out))
    go_enter Tryd.func78, Tryd.ntmps78
    go_wp2_with fail
    refine (spec_PathParts_c _ _ hp0).mono ?_
    rw [HP.out]
    rintro e w1 ⟨pv, rfl, o1, b1⟩
    clear o1
    go_wp2_with fail
    refine (spec_StoreValid_c _ xs _ _ (HH.out.on b1) HX.out HL.out).mono ?_
    rw [HK.out]
    rintro e w2 ⟨rfl, z, rfl⟩
    have d2 := bl_drewN b1 z
    clear b1
    go_wp2
    go_ret3
    exact ⟨_, rfl, Own.made _ d2.size, d2.alloc d2.size _⟩
  | some ws =>
    have HPS := hid (parts_small HP.out)
    obtain ⟨m, hm⟩ : ∃ m, (ws.map strL).length = m := ⟨_, rfl⟩
    have HM := hid hm
    have hm3 : m ≤ 3 := by rw [← hm]; exact HPS.out.2
    clear hm
    by_cases hm0 : m = 0
    · obtain rfl : R = ([], -1, false) := by
        rw [← HR.out]; refine write_off (.inr (.inr (.inl ?_)))
        have := HM.out; rw [hm0] at this
        rw [HP.out, List.length_map] at *
        rw [List.eq_nil_of_length_eq_zero this]
      have hmd : ((m : Int) == 0) = true := by rw [hm0]; rfl
      clear hm0
      go_enter Tryd.func78, Tryd.ntmps78
      go_wp2_with fail
      refine (spec_PathParts_c _ _ hp0).mono ?_
      rw [HP.out]
      rintro e w1 ⟨pv, rfl, o1, b1⟩
      obtain ⟨pa, pc, rfl, _, _, _⟩ := (Rd.of_own o1).strs HM.out
      clear o1
      go_wp2_with fail
      refine (spec_StoreValid_c _ xs _ _ (HH.out.on b1) HX.out HL.out).mono ?_
      rw [HK.out]
      rintro e w2 ⟨rfl, z, rfl⟩
      have d2 := bl_drewN b1 z
      clear b1
      go_wp2
      go_ret3
      exact ⟨_, rfl, Own.made _ d2.size, d2.alloc d2.size _⟩
    have hmd : ((m : Int) == 0) = false := by simp; omega
    have H0 := hid (show ws ≠ [] by rintro rfl; have := HM.out; simp at this; omega)
    clear hm0
    cases hco : contOk (bs content)
    · obtain rfl : R = ([], -1, false) := by rw [← HR.out]; exact write_off (.inr (.inr (.inr hco)))
      have HCO := hid hco
      clear hco
      go_enter Tryd.func78, Tryd.ntmps78
      go_wp2_with fail
      refine (spec_PathParts_c _ _ hp0).mono ?_
      rw [HP.out]
      rintro e w1 ⟨pv, rfl, o1, b1⟩
      obtain ⟨pa, pc, rfl, _, _, _⟩ := (Rd.of_own o1).strs HM.out
      clear o1
      go_wp2_with fail
      refine (spec_StoreValid_c _ xs _ _ (HH.out.on b1) HX.out HL.out).mono ?_
      rw [HK.out]
      rintro e w2 ⟨rfl, z, rfl⟩
      have d2 := bl_drewN b1 z
      clear b1
      go_wp2_with (go_at_call 90; refine (spec_ContentValid_c _ _ HC.out).mono ?_; rw [HCO.out]; rintro e w3 ⟨rfl, rfl⟩)
      go_ret3
      exact ⟨_, rfl, Own.made _ d2.size, d2.alloc d2.size _⟩
    have HCO := hid hco
    have HRR := hid (HR.out.symm.trans (write_on HK.out HP.out H0.out hco))
    clear hco HR
    go_enter Tryd.func78, Tryd.ntmps78
    go_wp2_with fail
    refine (spec_PathParts_c _ _ hp0).mono ?_
    rw [HP.out]
    rintro e w1 ⟨pv, rfl, o1, b1⟩
    obtain ⟨pa, pc, rfl, _, _, _⟩ := (Rd.of_own o1).strs HM.out
    have O1 := hid (Rd.of_own o1)
    clear o1
    go_wp2_with fail
    refine (spec_StoreValid_c _ xs _ _ (HH.out.on b1) HX.out HL.out).mono ?_
    rw [HK.out]
    rintro e w2 ⟨rfl, z, rfl⟩
    obtain ⟨W0, hW0⟩ : ∃ W0, W0 = w1.drewN z := ⟨_, rfl⟩
    have d2 : Below w.heap.size w W0 := by rw [hW0]; exact bl_drewN b1 z
    have O2 : Hid (Strs W0 W0.heap.size (.slice pa m pc) (ws.map strL)) := by rw [hW0]; exact O1.out.drewN z
    have H2 := hid (HH.out.on d2)
    have hal : Below W0.heap.size W0 (W0.alloc (.cells #[] 34)) := (Below.refl _ _).alloc (Nat.le_refl _) _
    rw [← hW0]
    clear b1 hW0 O1
    go_wp2_with (first | (go_at_call 90; refine (spec_ContentValid_c _ _ HC.out).mono ?_; rw [HCO.out]; rintro e w3 ⟨rfl, rfl⟩) | (at_builtin; refine wpList_cat (enc := encP) (w0 := W0.alloc (.cells #[] 34)) rfl _ _ 23 rfl W0.heap.size W0.heap.size 34 i0 _ 2 24 Tryd.underlying23 hi0 hz0 hz1 hz2 rfl (by decide) _ _ [] xs (Own.made W0 (Nat.le_refl _)) _ (H2.out.below hal (Nat.le_refl _)) (Below.refl _ _) (by simp) (Nat.le_refl _) rfl rfl encP_one (by have := HL.out; simp; omega) (by decide) ?_; intro sv w3 hown' hb' hB' hg'))
    have b3 := hal.trans hb'
    have d3 := bl_then d2 b3
    have O3 := hid (O2.out.on b3)
    have H3 := hid (H2.out.on b3)
    have S3 := hid (hown'.less d2.size)
    clear hown' hb' hg' hB' b3 d2 O2 H2 hal
    refine (spec_l4Get_c _ xs root _ _ H3.out).mono ?_
    rintro e w4 ⟨rfl, rfl⟩
    cases hp : hasP xs root
    · obtain rfl : R = (xs, root, false) := by rw [HRR.out, if_pos hp]
      clear hp
      go_wp2
      go_ret3
      exact ⟨sv, rfl, S3.out, d3⟩
    have HRR2 := hid (HRR.out.trans (if_neg (by rw [hp]; simp)))
    clear hp HRR
    obtain ⟨⟨xs1, p1, ok⟩, hR1⟩ : ∃ R1, setAt xs root (ws.map strL) (printOf (fileText (bs content))) = R1 := ⟨_, rfl⟩
    have HR1 := hid hR1
    rw [hR1] at HRR2
    have HS1 := hid (show storeOk xs1 = true by have := set_ok (ws.map strL) xs root (printOf (fileText (bs content))) HK.out; rw [hR1] at this; exact this)
    have HFS := hid (show (strL (fileText (bs content))).size ≤ 4611686018427387904 by
      rw [strL_size]; unfold fileText; rw [HCO.out]; simp; have := HC.out; have := bs_len content; omega)
    clear hR1
    go_wp2_with fail
    refine (spec_FileText_c _ _ HC.out).mono ?_
    rintro e w4 ⟨rfl, rfl⟩
    go_wp2_with fail
    refine (spec_PrintOf_e _ _ HFS.out (by rw [bs_strL])).mono ?_
    rintro e w4 ⟨rfl, rfl⟩
    go_wp2_with fail
    refine (spec_l10Set_c (ws.map strL) _ _ xs root _ _ (xs1, p1, ok) HR1.out H3.out HK.out O3.out HPS.out.1 (by have := HPS.out.2; omega)).mono ?_
    rintro e w5 ⟨nv, rfl, s5, b5⟩
    have d5 := bl_then d3 b5
    have S5 := hid (S3.out.on b5)
    have N5 := hid s5
    clear s5 b5 S3 H3 O3 d3
    cases ok
    · obtain rfl : R = (xs, root, false) := by rw [HRR2.out]; rfl
      go_wp2
      go_ret3
      exact ⟨sv, rfl, S5.out, d5⟩
    obtain ⟨⟨xs2, p2, ok2⟩, hpq⟩ : ∃ Q, putS xs1 (strL (fileText (bs content))) = Q := ⟨_, rfl⟩
    have HPQ := hid hpq
    have HRR3 := hid (show R = if ok2 = false then (xs, root, false) else (xs2, p1, true) by rw [HRR2.out]; simp only [hpq]; rfl)
    have HT1 := hid (fun (x : Pc) (hx : x ∈ xs1) => show x.text.size ≤ 1048576 by have := st_text HS1.out hx; omega)
    have HN1 := hid (show xs1.length ≤ 1048576 by have := (st_in HS1.out).1; omega)
    have HS2 := hid (show xs2.length ≤ 40 by have := (st_in (put_ok (t := strL (fileText (bs content))) HS1.out)).1; rw [hpq] at this; exact this)
    clear hpq HRR2
    go_wp2_with fail
    refine (spec_FileText_c _ _ HC.out).mono ?_
    rintro e w6 ⟨rfl, rfl⟩
    go_wp2_with fail
    refine (spec_PutText_c _ xs1 _ _ N5.out HT1.out HN1.out HFS.out).mono ?_
    rw [HPQ.out]
    rintro e w6 ⟨ov, rfl, o6, b6⟩
    have d6 := bl_then d5 b6
    have S6 := hid (S5.out.on b6)
    have O6 := hid (Rd.of_own o6)
    clear o6 b6 S5 N5 d5
    cases ok2
    · obtain rfl : R = (xs, root, false) := by rw [HRR3.out]; rfl
      go_wp2
      go_ret3
      exact ⟨sv, rfl, S6.out, d6⟩
    · obtain rfl : R = (xs2, p1, true) := by rw [HRR3.out]; rfl
      have hal6 : Below w6.heap.size w6 (w6.alloc (.cells #[] 34)) := (Below.refl _ _).alloc (Nat.le_refl _) _
      go_wp2_with (at_builtin; refine wpList_cat (enc := encP) (w0 := w6.alloc (.cells #[] 34)) rfl _ _ 23 rfl w6.heap.size w6.heap.size 34 i0 _ 2 24 Tryd.underlying23 hi0 hz0 hz1 hz2 rfl (by decide) _ _ [] xs2 (Own.made w6 (Nat.le_refl _)) _ (O6.out.below hal6 (Nat.le_refl _)) (Below.refl _ _) (by simp) (Nat.le_refl _) rfl rfl encP_one (by have := HS2.out; simp; omega) (by decide) ?_; intro fv w7 hown' hb' hB' hg')
      go_ret3
      exact ⟨fv, rfl, hown'.less d6.size, bl_then d6 (hal6.trans hb')⟩

theorem drop_off {xs : List Pc} {root : Int} {path : List UInt8} (h : storeOk xs = false ∨ pathParts path = none ∨ pathParts path = some []) : dropAt xs root path = ([], -1, false) := by
  unfold dropAt
  cases hp : pathParts path with
  | none => rfl
  | some ws =>
    simp only []
    rw [if_pos]
    rcases h with h | h | h
    · exact .inl h
    · rw [hp] at h; cases h
    · rw [hp] at h; exact .inr (Option.some.inj h)
theorem drop_on {xs : List Pc} {root : Int} {path : List UInt8} {ws : List (List UInt8)} (hs : storeOk xs = true) (hp : pathParts path = some ws) (h0 : ws ≠ []) :
    dropAt xs root path = if (walkAt xs root (ws.map strL)).2 = false then (xs, root, false)
    else if (dropTo xs root (ws.map strL)).2.2 = false then (xs, root, false)
    else ((dropTo xs root (ws.map strL)).1, (dropTo xs root (ws.map strL)).2.1, true) := by
  unfold dropAt
  rw [hp]
  simp only []
  rw [if_neg (fun h => h.elim (fun h => by rw [hs] at h; cases h) h0)]

set_option maxHeartbeats 2000000 in
set_option maxRecDepth 100000 in
theorem spec_DropAt_c (v : Value) (xs : List Pc) (root : Int) (path : ByteArray) (w : World) (R : List Pc × Int × Bool) (hR : dropAt xs root (bs path) = R) (h : Pcs w w.heap.size v xs) (hx0 : ∀ x ∈ xs, x.text.size ≤ 1048576) (hl0 : xs.length ≤ 1048576) (hp0 : path.size ≤ 900) :
    Calls Tryd.prog 77 #[v, .int .i64 root, .string path] w (WrPost w R) := by
  obtain ⟨n, hn⟩ : ∃ n, xs.length = n := ⟨_, rfl⟩
  obtain ⟨a, c, rfl, hnc, hc63, _⟩ := h.pcs hn
  have HN := hid hn
  have HH := hid h
  have HX := hid hx0
  have HL := hid hl0
  have HR := hid hR
  obtain ⟨P, hP⟩ : ∃ P, pathParts (bs path) = P := ⟨_, rfl⟩
  have HP := hid hP
  clear hn h hx0 hl0 hR hP
  obtain ⟨i0, hi0, hz0, hz1, hz2⟩ := info_parts info_pcO
  cases hok : storeOk xs
  · have HK := hid hok
    obtain rfl : R = ([], -1, false) := by rw [← HR.out]; exact drop_off (.inl hok)
    clear hok
    go_enter Tryd.func77, Tryd.ntmps77
    go_wp2_with fail
    refine (spec_PathParts_c _ _ hp0).mono ?_
    rw [HP.out]
    rintro e w1 ⟨pv, rfl, o1, b1⟩
    clear o1
    go_wp2_with fail
    refine (spec_StoreValid_c _ xs _ _ (HH.out.on b1) HX.out HL.out).mono ?_
    rw [HK.out]
    rintro e w2 ⟨rfl, z, rfl⟩
    have d2 := bl_drewN b1 z
    clear b1
    go_wp2
    go_ret3
    exact ⟨_, rfl, Own.made _ d2.size, d2.alloc d2.size _⟩
  have HK := hid hok
  clear hok
  cases P with
  | none =>
    obtain rfl : R = ([], -1, false) := by rw [← HR.out]; exact drop_off (.inr (.inl HP.out))
    go_enter Tryd.func77, Tryd.ntmps77
    go_wp2_with fail
    refine (spec_PathParts_c _ _ hp0).mono ?_
    rw [HP.out]
    rintro e w1 ⟨pv, rfl, o1, b1⟩
    clear o1
    go_wp2_with fail
    refine (spec_StoreValid_c _ xs _ _ (HH.out.on b1) HX.out HL.out).mono ?_
    rw [HK.out]
    rintro e w2 ⟨rfl, z, rfl⟩
    have d2 := bl_drewN b1 z
    clear b1
    go_wp2
    go_ret3
    exact ⟨_, rfl, Own.made _ d2.size, d2.alloc d2.size _⟩
  | some ws =>
    have HPS := hid (parts_small HP.out)
    obtain ⟨m, hm⟩ : ∃ m, (ws.map strL).length = m := ⟨_, rfl⟩
    have HM := hid hm
    have hm3 : m ≤ 3 := by rw [← hm]; exact HPS.out.2
    clear hm
    by_cases hm0 : m = 0
    · obtain rfl : R = ([], -1, false) := by
        rw [← HR.out]; refine drop_off (.inr (.inr ?_))
        have := HM.out; rw [hm0] at this
        rw [HP.out, List.length_map] at *
        rw [List.eq_nil_of_length_eq_zero this]
      have hmd : ((m : Int) == 0) = true := by rw [hm0]; rfl
      clear hm0
      go_enter Tryd.func77, Tryd.ntmps77
      go_wp2_with fail
      refine (spec_PathParts_c _ _ hp0).mono ?_
      rw [HP.out]
      rintro e w1 ⟨pv, rfl, o1, b1⟩
      obtain ⟨pa, pc, rfl, _, _, _⟩ := (Rd.of_own o1).strs HM.out
      clear o1
      go_wp2_with fail
      refine (spec_StoreValid_c _ xs _ _ (HH.out.on b1) HX.out HL.out).mono ?_
      rw [HK.out]
      rintro e w2 ⟨rfl, z, rfl⟩
      have d2 := bl_drewN b1 z
      clear b1
      go_wp2
      go_ret3
      exact ⟨_, rfl, Own.made _ d2.size, d2.alloc d2.size _⟩
    have hmd : ((m : Int) == 0) = false := by simp; omega
    have H0 := hid (show ws ≠ [] by rintro rfl; have := HM.out; simp at this; omega)
    clear hm0
    have HRR := hid (HR.out.symm.trans (drop_on HK.out HP.out H0.out))
    clear HR
    go_enter Tryd.func77, Tryd.ntmps77
    go_wp2_with fail
    refine (spec_PathParts_c _ _ hp0).mono ?_
    rw [HP.out]
    rintro e w1 ⟨pv, rfl, o1, b1⟩
    obtain ⟨pa, pc, rfl, _, _, _⟩ := (Rd.of_own o1).strs HM.out
    have O1 := hid (Rd.of_own o1)
    clear o1
    go_wp2_with fail
    refine (spec_StoreValid_c _ xs _ _ (HH.out.on b1) HX.out HL.out).mono ?_
    rw [HK.out]
    rintro e w2 ⟨rfl, z, rfl⟩
    obtain ⟨W0, hW0⟩ : ∃ W0, W0 = w1.drewN z := ⟨_, rfl⟩
    have d2 : Below w.heap.size w W0 := by rw [hW0]; exact bl_drewN b1 z
    have O2 : Hid (Strs W0 W0.heap.size (.slice pa m pc) (ws.map strL)) := by rw [hW0]; exact O1.out.drewN z
    have H2 := hid (HH.out.on d2)
    have hal : Below W0.heap.size W0 (W0.alloc (.cells #[] 34)) := (Below.refl _ _).alloc (Nat.le_refl _) _
    rw [← hW0]
    clear b1 hW0 O1
    go_wp2_with (at_builtin; refine wpList_cat (enc := encP) (w0 := W0.alloc (.cells #[] 34)) rfl _ _ 23 rfl W0.heap.size W0.heap.size 34 i0 _ 2 24 Tryd.underlying23 hi0 hz0 hz1 hz2 rfl (by decide) _ _ [] xs (Own.made W0 (Nat.le_refl _)) _ (H2.out.below hal (Nat.le_refl _)) (Below.refl _ _) (by simp) (Nat.le_refl _) rfl rfl encP_one (by have := HL.out; simp; omega) (by decide) ?_; intro sv w3 hown' hb' hB' hg')
    have b3 := hal.trans hb'
    have d3 := bl_then d2 b3
    have O3 := hid (O2.out.on b3)
    have H3 := hid (H2.out.on b3)
    have S3 := hid (hown'.less d2.size)
    clear hown' hb' hg' hB' b3 d2 O2 H2 hal
    obtain ⟨⟨wp, there⟩, hwk⟩ : ∃ Q, walkAt xs root (ws.map strL) = Q := ⟨_, rfl⟩
    have HWK := hid hwk
    rw [hwk] at HRR
    clear hwk
    refine (spec_l9Walk_c _ _ xs root (ws.map strL) _ (wp, there) HWK.out H3.out HK.out O3.out).mono ?_
    rintro e w4 ⟨rfl, b4⟩
    have d4 := bl_then d3 b4
    have O4 := hid (O3.out.on b4)
    have H4 := hid (H3.out.on b4)
    have S4 := hid (S3.out.on b4)
    clear b4 d3 O3 H3 S3
    cases there
    · obtain rfl : R = (xs, root, false) := by rw [HRR.out]; rfl
      go_wp2
      go_ret3
      exact ⟨sv, rfl, S4.out, d4⟩
    have HRR2 := hid (HRR.out.trans (if_neg (by simp)))
    clear HRR
    obtain ⟨⟨xs1, p1, ok⟩, hR1⟩ : ∃ R1, dropIn xs root (ws.map strL) = R1 := ⟨_, rfl⟩
    have HR1 := hid hR1
    have HDT := hid (show dropTo xs root (ws.map strL) = if ok = true ∧ p1 < 0 then emptyRoot xs1 else (xs1, p1, ok) by unfold dropTo; rw [hR1])
    have HS1 := hid (show storeOk xs1 = true by have := dropIn_ok (ws.map strL) xs root HK.out; rw [hR1] at this; exact this)
    clear hR1
    go_wp2_with fail
    refine (spec_l10Drop_c (ws.map strL) _ _ xs root _ (xs1, p1, ok) (by simpa using H0.out) HR1.out H4.out HK.out O4.out HPS.out.1 (by have := HPS.out.2; omega)).mono ?_
    rintro e w5 ⟨nv, rfl, s5, b5⟩
    have d5 := bl_then d4 b5
    have S5 := hid (S4.out.on b5)
    have N5 := hid s5
    clear s5 b5 S4 H4 O4 d4
    cases ok
    · obtain rfl : R = (xs, root, false) := by rw [HRR2.out, HDT.out]; simp
      go_wp2
      go_ret3
      exact ⟨sv, rfl, S5.out, d5⟩
    have HT1 := hid (fun (x : Pc) (hx : x ∈ xs1) => show x.text.size ≤ 1048576 by have := st_text HS1.out hx; omega)
    have HN1 := hid (show xs1.length ≤ 1048576 by have := (st_in HS1.out).1; omega)
    by_cases hp1 : p1 < 0
    · obtain ⟨⟨xs2, p2, ok2⟩, hpq⟩ : ∃ Q, emptyRoot xs1 = Q := ⟨_, rfl⟩
      have HPQ := hid hpq
      have HRR3 := hid (show R = if ok2 = false then (xs, root, false) else (xs2, p2, true) by
        have e : dropTo xs root (ws.map strL) = emptyRoot xs1 := HDT.out.trans (if_pos ⟨rfl, hp1⟩)
        rw [HRR2.out, e, hpq])
      have HS2 := hid (show xs2.length ≤ 40 by have := (st_in (put_ok (t := strL (folderText [])) HS1.out)).1; have e : putS xs1 (strL (folderText [])) = (xs2, p2, ok2) := hpq; rw [e] at this; exact this)
      clear hpq HRR2 HDT
      go_wp2_with fail
      refine (spec_EmptyRoot_c _ xs1 _ N5.out HT1.out HN1.out).mono ?_
      rw [HPQ.out]
      rintro e w6 ⟨ov, rfl, o6, b6⟩
      have d6 := bl_then d5 b6
      have S6 := hid (S5.out.on b6)
      have O6 := hid (Rd.of_own o6)
      clear o6 b6 S5 N5 d5
      cases ok2
      · obtain rfl : R = (xs, root, false) := by rw [HRR3.out]; rfl
        go_wp2
        go_ret3
        exact ⟨sv, rfl, S6.out, d6⟩
      · obtain rfl : R = (xs2, p2, true) := by rw [HRR3.out]; rfl
        have hal6 : Below w6.heap.size w6 (w6.alloc (.cells #[] 34)) := (Below.refl _ _).alloc (Nat.le_refl _) _
        go_wp2_with (at_builtin; refine wpList_cat (enc := encP) (w0 := w6.alloc (.cells #[] 34)) rfl _ _ 23 rfl w6.heap.size w6.heap.size 34 i0 _ 2 24 Tryd.underlying23 hi0 hz0 hz1 hz2 rfl (by decide) _ _ [] xs2 (Own.made w6 (Nat.le_refl _)) _ (O6.out.below hal6 (Nat.le_refl _)) (Below.refl _ _) (by simp) (Nat.le_refl _) rfl rfl encP_one (by have := HS2.out; simp; omega) (by decide) ?_; intro fv w7 hown' hb' hB' hg')
        go_ret3
        exact ⟨fv, rfl, hown'.less d6.size, bl_then d6 (hal6.trans hb')⟩
    · have hp1' : 0 ≤ p1 := by omega
      obtain rfl : R = (xs1, p1, true) := by
        have e : dropTo xs root (ws.map strL) = (xs1, p1, true) := HDT.out.trans (if_neg (fun h => hp1 h.2))
        rw [HRR2.out, e]; rfl
      have hal6 : Below w5.heap.size w5 (w5.alloc (.cells #[] 34)) := (Below.refl _ _).alloc (Nat.le_refl _) _
      go_wp2_with (at_builtin; refine wpList_cat (enc := encP) (w0 := w5.alloc (.cells #[] 34)) rfl _ _ 23 rfl w5.heap.size w5.heap.size 34 i0 _ 2 24 Tryd.underlying23 hi0 hz0 hz1 hz2 rfl (by decide) _ _ [] xs1 (Own.made w5 (Nat.le_refl _)) _ (N5.out.below hal6 (Nat.le_refl _)) (Below.refl _ _) (by simp) (Nat.le_refl _) rfl rfl encP_one (by have := (st_in HS1.out).1; simp; omega) (by decide) ?_; intro fv w7 hown' hb' hB' hg')
      go_ret3
      exact ⟨fv, rfl, hown'.less d5.size, bl_then d5 (hal6.trans hb')⟩

end Go.Proofs.YtfdhaigmekmboaaDoor

/- Drawn stores: no folder leads to itself, and nothing that is named is missing. No program in sight. -/
namespace Go.Proofs.YtfdhaigmekmboaaDoor
open Go.RowKit

/-- What the folder of a text names. -/
noncomputable def nmd (t : ByteArray) : List Int := (entsOf (bs t)).map (·.print)
/-- Ranks fall from a folder to what it names; what is named is there, or it is L. -/
def GoodL (s : List Pc) (L : Int) : Prop := storeOk s = true ∧ ∃ rank : Int → Nat, ∀ n t, getP s n = some t → ∀ y ∈ nmd t, y = L ∨ (hasP s y = true ∧ rank y < rank n)
def Good (s : List Pc) : Prop := storeOk s = true ∧ ∃ rank : Int → Nat, ∀ n t, getP s n = some t → ∀ y ∈ nmd t, hasP s y = true ∧ rank y < rank n
theorem Good.l {s : List Pc} (h : Good s) (L : Int) : GoodL s L := ⟨h.1, h.2.imp fun _ hr n t hg y hy => .inr (hr n t hg y hy)⟩
theorem nmd_pv {t : ByteArray} {y : Int} (h : y ∈ nmd t) : pv y = true := by
  unfold nmd at h
  obtain ⟨e, he, rfl⟩ := List.mem_map.1 h
  exact (entOk_iff.1 (ents_all (entsOf_ok _) he)).2
theorem GoodL.good {s : List Pc} (h : GoodL s (-1)) : Good s := by
  refine ⟨h.1, h.2.imp fun r hr n t hg y hy => ?_⟩
  rcases hr n t hg y hy with rfl | h1
  · have := nmd_pv hy; simp [pv, inB] at this
  · exact h1
theorem nmd_file {t : ByteArray} (h : isFile (bs t) = true) : nmd t = [] := by unfold nmd entsOf; rw [file_no_folder h]; rfl
theorem nmd_folder {es : List Ent} (h : entsOk es = true) : nmd (strL (folderText es)) = es.map (·.print) := by unfold nmd entsOf; rw [bs_strL, readFolder_self h]; rfl
theorem has_get {s : List Pc} {n : Int} (h : hasP s n = true) : ∃ t, getP s n = some t := by unfold hasP at h; exact Option.isSome_iff_exists.1 h
theorem get_has {s : List Pc} {n : Int} {t : ByteArray} (h : getP s n = some t) : hasP s n = true := by unfold hasP; rw [h]; rfl
theorem Le.has {s x : List Pc} (h : Le s x) {n : Int} (hn : hasP s n = true) : hasP x n = true := by obtain ⟨t, ht⟩ := has_get hn; exact get_has (h _ _ ht)

theorem sum_ge {f : Int → Nat} : ∀ {l : List Int} {y : Int}, y ∈ l → f y ≤ (l.map f).sum
  | x :: r, y, h => by
    rw [List.map_cons, List.sum_cons]
    rcases List.mem_cons.1 h with rfl | h
    · omega
    · have := sum_ge (f := f) h; omega
theorem goodL_put {s : List Pc} {L : Int} {t : ByteArray} (h : GoodL s L) (hp : (putS s t).2.2 = true) (hn : ∀ y ∈ nmd t, y = L ∨ hasP s y = true) : GoodL (putS s t).1 L := by
  obtain ⟨hs, rank, hr⟩ := h
  obtain ⟨h1, h2, h3, h4⟩ := put_get hs hp
  have hle : Le s (putS s t).1 := fun n u hu => (h4 n u).2 (.inl hu)
  cases hg : getP s (printOf (bs t)) with
  | some u =>
    have hu : u = t := by
      have e1 := (h4 _ _).2 (.inl hg)
      have e2 := (h4 (printOf (bs t)) t).2 (.inr ⟨rfl, rfl⟩)
      rw [e1] at e2; exact Option.some.inj e2
    subst hu
    refine ⟨h1, rank, fun n v hv y hy => ?_⟩
    have hv' : getP s n = some v := by
      rcases (h4 n v).1 hv with h5 | ⟨rfl, rfl⟩
      · exact h5
      · exact hg
    exact (hr n v hv' y hy).imp id fun h5 => ⟨hle.has h5.1, h5.2⟩
  | none =>
    have hnq : ∀ y, hasP s y = true → y ≠ printOf (bs t) := fun y hy e => by subst e; unfold hasP at hy; rw [hg] at hy; cases hy
    refine ⟨h1, fun n => if n = printOf (bs t) then ((nmd t).map rank).sum + 1 else rank n, fun n v hv y hy => ?_⟩
    rcases (h4 n v).1 hv with h5 | ⟨rfl, rfl⟩
    · rcases hr n v h5 y hy with h6 | ⟨h6, h7⟩
      · exact .inl h6
      · right
        refine ⟨hle.has h6, ?_⟩
        simp only []
        rw [if_neg (hnq y h6), if_neg (hnq n (get_has h5))]
        exact h7
    · rcases hn y hy with h6 | h6
      · exact .inl h6
      · right
        refine ⟨hle.has h6, ?_⟩
        simp only []
        rw [if_neg (hnq y h6), if_pos trivial]
        have := sum_ge (f := rank) hy
        omega
/-- The last text is the one that was missing, a file. -/
theorem goodL_last {s : List Pc} {t : ByteArray} (h : GoodL s (printOf (bs t))) (hp : (putS s t).2.2 = true) (hf : isFile (bs t) = true) : Good (putS s t).1 := by
  have h0 := goodL_put h hp (by rw [nmd_file hf]; simp)
  obtain ⟨hs, rank, hr⟩ := h0
  have hL := ((put_get h.1 hp).2.2.2 (printOf (bs t)) t).2 (.inr ⟨rfl, rfl⟩)
  refine ⟨hs, fun n => if n = printOf (bs t) then 0 else rank n + 1, fun n v hv y hy => ?_⟩
  have hne : n ≠ printOf (bs t) := by
    rintro rfl
    rw [hL] at hv
    obtain rfl := Option.some.inj hv
    rw [nmd_file hf] at hy; simp at hy
  simp only []
  rw [if_neg hne]
  rcases hr n v hv y hy with rfl | ⟨h6, h7⟩
  · rw [if_pos rfl]; exact ⟨get_has hL, by omega⟩
  · refine ⟨h6, ?_⟩
    split <;> omega
/-- Each text names what is there, what was put ahead of it, or L. -/
def Chain (s : List Pc) (L : Int) : List ByteArray → Prop
  | [] => True
  | t :: r => (∀ y ∈ nmd t, y = L ∨ hasP s y = true) ∧ ((putS s t).2.2 = true → Chain (putS s t).1 L r)
theorem chain_good : ∀ (T : List ByteArray) {s s' : List Pc} {L : Int}, GoodL s L → Chain s L T → putAll s T = some s' → GoodL s' L
  | [], s, s', L, h, _, hp => by simp only [putAll, Option.some.injEq] at hp; rw [← hp]; exact h
  | t :: r, s, s', L, h, hc, hp => by
    unfold putAll at hp
    split at hp
    · rename_i h1
      exact chain_good r (goodL_put h h1 hc.1) (hc.2 h1) hp
    · cases hp
theorem chain_app : ∀ (T : List ByteArray) {s : List Pc} {L : Int} {t : ByteArray}, Chain s L T → (∀ s1, putAll s T = some s1 → ∀ y ∈ nmd t, y = L ∨ hasP s1 y = true) → Chain s L (T ++ [t])
  | [], s, L, t, _, h => ⟨h s rfl, fun _ => trivial⟩
  | x :: r, s, L, t, hc, h => ⟨hc.1, fun h1 => chain_app r (hc.2 h1) (fun s1 hs1 => h s1 (by unfold putAll; rw [if_pos h1]; exact hs1))⟩
theorem upT_chain {s : List Pc} (hs : Good s) (leaf : Int) (hl : pv leaf = true) : ∀ (FZ : List (List Ent × ByteArray)) (T : List ByteArray) (p : Int), (∀ x ∈ FZ, ∀ e ∈ x.1, hasP s e.print = true) → upT FZ leaf = some (T, p) →
    Chain s leaf T ∧ (p = leaf ∨ ∀ s1, putAll s T = some s1 → hasP s1 p = true)
  | [], T, p, _, h => by
    simp only [upT, Option.some.injEq, Prod.mk.injEq] at h
    rw [← h.1]; exact ⟨trivial, .inl h.2.symm⟩
  | (es, nm) :: r, T, p, hF, h => by
    unfold upT at h
    cases hu : upT r leaf with
    | none => rw [hu] at h; cases h
    | some TP =>
      obtain ⟨T0, ch⟩ := TP
      rw [hu] at h
      simp only [] at h
      split at h
      · rename_i hpe
        simp only [Option.some.injEq, Prod.mk.injEq] at h
        obtain ⟨rfl, rfl⟩ := h
        obtain ⟨c1, c2⟩ := upT_chain hs leaf hl r T0 ch (fun x hx => hF x (by simp [hx])) hu
        obtain ⟨e1, e2, e3⟩ := putEnt_ok hpe
        rw [e3]
        refine ⟨chain_app T0 c1 (fun s1 hs1 y hy => ?_), .inr (fun s1 hs1 => ?_)⟩
        · rw [nmd_folder e2] at hy
          obtain ⟨e, he, rfl⟩ := List.mem_map.1 hy
          rcases (putE_mem (ents_asc e1)).1 he with rfl | he
          · exact c2.imp id (fun c => c s1 hs1)
          · exact .inr ((putAll_le hs.1 hs1).2.1.has (hF (es, nm) (by simp) e he.1))
        · have := (putAll_le hs.1 hs1).2.2 (strL (folderText (putE es ⟨nm, ch⟩))) (by simp)
          rw [bs_strL] at this
          exact get_has this.2
      · cases h
theorem folder_names {s : List Pc} (hs : Good s) {pr : Int} {es : List Ent} (h : folderAt s pr = some es) : ∀ e ∈ es, hasP s e.print = true := by
  intro e he
  unfold folderAt at h
  cases hg : getP s pr with
  | none => rw [hg] at h; cases h
  | some t =>
    rw [hg] at h
    have h1 : readFolder (bs t) = some es := h
    obtain ⟨rank, hr⟩ := hs.2
    exact (hr pr t hg e.print (by unfold nmd entsOf; rw [h1]; exact List.mem_map.2 ⟨e, he, rfl⟩)).1
theorem way_names {s : List Pc} (hs : Good s) : ∀ (parts : List ByteArray) (q : Option Int) (F : List (List Ent)) (z : Option Int), wayW s q parts = some (F, z) → ∀ es ∈ F, ∀ e ∈ es, hasP s e.print = true
  | [], q, F, z, h => by simp [wayW] at h; rw [h.1]; simp
  | nm :: r, q, F, z, h => by
    unfold wayW at h
    split at h
    · cases h
    · rename_i es hes
      split at h
      · cases h
      · rename_i F' z' hw
        simp only [Option.some.injEq, Prod.mk.injEq] at h
        rw [← h.1]
        intro x hx
        rcases List.mem_cons.1 hx with rfl | hx
        · cases q with
          | none => simp [folderQ] at hes; subst hes; simp
          | some pr => exact folder_names hs hes
        · exact way_names hs r _ F' z' hw x hx
theorem write_good {s s' : List Pc} {root p : Int} {ws : List ByteArray} {content : List UInt8} (hs : Good s) (hc : contOk content = true) (h : writeTo s root ws content = some (s', p)) : Good s' := by
  have hft := file_textOk hc
  unfold writeTo at h
  cases hw : wayW s (some root) ws with
  | none => rw [hw] at h; cases h
  | some FZ =>
    obtain ⟨F, z⟩ := FZ
    rw [hw] at h
    simp only [] at h
    split at h
    · cases h
    · cases hu : upT (F.zip ws) (printOf (fileText content)) with
      | none => rw [hu] at h; cases h
      | some TP =>
        obtain ⟨T, p'⟩ := TP
        rw [hu] at h
        simp only [] at h
        rw [putAll_same (T' := T ++ [strL (fileText content)]) hs.1 (fun t => by simp [or_comm]), putAll_append] at h
        have hch := (upT_chain hs _ (printOf_pv hft.1) (F.zip ws) T p' (fun x hx e he => way_names hs ws _ F z hw x.1 (List.of_mem_zip hx).1 e he) hu).1
        cases hpa : putAll s T with
        | none => rw [hpa] at h; cases h
        | some s1 =>
          rw [hpa] at h
          simp only [Option.bind_some] at h
          rw [putAll_one] at h
          have hg := chain_good T (hs.l _) hch hpa
          by_cases hput : (putS s1 (strL (fileText content))).2.2 = true
          · rw [if_pos hput] at h
            simp only [Option.some.injEq, Prod.mk.injEq] at h
            rw [← h.1]
            refine goodL_last ?_ hput (by rw [bs_strL]; exact hft.2)
            rw [bs_strL]; exact hg
          · rw [if_neg hput] at h
            cases h
theorem dropT_chain {s : List Pc} (hs : Good s) : ∀ (FZ : List (List Ent × ByteArray)) (T : List ByteArray) (p : Int), Named FZ → (∀ x ∈ FZ, ∀ e ∈ x.1, hasP s e.print = true) → dropT FZ = some (T, p) →
    Chain s (-1) T ∧ ∀ s1, putAll s T = some s1 → hasP s1 p = true
  | [], T, p, _, _, h => by cases h
  | (es, nm) :: r, T, p, hN, hF, h => by
    have ho := hN (es, nm) (by simp)
    have hr : Named r := fun x hx => hN x (by simp [hx])
    unfold dropT at h
    cases hd : dropT r with
    | none =>
      rw [hd] at h
      simp only [] at h
      split at h
      · cases h
      · simp only [Option.some.injEq, Prod.mk.injEq] at h
        obtain ⟨rfl, rfl⟩ := h
        have hok := dropE_ok ho.1 nm
        refine ⟨⟨fun y hy => ?_, fun _ => trivial⟩, fun s1 hs1 => ?_⟩
        · rw [nmd_folder hok] at hy
          obtain ⟨e, he, rfl⟩ := List.mem_map.1 hy
          exact .inr (hF (es, nm) (by simp) e (dropE_mem.1 he).1)
        · have := (putAll_le hs.1 hs1).2.2 _ (by simp; rfl)
          rw [bs_strL] at this
          exact get_has this.2
    | some TP =>
      obtain ⟨T0, ch⟩ := TP
      rw [hd] at h
      simp only [Option.some.injEq, Prod.mk.injEq] at h
      obtain ⟨rfl, rfl⟩ := h
      obtain ⟨c, hc⟩ := ho.2
      have hch := dropT_pv hr hd
      have e2 := putE_there ho.1 hc hch
      rw [putEnt_on ho.1 e2]
      obtain ⟨c1, c2⟩ := dropT_chain hs r T0 ch hr (fun x hx => hF x (by simp [hx])) hd
      refine ⟨chain_app T0 c1 (fun s1 hs1 y hy => ?_), fun s1 hs1 => ?_⟩
      · rw [nmd_folder e2] at hy
        obtain ⟨e, he, rfl⟩ := List.mem_map.1 hy
        rcases (putE_mem (ents_asc ho.1)).1 he with rfl | he
        · exact .inr (c2 s1 hs1)
        · exact .inr ((putAll_le hs.1 hs1).2.1.has (hF (es, nm) (by simp) e he.1))
      · have := (putAll_le hs.1 hs1).2.2 (strL (folderText (putE es ⟨nm, ch⟩))) (by simp)
        rw [bs_strL] at this
        exact get_has this.2
theorem wayD_names {s : List Pc} (hs : Good s) : ∀ (parts : List ByteArray) (pr : Int), ∀ x ∈ wayD s pr parts, ∀ e ∈ x.1, hasP s e.print = true
  | [], _, x, hx => by simp [wayD] at hx
  | nm :: r, pr, x, hx => by
    unfold wayD at hx
    rcases List.mem_cons.1 hx with rfl | hx
    · intro e he
      simp only [entsOf_at] at he
      cases hf : folderAt s pr with
      | none => rw [hf] at he; simp at he
      | some es => rw [hf] at he; exact folder_names hs hf e he
    · exact wayD_names hs r _ x hx
theorem entsOk_nil : entsOk [] = true := rfl
theorem drop_good {s s' : List Pc} {root p : Int} {ws : List ByteArray} (hs : Good s) (hn : Named (wayD s root ws)) (h : dropOff s root ws = some (s', p)) : Good s' := by
  unfold dropOff dropTs at h
  cases hd : dropT (wayD s root ws) with
  | none =>
    rw [hd] at h
    simp only [Option.getD_none] at h
    cases hpa : putAll s [strL (folderText [])] with
    | none => rw [hpa] at h; cases h
    | some s1 =>
      rw [hpa] at h
      simp only [Option.some.injEq, Prod.mk.injEq] at h
      rw [← h.1]
      have hch : Chain s (-1) [strL (folderText [])] := ⟨fun y hy => by rw [nmd_folder entsOk_nil] at hy; simp at hy, fun _ => trivial⟩
      exact (chain_good _ (hs.l (-1)) hch hpa).good
  | some TP =>
    obtain ⟨T, p'⟩ := TP
    rw [hd] at h
    simp only [Option.getD_some] at h
    cases hpa : putAll s T with
    | none => rw [hpa] at h; cases h
    | some s1 =>
      rw [hpa] at h
      simp only [Option.some.injEq, Prod.mk.injEq] at h
      rw [← h.1]
      exact (chain_good _ (hs.l (-1)) (dropT_chain hs _ T p' hn (wayD_names hs ws root) hd).1 hpa).good

/-- Good stores stay good. -/
theorem writeAt_good {s : List Pc} {root : Int} {path content : List UInt8} {ws : List (List UInt8)} (hs : Good s) (hp : pathParts path = some ws) (h0 : ws ≠ []) (hc : contOk content = true) :
    Good (writeAt s root path content).1 ∧ Le s (writeAt s root path content).1 := by
  rw [writeAt_eq hs.1 hp h0 hc]
  cases h : writeTo s root (ws.map strL) content with
  | none => exact ⟨hs, Le.rfl' s⟩
  | some r =>
    obtain ⟨s', p⟩ := r
    refine ⟨write_good hs hc h, ?_⟩
    unfold writeTo at h
    split at h
    · cases h
    · split at h
      · cases h
      · split at h
        · cases h
        · split at h
          · cases h
          · rename_i hpa
            simp only [Option.some.injEq, Prod.mk.injEq] at h
            rw [← h.1]
            exact (putAll_le hs.1 hpa).2.1
theorem dropAt_good {s : List Pc} {root : Int} {path : List UInt8} {ws : List (List UInt8)} (hs : Good s) (hp : pathParts path = some ws) (h0 : ws ≠ []) :
    Good (dropAt s root path).1 ∧ Le s (dropAt s root path).1 := by
  by_cases hw : (walkAt s root (ws.map strL)).2 = true
  · rw [dropAt_eq hs.1 hp h0 hw]
    cases h : dropOff s root (ws.map strL) with
    | none => exact ⟨hs, Le.rfl' s⟩
    | some r =>
      obtain ⟨s', p⟩ := r
      refine ⟨drop_good hs (walk_named _ _ _ hw) h, ?_⟩
      unfold dropOff at h
      split at h
      · cases h
      · rename_i hpa
        simp only [Option.some.injEq, Prod.mk.injEq] at h
        rw [← h.1]
        exact (putAll_le hs.1 hpa).2.1
  · unfold dropAt
    rw [hp]
    simp only []
    rw [if_neg (fun h => h.elim (fun h => by rw [hs.1] at h; cases h) h0), if_pos (by simpa using hw)]
    exact ⟨hs, Le.rfl' s⟩

end Go.Proofs.YtfdhaigmekmboaaDoor

/- Walks: where a print is in a store. -/
namespace Go.Proofs.YtfdhaigmekmboaaDoor
open Go.RowKit

theorem find_at {l : List Pc} {n : Int} (h : storeOk l = true) (hh : hasP l n = true) : ∃ x : Pc, l[findAt l n]? = some x ∧ getP l n = some x.text ∧ x.print = n := by
  cases hg : l[findAt l n]? with
  | none =>
    exfalso
    have := find_no (l := l) (n := n) (st_asc h) (fun z hz => by rw [hg] at hz; cases hz)
    unfold hasP at hh
    rw [this] at hh
    cases hh
  | some z =>
    by_cases hz : z.print = n
    · exact ⟨z, rfl, find_has (st_asc h) hg hz, hz⟩
    · exfalso
      have := find_no (l := l) (n := n) (st_asc h) (fun z' hz' => by rw [hg] at hz'; rw [← Option.some.inj hz']; exact hz)
      unfold hasP at hh
      rw [this] at hh
      cases hh

def cmpI (x y : Int) : Int := if x < y then -1 else if y < x then 1 else 0

set_option maxHeartbeats 400000 in
theorem cmp_isNaN_c (x : Int) (w : World) :
    Calls Tryd.prog 68 #[.int .i64 x] w fun e w' => e = .returned (.bool false) ∧ w = w' := by
  go_enter Tryd.func68, Tryd.ntmps68
  go_wp2
  go_ret
  exact ⟨by simp, rfl⟩

set_option maxHeartbeats 400000 in
theorem cmp_Compare_c (x y : Int) (w : World) :
    Calls Tryd.prog 51 #[.int .i64 x, .int .i64 y] w fun e w' => e = .returned (.int .i64 (cmpI x y)) ∧ w = w' := by
  by_cases h1 : x < y
  · have HO := hid (show cmpI x y = -1 by unfold cmpI; rw [if_pos h1])
    go_enter Tryd.func51, Tryd.ntmps51
    go_wp2_with (go_at_call 68; refine (cmp_isNaN_c _ _).mono ?_; rintro e w' ⟨rfl, rfl⟩)
    go_ret
    exact ⟨ret_i HO.out.symm, rfl⟩
  · by_cases h2 : y < x
    · have HO := hid (show cmpI x y = 1 by unfold cmpI; rw [if_neg h1, if_pos h2])
      go_enter Tryd.func51, Tryd.ntmps51
      go_wp2_with (go_at_call 68; refine (cmp_isNaN_c _ _).mono ?_; rintro e w' ⟨rfl, rfl⟩)
      go_ret
      exact ⟨ret_i HO.out.symm, rfl⟩
    · have HO := hid (show cmpI x y = 0 by unfold cmpI; rw [if_neg h1, if_neg h2])
      go_enter Tryd.func51, Tryd.ntmps51
      go_wp2_with (go_at_call 68; refine (cmp_isNaN_c _ _).mono ?_; rintro e w' ⟨rfl, rfl⟩)
      go_ret
      exact ⟨ret_i HO.out.symm, rfl⟩

set_option maxHeartbeats 400000 in
theorem impl_findPiece1_c (r : Int) (t : ByteArray) (y z : Int) (hz : cmpI r y = z) (w : World) :
    Calls Tryd.prog 50 #[.agg #[.int .i64 r, .string t], .int .i64 y] w fun e w' => e = .returned (.int .i64 z) ∧ Below w.heap.size w w' := by
  have HZ := hid hz
  clear hz
  go_enter Tryd.func50, Tryd.ntmps50
  go_wp2_with (go_at_call 51; refine (cmp_Compare_c _ _ _).mono ?_; rintro e w' ⟨rfl, rfl⟩)
  go_ret
  exact ⟨ret_i HZ.out, (Below.refl _ _).alloc (Nat.le_refl _) _⟩

set_option maxHeartbeats 2000000 in
set_option maxRecDepth 100000 in
theorem bsearch_c (v : Value) (xs : List Pc) (y : Int) (w : World) (h : Pcs w w.heap.size v xs) (ha : xs.Pairwise (fun a b => a.print < b.print)) (hl : xs.length ≤ 1048576) :
    Calls Tryd.prog 49 #[v, .int .i64 y, .func (.func 50) #[] #[]] w fun e w' => e = .returned (.tuple #[.int .i64 (findAt xs y), .bool (hasP xs y)]) ∧ Below w.heap.size w w' := by
  obtain ⟨n, hn⟩ : ∃ n, xs.length = n := ⟨_, rfl⟩
  obtain ⟨a, c, rfl, h1, h2, h3⟩ := h.pcs hn
  rw [hn] at hl
  have HN := hid hn
  have HA := hid ha
  clear hn ha h
  go_enter Tryd.func49, Tryd.ntmps49
  go_wp2
  go_loopw [9, 10] (fun i j wr => ∃ lo hi : Nat, i = .int .i64 lo ∧ j = .int .i64 hi ∧ lo ≤ hi ∧ hi ≤ n ∧ Hid ((∀ (q : Nat) (x : Pc), q < lo → xs[q]? = some x → x.print < y) ∧ (∀ (q : Nat) (x : Pc), hi ≤ q → xs[q]? = some x → y ≤ x.print)) ∧ Below w.heap.size w wr) (fun i j _ => (intOf j).toNat - (intOf i).toNat)
  case atStart => exact ⟨0, n, rfl, rfl, Nat.zero_le _, Nat.le_refl _, hid ⟨fun q x hq => absurd hq (Nat.not_lt_zero _), fun q x hq hg => absurd (List.getElem?_eq_some_iff.1 hg).1 (by have := HN.out; omega)⟩, Below.refl _ _⟩
  case round =>
    obtain ⟨lo, hi, rfl, rfl, hlh, hin, hinv, hb⟩ := hrel
    by_cases hlt : lo < hi
    · obtain ⟨m, hm⟩ : ∃ m, (lo + hi) / 2 = m := ⟨_, rfl⟩
      have hmi : ((lo : Int) + (hi : Int)) / 2 = (m : Int) := by omega
      have hm1 : lo ≤ m := by omega
      have hm2 : m < hi := by omega
      obtain ⟨b, o, r, t, rfl, hbl, hx, k0, k1⟩ := h3 m (by omega)
      have j0 := (hb.cell (p := ⟨b, o + m * 2, none⟩) hbl).trans k0
      have j1 := (hb.cell (p := ⟨b, o + m * 2 + 1, none⟩) hbl).trans k1
      clear k0 k1 h3 hm
      obtain ⟨z, hz⟩ : ∃ z, cmpI r y = z := ⟨_, rfl⟩
      by_cases hry : r < y
      · have hz1 : z = -1 := by rw [← hz]; unfold cmpI; rw [if_pos hry]
        subst hz1
        have HZ := hid hz
        have HS := hid (show ∀ (q : Nat) (x : Pc), q < m + 1 → xs[q]? = some x → x.print < y by
          intro q x hq hg
          rcases Nat.lt_succ_iff_lt_or_eq.1 hq with h | rfl
          · have := asc_get HA.out hg hx.out h
            simp only at this; omega
          · rw [hx.out] at hg; rw [← Option.some.inj hg]; exact hry)
        clear hz hry
        go_wp2_with fail
        refine (impl_findPiece1_c r t y _ HZ.out _).mono ?_
        rintro e w4 ⟨rfl, b4⟩
        have hb4 := bl_then hb b4
        clear b4
        go_wp2
        go_roundw
        case rel => exact ⟨m + 1, hi, by go_num, rfl, by omega, hin, hid ⟨HS.out, hinv.out.2⟩, hb4⟩
        case measure => simp [intOf]; omega
      · have hz0 : ¬ z < 0 := by rw [← hz]; unfold cmpI; rw [if_neg hry]; split <;> omega
        have hz0' : decide (z < 0) = false := by simp; omega
        have HZ := hid hz
        have HS := hid (show ∀ (q : Nat) (x : Pc), m ≤ q → xs[q]? = some x → y ≤ x.print by
          intro q x hq hg
          rcases Nat.lt_or_eq_of_le hq with h | rfl
          · have := asc_get HA.out hx.out hg h
            simp only at this; omega
          · rw [hx.out] at hg; rw [← Option.some.inj hg]; simp only; omega)
        clear hz hry
        go_wp2_with fail
        refine (impl_findPiece1_c r t y _ HZ.out _).mono ?_
        rintro e w4 ⟨rfl, b4⟩
        have hb4 := bl_then hb b4
        clear b4
        go_wp2
        go_roundw
        case rel => exact ⟨lo, m, rfl, rfl, by omega, by omega, hid ⟨hinv.out.1, HS.out⟩, hb4⟩
        case measure => simp [intOf]; omega
    · obtain rfl : hi = lo := by omega
      have HF := hid (findAt_eq (l := xs) (n := y) (k := hi) (by rw [HN.out]; exact hin) hinv.out.1 (fun x hx => hinv.out.2 _ _ (Nat.le_refl _) hx))
      by_cases hend : hi < n
      · obtain ⟨b, o, r, t, rfl, hbl, hx, k0, k1⟩ := h3 hi hend
        have j0 := (hb.cell (p := ⟨b, o + hi * 2, none⟩) hbl).trans k0
        have j1 := (hb.cell (p := ⟨b, o + hi * 2 + 1, none⟩) hbl).trans k1
        clear k0 k1 h3
        obtain ⟨z, hz⟩ : ∃ z, cmpI r y = z := ⟨_, rfl⟩
        have hry := hinv.out.2 _ _ (Nat.le_refl _) hx.out
        simp only at hry
        have hzb : (z == 0) = hasP xs y := by
          rw [Bool.eq_iff_iff, hasP_iff, beq_iff_eq]
          constructor
          · intro h0
            refine ⟨_, List.mem_of_getElem? hx.out, ?_⟩
            rw [← hz] at h0
            unfold cmpI at h0
            split at h0
            · simp at h0
            · split at h0
              · simp at h0
              · simp only; omega
          · rintro ⟨x, hxm, rfl⟩
            obtain ⟨q, hq, e⟩ := List.getElem_of_mem hxm
            have hg : xs[q]? = some x := by rw [List.getElem?_eq_getElem hq, e]
            have hqi : q = hi := by
              rcases Nat.lt_trichotomy q hi with h | h | h
              · have := hinv.out.1 _ _ h hg; omega
              · exact h
              · have := asc_get HA.out hx.out hg h; simp only at this; omega
            subst hqi
            rw [hx.out] at hg
            have := Option.some.inj hg
            subst this
            rw [← hz]; unfold cmpI; simp
        have HZ := hid hz
        have HZB := hid hzb
        clear hz hry hzb
        go_wp2_with fail
        refine (impl_findPiece1_c r t y _ HZ.out _).mono ?_
        rintro e w4 ⟨rfl, b4⟩
        have hb4 := bl_then hb b4
        clear b4
        go_wp2
        go_ret2
        exact ⟨by rw [HF.out, ← HZB.out]; rfl, hb4⟩
      · have HH := hid (show hasP xs y = false by
          rw [Bool.eq_false_iff]
          intro hh
          obtain ⟨x, hxm, hxy⟩ := hasP_iff.1 hh
          obtain ⟨q, hq, e⟩ := List.getElem_of_mem hxm
          have hg : xs[q]? = some x := by rw [List.getElem?_eq_getElem hq, e]
          have := hinv.out.1 _ _ (by have := HN.out; omega) hg
          omega)
        clear h3
        go_wp2
        go_ret2
        exact ⟨by rw [HF.out, HH.out]; rfl, hb⟩

set_option maxHeartbeats 400000 in
theorem impl_findPiece_c (v : Value) (xs : List Pc) (y : Int) (w : World) (h : Pcs w w.heap.size v xs) (ho : storeOk xs = true) :
    Calls Tryd.prog 29 #[v, .int .i64 y] w fun e w' => e = .returned (.tuple #[.int .i64 (findAt xs y), .bool (hasP xs y)]) ∧ Below w.heap.size w w' := by
  obtain ⟨n, hn⟩ : ∃ n, xs.length = n := ⟨_, rfl⟩
  obtain ⟨a, c, rfl, h1, h2, h3⟩ := h.pcs hn
  have h40 := (st_in ho).1
  have HO := hid ho
  clear h3
  go_enter Tryd.func29, Tryd.ntmps29
  go_wp2_with fail
  refine (bsearch_c _ xs y _ h (st_asc HO.out) (by omega)).mono ?_
  rintro e w1 ⟨rfl, b1⟩
  go_wp2
  go_ret2
  exact ⟨rfl, b1⟩

set_option maxHeartbeats 400000 in
theorem impl_textOf_c (v : Value) (xs : List Pc) (y : Int) (w : World) (h : Pcs w w.heap.size v xs) (ho : storeOk xs = true) :
    Calls Tryd.prog 42 #[v, .int .i64 y] w fun e w' => e = .returned (.tuple #[.string ((getP xs y).getD ByteArray.empty), .bool (hasP xs y)]) ∧ Below w.heap.size w w' := by
  obtain ⟨n, hn⟩ : ∃ n, xs.length = n := ⟨_, rfl⟩
  obtain ⟨a, c, rfl, h1, h2, h3⟩ := h.pcs hn
  have HN := hid hn
  have HO := hid ho
  clear hn ho
  obtain ⟨q, hq⟩ : ∃ q, findAt xs y = q := ⟨_, rfl⟩
  have HQ := hid hq
  cases hh : hasP xs y
  · have HG := hid (show getP xs y = none by unfold hasP at hh; simpa using hh)
    have HH := hid hh
    clear hh hq h3
    go_enter Tryd.func42, Tryd.ntmps42
    go_wp2_with fail
    refine (impl_findPiece_c _ xs y _ h HO.out).mono ?_
    rw [HQ.out, HH.out]
    rintro e w1 ⟨rfl, b1⟩
    go_wp2
    go_ret2
    exact ⟨by rw [HG.out]; rfl, b1⟩
  · have hex : ∃ x, xs[q]? = some x ∧ x.print = y := by
      obtain ⟨x, hxm, hxy⟩ := hasP_iff.1 hh
      cases hg : xs[q]? with
      | none =>
        exfalso
        have := find_no (l := xs) (n := y) (st_asc HO.out) (fun z hz => by rw [hq, hg] at hz; cases hz)
        unfold hasP at hh
        rw [this] at hh
        cases hh
      | some z =>
        by_cases hz : z.print = y
        · exact ⟨z, rfl, hz⟩
        · exfalso
          have := find_no (l := xs) (n := y) (st_asc HO.out) (fun z' hz' => by rw [hq, hg] at hz'; rw [← Option.some.inj hz']; exact hz)
          unfold hasP at hh
          rw [this] at hh
          cases hh
    obtain ⟨x, hx1, hx2⟩ := hex
    have hqn : q < n := by have := (List.getElem?_eq_some_iff.1 hx1).1; have := HN.out; omega
    have hgt := find_has (l := xs) (n := y) (x := x) (st_asc HO.out) (by rw [hq]; exact hx1) hx2
    obtain ⟨b, o, r, t, rfl, hbl, hx, k0, k1⟩ := h3 q hqn
    have hxr : x = ⟨r, t⟩ := by have := hx1.symm.trans hx.out; simpa using this
    subst hxr
    have HG := hid hgt
    have HH := hid hh
    clear hh hq h3 hgt hx1 hx2 k0
    go_enter Tryd.func42, Tryd.ntmps42
    go_wp2_with fail
    refine (impl_findPiece_c _ xs y _ h HO.out).mono ?_
    rw [HQ.out, HH.out]
    rintro e w1 ⟨rfl, b1⟩
    have j1 := (b1.cell (p := ⟨b, o + q * 2 + 1, none⟩) hbl).trans k1
    have hqn' : (q : Int) < n := by omega
    go_wp2
    go_ret2
    exact ⟨by rw [HG.out]; rfl, b1⟩

end Go.Proofs.YtfdhaigmekmboaaDoor

/- Walks: prints that are wanted, texts to send. -/
namespace Go.Proofs.YtfdhaigmekmboaaDoor
open Go.RowKit

set_option maxHeartbeats 2000000 in
set_option maxRecDepth 100000 in
theorem impl_WantedOf_c (v u : Value) (xs : List Pc) (ns : List Int) (w : World) (h : Pcs w w.heap.size v xs) (h' : Ints w w.heap.size u ns) (hl : ns.length ≤ 1048576) :
    Calls Tryd.prog 19 #[v, u] w fun e w' => ∃ v', e = .returned v' ∧ OwnI w' w.heap.size v' (wantedOf xs ns) ∧ Below w.heap.size w w' := by
  obtain ⟨n, hn⟩ : ∃ n, xs.length = n := ⟨_, rfl⟩
  obtain ⟨a, c, rfl, _, _, _⟩ := h.pcs hn
  obtain ⟨m, hm⟩ : ∃ m, ns.length = m := ⟨_, rfl⟩
  obtain ⟨a', c', rfl, h1, h2, h3⟩ := h'.ints hm
  rw [hm] at hl
  have HM := hid hm
  have HP : Hid (∀ wx, Below w.heap.size w wx → Pcs wx wx.heap.size (.slice a n c) xs) := fun wx hx' => h.on hx'
  clear hn hm h'
  cases hok : storeOk xs
  · have HO := hid (show wantedOf xs ns = [] by unfold wantedOf; rw [hok]; rfl)
    clear h3
    go_enter Tryd.func19, Tryd.ntmps19
    go_wp2_with fail
    refine (impl_StoreValid_c _ xs _ h).mono ?_
    rw [hok]
    rintro e w1 ⟨rfl, b1⟩
    go_wp2
    go_ret
    exact ⟨_, rfl, by rw [HO.out]; exact Own.nil_, b1⟩
  · have HO := hid (show wantedOf xs ns = wantFrom xs ns by unfold wantedOf; rw [hok]; rfl)
    have HK := hid hok
    go_enter Tryd.func19, Tryd.ntmps19
    go_wp2_with fail
    refine (impl_StoreValid_c _ xs _ h).mono ?_
    rw [hok]
    rintro e w1 ⟨rfl, b1⟩
    clear hok h
    have hs1 := b1.size
    go_wp2
    go_loopw [5, 15] (fun out i wr => ∃ (k : Nat) (acc : List Int), k ≤ m ∧ i = .int .i64 k ∧ OwnI wr w1.heap.size out acc ∧ Hid (acc = wantFrom xs (ns.take k)) ∧ acc.length ≤ k ∧ Below w1.heap.size w1 wr) (fun _ i _ => m - (intOf i).toNat)
    case atStart => exact ⟨0, [], Nat.zero_le _, rfl, Own.nil_, rfl, Nat.zero_le _, Below.refl _ _⟩
    case round =>
      obtain ⟨k, acc, hk, rfl, hown, hacc, hlen, hb⟩ := hrel
      have c1 := bl_then b1 hb
      by_cases hlt : k < m
      · obtain ⟨b, o, x, rfl, hbl, hx, k0⟩ := h3 k hlt
        have j0 := (c1.cell (p := ⟨b, o + k, none⟩) hbl).trans k0
        have HF := hid ((wantFrom_succ (l := xs) hx.out).trans (by rw [← hacc.out]))
        clear k0 h3
        obtain ⟨y, hy⟩ : ∃ y, hasP xs x = y := ⟨_, rfl⟩
        have HY := hid hy
        clear hy
        go_wp2_with fail
        refine (impl_findPiece_c _ xs x _ (HP.out _ c1) HK.out).mono ?_
        rw [HY.out]
        rintro e w4 ⟨rfl, b4⟩
        have hown4 := hown.on b4
        have hb4 := hb.trans (b4.mono hb.size)
        have hB4 := hb4.size
        clear b4 hown hb
        cases y
        · obtain ⟨z, hz⟩ : ∃ z, hasI acc x = z := ⟨_, rfl⟩
          have HZ := hid hz
          clear hz
          go_wp2_with fail
          refine (slices_Contains_c _ acc x _ _ (Rd.of_own hown4)).mono ?_
          rw [HZ.out]
          rintro e w5 ⟨rfl, rfl⟩
          cases z
          · have HS := hid (show wantStep xs acc x = acc ++ [x] by unfold wantStep; rw [HY.out, HZ.out]; rfl)
            go_wp2_with (at_builtin; refine push_int (w0 := w1) rfl _ _ rfl _ _ _ _ _ hown4 hb4 hB4 (Nat.le_refl _) rfl rfl (by omega) ?_; intro v' w' hown' hb' hB' _)
            go_roundw
            case rel => exact ⟨k + 1, _, by omega, by go_num, hown', hid (HF.out.trans HS.out).symm, by simp; omega, hb'⟩
            case measure => simp [intOf]; omega
          · have HS := hid (show wantStep xs acc x = acc by unfold wantStep; rw [HY.out, HZ.out]; rfl)
            go_wp2
            go_roundw
            case rel => exact ⟨k + 1, _, by omega, by go_num, hown4, hid (HF.out.trans HS.out).symm, by omega, hb4⟩
            case measure => simp [intOf]; omega
        · have HS := hid (show wantStep xs acc x = acc by unfold wantStep; rw [HY.out]; rfl)
          go_wp2
          go_roundw
          case rel => exact ⟨k + 1, _, by omega, by go_num, hown4, hid (HF.out.trans HS.out).symm, by omega, hb4⟩
          case measure => simp [intOf]; omega
      · have HA := hid (show acc = wantedOf xs ns by rw [HO.out, hacc.out, take_all HM.out (show m ≤ k by omega)])
        go_wp2
        go_ret
        exact ⟨_, rfl, by rw [← HA.out]; exact hown.less hs1, c1⟩




end Go.Proofs.YtfdhaigmekmboaaDoor

/- Walks: the prints that folders name; those that are missing. -/
namespace Go.Proofs.YtfdhaigmekmboaaDoor
open Go.RowKit

noncomputable def prs (p : Pc) : List Int := (entsOf (bs p.text)).map (·.print)
noncomputable def named (l : List Pc) : List Int := l.flatMap prs
theorem named_succ {l : List Pc} {k : Nat} {x : Pc} (h : l[k]? = some x) : named (l.take (k + 1)) = named (l.take k) ++ prs x := by
  unfold named; rw [take_snoc' h]; simp
theorem entsOf_len (l : List UInt8) : (entsOf l).length ≤ 3 := by
  unfold entsOf
  cases h : readFolder l with
  | none => simp
  | some es => exact (ents_in (readFolder_some h).1).1
theorem named_len : ∀ l : List Pc, (named l).length ≤ 3 * l.length
  | [] => by simp [named]
  | p :: r => by
    have h1 := named_len r
    have h2 := entsOf_len (bs p.text)
    unfold named at h1 ⊢
    simp only [List.flatMap_cons, List.length_append, List.length_cons]
    simp only [prs, List.length_map]
    omega
noncomputable def missingOf (l : List Pc) : List Int := wantedOf l (named l)

set_option maxHeartbeats 2000000 in
set_option maxRecDepth 100000 in
theorem impl_namedPrints_c (v : Value) (xs : List Pc) (w : World) (h : Pcs w w.heap.size v xs) (hx0 : ∀ x ∈ xs, x.text.size ≤ 1000000) (hl : xs.length ≤ 1048576) (hg : Glob w) :
    Calls Tryd.prog 28 #[v] w fun e w' => ∃ v', e = .returned v' ∧ OwnI w' w.heap.size v' (named xs) ∧ Below w.heap.size w w' := by
  obtain ⟨n, hn⟩ : ∃ n, xs.length = n := ⟨_, rfl⟩
  obtain ⟨a, c, rfl, h1, h2, h3⟩ := h.pcs hn
  rw [hn] at hl
  have HN := hid hn
  have HX := hid hx0
  have HG := hid hg
  clear hn h hx0 hg
  go_enter Tryd.func28, Tryd.ntmps28
  go_wp2
  go_loopw [3, 12] (fun pv i wr => ∃ (k : Nat) (acc : List Int), k ≤ n ∧ i = .int .i64 k ∧ OwnI wr w.heap.size pv acc ∧ Hid (acc = named (xs.take k)) ∧ acc.length ≤ 3 * k ∧ Below w.heap.size w wr) (fun _ i _ => n - (intOf i).toNat)
  case atStart => exact ⟨0, [], Nat.zero_le _, rfl, Own.nil_, rfl, by simp, Below.refl _ _⟩
  case round =>
    obtain ⟨k, acc, hk, rfl, hown, hacc, hlen, hb⟩ := hrel
    by_cases hlt : k < n
    · obtain ⟨b, o, r, t, rfl, hbl, hx, k0, k1⟩ := h3 k hlt
      have j0 := (hb.cell (p := ⟨b, o + k * 2, none⟩) hbl).trans k0
      have j1 := (hb.cell (p := ⟨b, o + k * 2 + 1, none⟩) hbl).trans k1
      have HT := hid (HX.out _ (List.mem_of_getElem? hx.out))
      have HA := hid (named_succ hx.out)
      obtain ⟨W1, hW1⟩ : ∃ W1, W1 = wr.alloc (.cells #[.int .i64 r, .string t] 34) := ⟨_, rfl⟩
      have hb1 : Below w.heap.size w W1 := by rw [hW1]; exact hb.alloc hb.size _
      have hown1 : OwnI W1 w.heap.size u3 acc := by rw [hW1]; exact hown.alloc _
      obtain ⟨es, hes⟩ : ∃ es, entsOf (bs t) = es := ⟨_, rfl⟩
      have HES := hid hes
      have hm3 := entsOf_len (bs t)
      rw [hes] at hm3
      obtain ⟨m, hm⟩ : ∃ m, es.length = m := ⟨_, rfl⟩
      have HM := hid hm
      have hm4 : m ≤ 3 := by omega
      clear k0 k1 h3 hes hm3
      go_wp2_with fail
      rw [← hW1]
      refine (impl_ReadFolder_c t _ (Nat.le_trans HT.out (by omega)) (HG.out.on hb1)).mono ?_
      rw [HES.out]
      rintro e w4 ⟨lv, rfl, o4, b4⟩
      have hown4 := hown1.on b4
      have hb4 := bl_then hb1 b4
      have hlt4 := hid o4.lt
      have hpb : Hid (∀ g, Value.ownBlock u3 = some g → g < W1.heap.size) := hid fun g hg => (hown1.lt g hg).2
      have hsz4 := b4.size
      obtain ⟨la, lc, rfl, _, _, _⟩ := (Rd.of_own o4).ents hm
      clear hW1 b4 hm
      go_wp2
      go_loopw [3, 24] (fun pv i wr2 => ∃ (j : Nat) (acc2 : List Int), j ≤ m ∧ i = .int .i64 j ∧ OwnI wr2 w.heap.size pv acc2 ∧ Hid (acc2 = acc ++ (es.map (·.print)).take j) ∧ acc2.length ≤ 3 * k + j ∧ OwnE wr2 W1.heap.size (.slice la m lc) es ∧ Hid (∀ g, pv.ownBlock = some g → g < W1.heap.size ∨ w4.heap.size ≤ g) ∧ Below w.heap.size w wr2 ∧ w4.heap.size ≤ wr2.heap.size) (fun _ i _ => m - (intOf i).toNat)
      case atStart => exact ⟨0, acc, Nat.zero_le _, rfl, hown4, by simp [Hid], by omega, o4, hid fun g hg => .inl (hpb.out g hg), hb4, Nat.le_refl _⟩
      case round =>
        obtain ⟨j, acc2, hj, rfl, hown2, hacc2, hlen2, hol, hpb2, hb2, hsz2⟩ := hrel
        clear o4 hown4 hb4
        by_cases hjm : j < m
        · obtain ⟨_, _, hv, _, _, hcs⟩ := (Rd.of_own hol).ents HM.out
          simp only [Value.slice.injEq] at hv
          obtain ⟨e1, _, e2⟩ := hv
          subst e1
          subst e2
          obtain ⟨eb, eo, nm, pr, rfl, hebl, hex, c0, c1⟩ := hcs j hjm
          have HA2 := hid (show (es.map (·.print)).take (j + 1) = (es.map (·.print)).take j ++ [pr] by rw [take_snoc' (x := pr) (by rw [List.getElem?_map, hex.out]; rfl)])
          have hal2 : Below w.heap.size w (wr.alloc (.cells #[.string nm, .int .i64 pr] 37)) := hb2.alloc hb2.size _
          have hown3 := hown2.alloc (.cells #[.string nm, .int .i64 pr] 37)
          have hol3 := hol.alloc (.cells #[.string nm, .int .i64 pr] 37)
          have hB3 := hal2.size
          clear hcs hown2 hb2 hol
          go_wp2_with (at_builtin; refine push_int (w0 := w) rfl _ _ rfl w.heap.size w.heap.size _ acc2 pr hown3 hal2 hB3 (Nat.le_refl _) rfl (by simp [Act.eval]) (by omega) ?_; intro v' w' hown' hb' hB' hg')
          go_roundw
          case rel =>
            have hne : (Value.slice (some ⟨eb, eo, none⟩) m lc).ownBlock = none ∨ (Value.slice (some ⟨eb, eo, none⟩) m lc).ownBlock ≠ Value.ownBlock _ := .inr (fun e => by
              have h5 := hlt4.out eb rfl
              rcases hpb2.out eb e.symm with h6 | h6
              · omega
              · omega)
            have hsz3 : w4.heap.size ≤ w'.heap.size := by have := hg'.1.size; simp at this; omega
            refine ⟨j + 1, _, by omega, by go_num, hown', by unfold Hid; rw [HA2.out, hacc2.out, List.append_assoc], by simp; omega, Own.kept hol3 hg'.1 hne, hid fun g hg => ?_, hb', hsz3⟩
            rcases hg'.2 g hg with h6 | h6
            · exact hpb2.out g h6
            · exact .inr (by simp at h6; omega)
          case measure => simp [intOf]; omega
        · have HF := hid (show acc2 = named (xs.take (k + 1)) by
            have e9 : (es.map (·.print)).take j = es.map (·.print) := List.take_of_length_le (by rw [List.length_map, HM.out]; omega)
            rw [hacc2.out, HA.out, hacc.out, e9]; unfold prs; rw [HES.out])
          go_wp2
          go_roundw
          case rel => exact ⟨k + 1, acc2, by omega, by go_num, hown2, HF, by omega, hb2⟩
          case measure => simp [intOf]; omega
    · have HA := hid (show acc = named xs by rw [hacc.out, take_all HN.out (show n ≤ k by omega)])
      go_wp2
      go_ret
      exact ⟨_, rfl, by rw [← HA.out]; exact hown, hb⟩

end Go.Proofs.YtfdhaigmekmboaaDoor

/- What roots reach in a store, in plain Lean. -/
namespace Go.Proofs.YtfdhaigmekmboaaDoor
open Go.RowKit

/-- A set of prints that has the roots that are there, and with a piece all that its folder names and that is there. -/
def Shut (l : List Pc) (roots : List Int) (S : Int → Prop) : Prop :=
  (∀ y ∈ roots, hasP l y = true → S y) ∧ ∀ x ∈ l, S x.print → ∀ y ∈ prs x, hasP l y = true → S y
def Rch (l : List Pc) (roots : List Int) (y : Int) : Prop := ∀ S : Int → Prop, Shut l roots S → S y
theorem rch_root {l : List Pc} {roots : List Int} {y : Int} (h : y ∈ roots) (hy : hasP l y = true) : Rch l roots y := fun _ hS => hS.1 y h hy
theorem rch_step {l : List Pc} {roots : List Int} {x : Pc} {y : Int} (hx : x ∈ l) (h : Rch l roots x.print) (hy : y ∈ prs x) (hp : hasP l y = true) : Rch l roots y := fun S hS => hS.2 x hx (h S hS) y hy hp
noncomputable def inR (l : List Pc) (roots : List Int) (y : Int) : Bool := @decide (Rch l roots y) (Classical.propDecidable _)
theorem inR_iff {l : List Pc} {roots : List Int} {y : Int} : inR l roots y = true ↔ Rch l roots y := by unfold inR; simp
noncomputable def reachB (l : List Pc) (roots : List Int) : List Bool := l.map fun p => inR l roots p.print
noncomputable def reachOf (l : List Pc) (roots : List Int) : List Int := if storeOk l then (l.filter fun p => inR l roots p.print).map (·.print) else []
theorem reachB_len (l : List Pc) (roots : List Int) : (reachB l roots).length = l.length := by simp [reachB]

/-- The piece with a print is marked. -/
def OnA (A : List Bool) (l : List Pc) (y : Int) : Prop := ∃ (i : Nat) (x : Pc), A[i]? = some true ∧ l[i]? = some x ∧ x.print = y
theorem print_one {l : List Pc} (hs : storeOk l = true) {i j : Nat} {x z : Pc} (hi : l[i]? = some x) (hj : l[j]? = some z) (h : x.print = z.print) : i = j := by
  rcases Nat.lt_trichotomy i j with h1 | h1 | h1
  · have := asc_get (st_asc hs) hi hj h1; omega
  · exact h1
  · have := asc_get (st_asc hs) hj hi h1; omega
theorem has_mem {l : List Pc} {x : Pc} (h : x ∈ l) : hasP l x.print = true := hasP_iff.2 ⟨x, h, rfl⟩
theorem has_spot {l : List Pc} {y : Int} (hs : storeOk l = true) (h : hasP l y = true) : ∃ x, l[findAt l y]? = some x ∧ x.print = y := by
  refine Classical.byContradiction (fun hc => ?_)
  have := find_no (st_asc hs) (n := y) (fun x hx e => hc ⟨x, hx, e⟩)
  unfold hasP at h
  rw [this] at h; cases h

/-- Marks that are right as far as they go and lack nothing are those of what is reached. -/
theorem marks_all {l : List Pc} {roots : List Int} {A : List Bool} (hs : storeOk l = true) (hl : A.length = l.length)
    (snd : ∀ (i : Nat) (x : Pc), A[i]? = some true → l[i]? = some x → Rch l roots x.print) (cpl : ∀ (i : Nat) (x : Pc), l[i]? = some x → Rch l roots x.print → A[i]? = some true) : A = reachB l roots := by
  apply List.ext_getElem?
  intro i
  unfold reachB
  rw [List.getElem?_map]
  cases hx : l[i]? with
  | none =>
    have := List.getElem?_eq_none_iff.1 hx
    rw [List.getElem?_eq_none (by omega)]; rfl
  | some x =>
    have hi : i < A.length := by have := (List.getElem?_eq_some_iff.1 hx).1; omega
    have hA : A[i]? = some A[i] := List.getElem?_eq_getElem hi
    rw [hA]
    simp only [Option.map_some]
    cases hv : A[i] with
    | true =>
      rw [hv] at hA
      rw [inR_iff.2 (snd i x hA hx)]
    | false =>
      cases hr : inR l roots x.print with
      | false => rfl
      | true =>
        have := cpl i x hx (inR_iff.1 hr)
        rw [hA, hv] at this; cases this
theorem cpl_of {l : List Pc} {roots : List Int} {A : List Bool} (hs : storeOk l = true) (hr : ∀ y ∈ roots, hasP l y = true → OnA A l y)
    (hc : ∀ (i : Nat) (x : Pc), A[i]? = some true → l[i]? = some x → ∀ y ∈ prs x, hasP l y = true → OnA A l y) : ∀ (i : Nat) (x : Pc), l[i]? = some x → Rch l roots x.print → A[i]? = some true := by
  intro i x hx hR
  have : OnA A l x.print := hR (OnA A l) ⟨hr, fun z hz hS y hy hp => by
    obtain ⟨j, z', h1, h2, h3⟩ := hS
    obtain ⟨k, hk, e⟩ := List.getElem_of_mem hz
    have hzk : l[k]? = some z := by rw [List.getElem?_eq_getElem hk, e]
    obtain rfl := print_one hs h2 hzk h3
    rw [h2] at hzk
    obtain rfl := Option.some.inj hzk
    exact hc j z' h1 h2 y hy hp⟩
  obtain ⟨j, z, h1, h2, h3⟩ := this
  obtain rfl := print_one hs h2 hx h3
  exact h1

/-! ### The program's way: a heap of pieces to look at -/
structure DInv (l : List Pc) (roots : List Int) (A : List Bool) (todo : List Nat) (T : List Int) : Prop where
  len : A.length = l.length
  snd : ∀ (i : Nat) (x : Pc), A[i]? = some true → l[i]? = some x → Rch l roots x.print
  tin : ∀ i ∈ todo, A[i]? = some true
  sndT : ∀ y ∈ T, hasP l y = true → Rch l roots y
  rts : ∀ y ∈ roots, hasP l y = true → OnA A l y ∨ y ∈ T
  cls : ∀ (i : Nat) (x : Pc), A[i]? = some true → l[i]? = some x → i ∉ todo → ∀ y ∈ prs x, hasP l y = true → OnA A l y ∨ y ∈ T
def reachStep (l : List Pc) (y : Int) (s : List Bool × List Nat) : List Bool × List Nat :=
  if hasP l y = true ∧ s.1[findAt l y]? = some false then (s.1.set (findAt l y) true, s.2 ++ [findAt l y]) else s
theorem onA_set {A : List Bool} {l : List Pc} {y : Int} {i : Nat} (h : OnA A l y) : OnA (A.set i true) l y := by
  obtain ⟨j, x, h1, h2, h3⟩ := h
  refine ⟨j, x, ?_, h2, h3⟩
  by_cases e : i = j
  · subst e
    rw [List.getElem?_set_self (List.getElem?_eq_some_iff.1 h1).1]
  · rw [List.getElem?_set_ne e]; exact h1
theorem set_true {A : List Bool} {i j : Nat} (h : (A.set i true)[j]? = some true) : j = i ∨ A[j]? = some true := by
  by_cases e : i = j
  · exact .inl e.symm
  · rw [List.getElem?_set_ne e] at h; exact .inr h
theorem dinv_step {l : List Pc} {roots : List Int} {A : List Bool} {todo : List Nat} {y : Int} {T : List Int} (hs : storeOk l = true) (h : DInv l roots A todo (y :: T)) :
    DInv l roots (reachStep l y (A, todo)).1 (reachStep l y (A, todo)).2 T := by
  unfold reachStep
  split
  · rename_i hc
    obtain ⟨hp, hA⟩ := hc
    obtain ⟨x, hx, hxy⟩ := has_spot hs hp
    have hi := (List.getElem?_eq_some_iff.1 hA).1
    have hon : OnA (A.set (findAt l y) true) l y := ⟨findAt l y, x, by rw [List.getElem?_set_self hi], hx, hxy⟩
    refine ⟨by simp [h.len], ?_, ?_, fun z hz => h.sndT z (List.mem_cons_of_mem _ hz), ?_, ?_⟩
    · intro j z hj hz
      rcases set_true hj with rfl | hj'
      · rw [hx] at hz
        obtain rfl := Option.some.inj hz
        rw [hxy]; exact h.sndT y (List.mem_cons_self) hp
      · exact h.snd j z hj' hz
    · intro j hj
      rcases List.mem_append.1 hj with h1 | h1
      · by_cases e : findAt l y = j
        · rw [e, List.getElem?_set_self (by omega)]
        · rw [List.getElem?_set_ne e]; exact h.tin j h1
      · have : j = findAt l y := by simpa using h1
        rw [this, List.getElem?_set_self hi]
    · intro z hz hpz
      rcases h.rts z hz hpz with h1 | h1
      · exact .inl (onA_set h1)
      · rcases List.mem_cons.1 h1 with rfl | h2
        · exact .inl hon
        · exact .inr h2
    · intro j z hj hz hnt u hu hpu
      have hnt' : j ∉ todo ∧ j ≠ findAt l y := by
        constructor
        · exact fun h1 => hnt (List.mem_append_left _ h1)
        · intro e; exact hnt (by simp [e])
      rcases set_true hj with h1 | h1
      · exact absurd h1 hnt'.2
      · rcases h.cls j z h1 hz hnt'.1 u hu hpu with h2 | h2
        · exact .inl (onA_set h2)
        · rcases List.mem_cons.1 h2 with rfl | h3
          · exact .inl hon
          · exact .inr h3
  · rename_i hc
    have hon : hasP l y = true → OnA A l y := by
      intro hp
      obtain ⟨x, hx, hxy⟩ := has_spot hs hp
      have hi : findAt l y < A.length := by have := (List.getElem?_eq_some_iff.1 hx).1; rw [h.len]; exact this
      refine ⟨findAt l y, x, ?_, hx, hxy⟩
      rw [List.getElem?_eq_getElem hi]
      cases hv : A[findAt l y] with
      | true => rfl
      | false => exact absurd ⟨hp, by rw [List.getElem?_eq_getElem hi, hv]⟩ hc
    refine ⟨h.len, h.snd, h.tin, fun z hz => h.sndT z (List.mem_cons_of_mem _ hz), ?_, ?_⟩
    · intro z hz hpz
      rcases h.rts z hz hpz with h1 | h1
      · exact .inl h1
      · rcases List.mem_cons.1 h1 with rfl | h2
        · exact .inl (hon hpz)
        · exact .inr h2
    · intro j z hj hz hnt u hu hpu
      rcases h.cls j z hj hz hnt u hu hpu with h2 | h2
      · exact .inl h2
      · rcases List.mem_cons.1 h2 with rfl | h3
        · exact .inl (hon hpu)
        · exact .inr h3
theorem dinv_start {l : List Pc} {roots : List Int} : DInv l roots (List.replicate l.length false) [] roots := by
  refine ⟨by simp, ?_, by simp, fun y hy hp => rch_root hy hp, fun y hy _ => .inr hy, ?_⟩
  · intro i x hi; rw [List.getElem?_replicate] at hi; split at hi <;> simp at hi
  · intro i x hi; rw [List.getElem?_replicate] at hi; split at hi <;> simp at hi
theorem dinv_pop {l : List Pc} {roots : List Int} {A : List Bool} {todo : List Nat} {i : Nat} {x : Pc} (h : DInv l roots A (todo ++ [i]) []) (hx : l[i]? = some x) : DInv l roots A todo (prs x) := by
  have hi := h.tin i (by simp)
  refine ⟨h.len, h.snd, fun j hj => h.tin j (by simp [hj]), fun y hy hp => rch_step (List.mem_of_getElem? hx) (h.snd i x hi hx) hy hp, ?_, ?_⟩
  · intro y hy hp
    rcases h.rts y hy hp with h1 | h1
    · exact .inl h1
    · cases h1
  · intro j z hj hz hnt u hu hpu
    by_cases e : j = i
    · subst e
      rw [hx] at hz
      obtain rfl := Option.some.inj hz
      exact .inr hu
    · rcases h.cls j z hj hz (by simp [hnt, e]) u hu hpu with h2 | h2
      · exact .inl h2
      · cases h2
theorem dinv_end {l : List Pc} {roots : List Int} {A : List Bool} (hs : storeOk l = true) (h : DInv l roots A [] []) : A = reachB l roots := by
  refine marks_all hs h.len h.snd (cpl_of hs ?_ ?_)
  · intro y hy hp
    rcases h.rts y hy hp with h1 | h1
    · exact h1
    · cases h1
  · intro j z hj hz u hu hpu
    rcases h.cls j z hj hz (by simp) u hu hpu with h2 | h2
    · exact h2
    · cases h2
/-- The number that falls: twice the pieces without a mark, and those to look at. -/
def reachMu (s : List Bool × List Nat) : Nat := 2 * s.1.count false + s.2.length
theorem count_set_true : ∀ (A : List Bool) (i : Nat), A[i]? = some false → (A.set i true).count false + 1 = A.count false
  | [], i, h => by simp at h
  | a :: r, 0, h => by
    simp at h; subst h; simp
  | a :: r, i + 1, h => by
    have := count_set_true r i (by simpa using h)
    rw [List.set_cons_succ, List.count_cons, List.count_cons]
    omega
theorem reachMu_step (l : List Pc) (y : Int) (s : List Bool × List Nat) : reachMu (reachStep l y s) ≤ reachMu s := by
  unfold reachStep
  split
  · rename_i hc
    have := count_set_true s.1 _ hc.2
    simp only [reachMu, List.length_append, List.length_cons, List.length_nil]
    omega
  · exact Nat.le_refl _

/-! ### The reference's way: rounds -/
structure RInv (l : List Pc) (roots : List Int) (A : List Bool) : Prop where
  len : A.length = l.length
  snd : ∀ (i : Nat) (x : Pc), A[i]? = some true → l[i]? = some x → Rch l roots x.print
  rts : ∀ y ∈ roots, hasP l y = true → OnA A l y
def Cpl (l : List Pc) (roots : List Int) (A : List Bool) : Prop := ∀ (i : Nat) (x : Pc), l[i]? = some x → Rch l roots x.print → A[i]? = some true
/-- What was marked stays marked. -/
def Up (A B : List Bool) : Prop := A.length = B.length ∧ ∀ i : Nat, A[i]? = some true → B[i]? = some true
theorem Up.rfl' (A : List Bool) : Up A A := ⟨rfl, fun _ h => h⟩
theorem Up.trans {A B C : List Bool} (h : Up A B) (k : Up B C) : Up A C := ⟨h.1.trans k.1, fun i hi => k.2 i (h.2 i hi)⟩
theorem Up.on {A B : List Bool} {l : List Pc} {y : Int} (h : Up A B) (k : OnA A l y) : OnA B l y := by
  obtain ⟨i, x, h1, h2⟩ := k
  exact ⟨i, x, h.2 i h1, h2⟩
theorem up_cons {a b : Bool} {A B : List Bool} (h : Up (a :: A) (b :: B)) : (a = true → b = true) ∧ Up A B :=
  ⟨fun e => by have := h.2 0 (by simp [e]); simpa using this, by have := h.1; simpa using this, fun i hi => by have := h.2 (i + 1) (by simpa using hi); simpa using this⟩
theorem up_count : ∀ (A B : List Bool), Up A B → A.count true ≤ B.count true ∧ (A.count true = B.count true → A = B)
  | [], [], _ => ⟨Nat.le_refl _, fun _ => rfl⟩
  | [], b :: B, h => by have := h.1; simp at this
  | a :: A, [], h => by have := h.1; simp at this
  | a :: A, b :: B, h => by
    obtain ⟨h1, h2⟩ := up_cons h
    obtain ⟨h3, h4⟩ := up_count A B h2
    rw [List.count_cons, List.count_cons]
    cases a <;> cases b <;> simp at h1 ⊢ <;> first | exact ⟨h3, h4⟩ | (constructor <;> omega)
theorem round_gain {l : List Pc} {roots : List Int} {A B : List Bool} {r : Nat} (hs : storeOk l = true) (hA : RInv l roots A) (hB : RInv l roots B) (hup : Up A B)
    (hsucc : ∀ (i : Nat) (x : Pc), A[i]? = some true → l[i]? = some x → ∀ y ∈ prs x, hasP l y = true → OnA B l y) (h : Cpl l roots A ∨ r ≤ A.count true) : Cpl l roots B ∨ r + 1 ≤ B.count true := by
  rcases h with h | h
  · exact .inl fun i x hx hR => hup.2 i (h i x hx hR)
  · by_cases hr : r + 1 ≤ B.count true
    · exact .inr hr
    · obtain ⟨h1, h2⟩ := up_count A B hup
      obtain rfl := h2 (by omega)
      exact .inl (cpl_of hs hA.rts hsucc)
theorem round_end {l : List Pc} {roots : List Int} {A : List Bool} (hs : storeOk l = true) (hA : RInv l roots A) (h : Cpl l roots A ∨ l.length ≤ A.count true) : A = reachB l roots := by
  refine marks_all hs hA.len hA.snd ?_
  rcases h with h | h
  · exact h
  · have hall : ∀ b ∈ A, b = true := by
      have : A.count true = A.length := by have := List.count_le_length (a := true) (l := A); have := hA.len; omega
      exact fun b hb => ((List.count_eq_length.1 this) b hb).symm
    intro i x hx _
    have hi : i < A.length := by have := (List.getElem?_eq_some_iff.1 hx).1; rw [hA.len]; exact this
    rw [List.getElem?_eq_getElem hi, hall _ (List.getElem_mem hi)]
/-- All pieces with a print are marked. -/
def markY (l : List Pc) (y : Int) (A : List Bool) : List Bool := List.zipWith (fun b (p : Pc) => b || decide (p.print = y)) A l
theorem markY_len {l : List Pc} {y : Int} {A : List Bool} (h : A.length = l.length) : (markY l y A).length = l.length := by simp [markY, h]
theorem markY_get {l : List Pc} {y : Int} {A : List Bool} {i : Nat} {b : Bool} {x : Pc} (hA : A[i]? = some b) (hx : l[i]? = some x) : (markY l y A)[i]? = some (b || decide (x.print = y)) := by
  unfold markY
  rw [List.getElem?_zipWith, hA, hx]
theorem markY_up {l : List Pc} {y : Int} {A : List Bool} (h : A.length = l.length) : Up A (markY l y A) := by
  refine ⟨by rw [markY_len h, h], fun i hi => ?_⟩
  have hi2 := (List.getElem?_eq_some_iff.1 hi).1
  have hx : l[i]? = some (l[i]'(by omega)) := List.getElem?_eq_getElem _
  rw [markY_get hi hx]; rfl
theorem markY_on {l : List Pc} {y : Int} {A : List Bool} (h : A.length = l.length) (hs : storeOk l = true) (hp : hasP l y = true) : OnA (markY l y A) l y := by
  obtain ⟨x, hx, hxy⟩ := has_spot hs hp
  have hi : findAt l y < A.length := by have := (List.getElem?_eq_some_iff.1 hx).1; omega
  exact ⟨_, x, by rw [markY_get (List.getElem?_eq_getElem hi) hx, hxy]; simp, hx, hxy⟩
theorem markY_inv {l : List Pc} {roots : List Int} {y : Int} {A : List Bool} (h : RInv l roots A) (hy : hasP l y = true → Rch l roots y) : RInv l roots (markY l y A) := by
  refine ⟨markY_len h.len, ?_, fun z hz hp => (markY_up h.len).on (h.rts z hz hp)⟩
  intro i x hi hx
  have hiA : i < A.length := by have := (List.getElem?_eq_some_iff.1 hx).1; rw [h.len]; exact this
  rw [markY_get (List.getElem?_eq_getElem hiA) hx] at hi
  cases hb : A[i] with
  | true => exact h.snd i x (by rw [List.getElem?_eq_getElem hiA, hb]) hx
  | false =>
    rw [hb] at hi
    have hxy : x.print = y := by simpa using hi
    rw [hxy]
    exact hy (by rw [← hxy]; exact has_mem (List.mem_of_getElem? hx))

/-! ### The prints -/
theorem reach_succ {l : List Pc} {f : Pc → Bool} {k : Nat} {x : Pc} (h : l[k]? = some x) : ((l.take (k + 1)).filter f).map (·.print) = ((l.take k).filter f).map (·.print) ++ (if f x then [x.print] else []) := by
  rw [take_snoc' h, List.filter_append, List.map_append]
  cases hf : f x <;> simp [hf]
theorem reachOf_off {l : List Pc} {roots : List Int} (h : storeOk l = false) : reachOf l roots = [] := by unfold reachOf; rw [h]; rfl
theorem reachOf_on {l : List Pc} {roots : List Int} (h : storeOk l = true) : reachOf l roots = (l.filter fun p => inR l roots p.print).map (·.print) := by unfold reachOf; rw [h]; rfl
theorem reachOf_len {l : List Pc} {roots : List Int} : (reachOf l roots).length ≤ 40 := by
  cases h : storeOk l
  · rw [reachOf_off h]; simp
  · rw [reachOf_on h, List.length_map]
    exact Nat.le_trans (List.length_filter_le _ _) (st_in h).1

end Go.Proofs.YtfdhaigmekmboaaDoor

/- Walks: how many entries name each piece. -/
namespace Go.Proofs.YtfdhaigmekmboaaDoor
open Go.RowKit

/-- For every piece the times that its print stands in a row. -/
def cntIn (l : List Pc) (ns : List Int) : List Int := l.map fun p => ((ns.count p.print : Nat) : Int)
noncomputable def countsOf (l : List Pc) : List Int := if storeOk l then cntIn l (named l) else []
theorem cnt_len (l : List Pc) (ns : List Int) : (cntIn l ns).length = l.length := by simp [cntIn]
theorem cnt_get {l : List Pc} {i : Nat} {x : Pc} (ns : List Int) (h : l[i]? = some x) : (cntIn l ns)[i]? = some ((ns.count x.print : Nat) : Int) := by simp [cntIn, h]
theorem cnt_nil (l : List Pc) : cntIn l [] = List.replicate l.length 0 := by
  unfold cntIn
  rw [List.eq_replicate_iff]
  simp
theorem cnt_snoc (ns : List Int) (y p : Int) : (ns ++ [y]).count p = ns.count p + if y = p then 1 else 0 := by
  rw [List.count_append, List.count_singleton]
  simp
theorem countsOf_off {l : List Pc} (h : storeOk l = false) : countsOf l = [] := by unfold countsOf; rw [h]; rfl
theorem countsOf_on {l : List Pc} (h : storeOk l = true) : countsOf l = cntIn l (named l) := by unfold countsOf; rw [h]; rfl
theorem countsOf_len {l : List Pc} : (countsOf l).length ≤ 40 := by
  cases h : storeOk l
  · rw [countsOf_off h]; simp
  · rw [countsOf_on h, cnt_len]; exact (st_in h).1
theorem cnt_no {l : List Pc} {y : Int} (ns : List Int) (h : hasP l y = false) : cntIn l (ns ++ [y]) = cntIn l ns := by
  unfold cntIn
  refine List.map_congr_left (fun x hx => ?_)
  rw [cnt_snoc, if_neg (fun e => ?_)]
  · rfl
  · have := hasP_iff.2 ⟨x, hx, e.symm⟩
    rw [h] at this; cases this
theorem has_at {l : List Pc} {y : Int} (hs : storeOk l = true) (h : hasP l y = true) : ∃ x, l[findAt l y]? = some x ∧ x.print = y := by
  refine Classical.byContradiction (fun hc => ?_)
  have := find_no (st_asc hs) (n := y) (fun x hx e => hc ⟨x, hx, e⟩)
  unfold hasP at h
  rw [this] at h; cases h
theorem cnt_yes {l : List Pc} {y : Int} (ns : List Int) (hs : storeOk l = true) (h : hasP l y = true) : cntIn l (ns ++ [y]) = (cntIn l ns).set (findAt l y) ((ns.count y : Nat) + 1 : Int) := by
  obtain ⟨x, hx, rfl⟩ := has_at hs h
  apply List.ext_getElem?
  intro j
  by_cases hj : j = findAt l x.print
  · rw [hj, cnt_get _ hx, List.getElem?_set_self (by rw [cnt_len]; exact (List.getElem?_eq_some_iff.1 hx).1), cnt_snoc, if_pos rfl]
    simp
  · rw [List.getElem?_set_ne (Ne.symm hj)]
    unfold cntIn
    rw [List.getElem?_map, List.getElem?_map]
    cases hz : l[j]? with
    | none => rfl
    | some z =>
      have hne : x.print ≠ z.print := by
        rcases Nat.lt_or_gt_of_ne hj with h1 | h1
        · have := asc_get (st_asc hs) hz hx h1; omega
        · have := asc_get (st_asc hs) hx hz h1; omega
      simp only [Option.map_some]
      rw [cnt_snoc, if_neg hne]
      simp
theorem set_flat (xs : List Int) (i : Nat) (z : Int) : (xs.flatMap encI).set i (.int .i64 z) = (xs.set i z).flatMap encI := by
  unfold encI
  rw [← List.map_eq_flatMap, ← List.map_eq_flatMap, List.map_set]

set_option maxHeartbeats 2000000 in
set_option maxRecDepth 100000 in
theorem impl_NameCounts_c (v : Value) (xs : List Pc) (w : World) (h : Pcs w w.heap.size v xs) (hx0 : ∀ x ∈ xs, x.text.size ≤ 1048576) (hl0 : xs.length ≤ 1048576) (hg : Glob w) :
    Calls Tryd.prog 8 #[v] w fun e w' => ∃ v', e = .returned v' ∧ OwnI w' w.heap.size v' (countsOf xs) ∧ Below w.heap.size w w' := by
  obtain ⟨n, hn⟩ : ∃ n, xs.length = n := ⟨_, rfl⟩
  obtain ⟨a, c, rfl, _, _, _⟩ := h.pcs hn
  have HP : Hid (∀ wx, Below w.heap.size w wx → Pcs wx wx.heap.size (.slice a n c) xs) := fun wx hx' => h.on hx'
  have HL := hid hl0
  have HN := hid hn
  have HG := hid hg
  clear hx0 hg
  cases hok : storeOk xs
  · have HO := hid (countsOf_off hok)
    clear hn hl0
    go_enter Tryd.func8, Tryd.ntmps8
    go_wp2_with fail
    refine (impl_StoreValid_c _ xs _ h).mono ?_
    rw [hok]
    rintro e w1 ⟨rfl, b1⟩
    go_wp2
    go_ret
    exact ⟨_, rfl, by rw [HO.out]; exact Own.nil_, b1⟩
  · have HO := hid (countsOf_on hok)
    have HK := hid hok
    have HX := hid (fun (x : Pc) (hx : x ∈ xs) => show x.text.size ≤ 1000000 by have := textOk_size (pcOk_iff.1 (st_all hok hx)).1; omega)
    have hn40 : n ≤ 40 := by have := (st_in hok).1; omega
    obtain ⟨ns, hns⟩ : ∃ ns, named xs = ns := ⟨_, rfl⟩
    have HNS := hid hns
    obtain ⟨m, hm⟩ : ∃ m, ns.length = m := ⟨_, rfl⟩
    have HM := hid hm
    have hl : m ≤ 120 := by have := named_len xs; rw [hns, hm] at this; omega
    obtain ⟨i0, hi, hz0, hz1, hz2⟩ := info_parts info_int
    clear hns hn hl0
    go_enter Tryd.func8, Tryd.ntmps8
    go_wp2_with fail
    refine (impl_StoreValid_c _ xs _ h).mono ?_
    rw [hok]
    rintro e w0 ⟨rfl, b0⟩
    clear hok h
    go_wp2_with (at_make; refine wpList_make_full _ rfl _ _ 25 rfl w0.heap.size 3 i0 (.int .i64 0) 1 Tryd.underlying25 hi hz0 hz1 _ _ _ _ n rfl rfl rfl rfl ?b2 ?b3 (Nat.le_refl _) ?_)
    case b2 => rw [hz2]; omega
    case b3 => unfold maxLen; omega
    intro w1 o1 g1
    have q1 : OwnI w1 w0.heap.size (.slice (some ⟨w0.heap.size, 0, none⟩) n n) (cntIn xs []) := by
      unfold OwnI Own
      rw [cnt_len, cnt_nil, HN.out, ← made_flat (enc := encI) (.int .i64 0) 0 rfl n]
      exact o1
    have b1 := b0.grown g1 b0.size (by simp)
    have hg1 := (q1.lt _ rfl).2
    have hs0 := b0.size
    clear o1 g1 hi hz0 hz1 hz2
    go_wp2_with fail
    refine (impl_namedPrints_c _ xs _ (HP.out _ b1) HX.out HL.out (HG.out.on b1)).mono ?_
    rw [HNS.out]
    rintro e w2 ⟨nv, rfl, o2, b2'⟩
    have b2 := bl_then b1 b2'
    have q2 := q1.on b2'
    obtain ⟨a', c', rfl, _, _, _⟩ := (Rd.of_own o2).ints hm
    clear b2' hm q1 b1 b0
    go_wp2
    go_loopw [17] (fun i wr => ∃ (k : Nat), k ≤ m ∧ i = .int .i64 k ∧ OwnI wr w0.heap.size (.slice (some ⟨w0.heap.size, 0, none⟩) n n) (cntIn xs (ns.take k)) ∧ OwnI wr w1.heap.size (.slice a' m c') ns ∧ Below w.heap.size w wr) (fun i _ => m - (intOf i).toNat)
    case atStart => exact ⟨0, Nat.zero_le _, rfl, q2, o2, b2⟩
    case round =>
      obtain ⟨k, hk, rfl, hown, hol, hb⟩ := hrel
      clear q2 o2 b2
      by_cases hlt : k < m
      · obtain ⟨_, _, hv, _, _, h3⟩ := (Rd.of_own hol).ints HM.out
        simp only [Value.slice.injEq] at hv
        obtain ⟨e1, _, e2⟩ := hv
        subst e1
        subst e2
        obtain ⟨b, o, x, rfl, hbl, hx, k0⟩ := h3 k hlt
        have HT := hid (take_snoc' hx.out)
        obtain ⟨y, hy⟩ : ∃ y, hasP xs x = y := ⟨_, rfl⟩
        have HY := hid hy
        clear h3 hy
        go_wp2_with fail
        refine (impl_findPiece_c _ xs x _ (HP.out _ hb) HK.out).mono ?_
        rw [HY.out]
        rintro e w4 ⟨rfl, b4⟩
        have hown4 := hown.on b4
        have hol4 := hol.on b4
        have hb4 := bl_then hb b4
        clear b4 hown hb hol k0
        cases y
        · have HC := hid (show cntIn xs (ns.take (k + 1)) = cntIn xs (ns.take k) by rw [HT.out]; exact cnt_no _ HY.out)
          go_wp2
          go_roundw
          case rel => exact ⟨k + 1, by omega, by go_num, by rw [HC.out]; exact hown4, hol4, hb4⟩
          case measure => simp [intOf]; omega
        · obtain ⟨p, hp, hpx⟩ := has_at HK.out HY.out
          have HC := hid (show cntIn xs (ns.take (k + 1)) = (cntIn xs (ns.take k)).set (findAt xs x) ((((ns.take k).count x : Nat) : Int) + 1) by rw [HT.out]; exact cnt_yes _ HK.out HY.out)
          obtain ⟨i, hi⟩ : ∃ i, findAt xs x = i := ⟨_, rfl⟩
          rw [hi] at hp HC
          have hin : i < n := by have := (List.getElem?_eq_some_iff.1 hp).1; have := HN.out; omega
          have hcg := cnt_get (ns.take k) hp
          rw [hpx] at hcg
          obtain ⟨z, hz⟩ : ∃ z, (ns.take k).count x = z := ⟨_, rfl⟩
          have hz9 : z ≤ 120 := by have h1 := List.count_le_length (a := x) (l := ns.take k); rw [hz, List.length_take] at h1; omega
          rw [hz] at hcg HC
          have hR : w4.ownsRow w0.heap.size 3 1 (.slice (some ⟨w0.heap.size, 0, none⟩) n n) n ((cntIn xs (ns.take k)).flatMap encI) := by
            have := hown4
            unfold OwnI Own at this
            rw [cnt_len, HN.out] at this
            exact this
          have hd : w4.cell? ⟨w0.heap.size, i, none⟩ = some (.int .i64 z) := (hR.cellAt i (by omega)).trans (by have := flatMap_get (enc := encI) (fun _ => rfl) _ i 0 _ _ hcg rfl; simpa using this)
          have hf : w4.frozen? ⟨w0.heap.size, i, none⟩ = false := hR.frozenAt i
          have hst := hid (hR.stored i (.int .i64 ((z : Int) + 1)))
          have HI := hid hi
          clear hp hpx hcg hz hR hown4
          rw [hi]
          clear hi
          go_wp2
          go_roundw
          case rel => exact ⟨k + 1, by omega, by go_num, by
            have h1 := hst.out.1
            rw [set_flat, ← HC.out] at h1
            unfold OwnI Own
            rw [cnt_len, HN.out]
            exact h1, Own.far hol4 hst.out.2 (fun g hg => by simp at hg; omega), hb4.setCell (by omega) _⟩
          case measure => simp [intOf]; omega
      · have HA := hid (show cntIn xs (ns.take k) = countsOf xs by rw [HO.out, HNS.out, take_all HM.out (show m ≤ k by omega)])
        go_wp2
        go_ret
        exact ⟨_, rfl, by rw [← HA.out]; exact hown.less (by omega), hb⟩

end Go.Proofs.YtfdhaigmekmboaaDoor

/- Walks: how many entries name each piece, the reference's way. -/
namespace Go.Proofs.YtfdhaigmekmboaaDoor
open Go.RowKit

set_option maxHeartbeats 2000000 in
set_option maxRecDepth 100000 in
theorem spec_NameCounts_c (v : Value) (xs : List Pc) (w : World) (h : Pcs w w.heap.size v xs) (hx0 : ∀ x ∈ xs, x.text.size ≤ 1048576) (hl0 : xs.length ≤ 1048576) :
    Calls Tryd.prog 10 #[v] w fun e w' => ∃ v', e = .returned v' ∧ OwnI w' w.heap.size v' (countsOf xs) ∧ Below w.heap.size w w' := by
  obtain ⟨n, hn⟩ : ∃ n, xs.length = n := ⟨_, rfl⟩
  obtain ⟨a, c, rfl, h1, h2, h3⟩ := h.pcs hn
  have HN := hid hn
  have HX1 := hid hx0
  have HL := hid hl0
  have HP : Hid (∀ wx, Below w.heap.size w wx → Pcs wx wx.heap.size (.slice a n c) xs) := fun wx hx' => h.on hx'
  rw [hn] at hl0
  clear hn h hx0
  have hal : Below w.heap.size w (w.alloc (.cells #[] 3)) := (Below.refl _ _).alloc (Nat.le_refl _) _
  have hown0 : OwnI (w.alloc (.cells #[] 3)) w.heap.size (.slice (some ⟨w.heap.size, 0, none⟩) 0 0) [] := Own.made _ (Nat.le_refl _)
  cases hok : storeOk xs
  · have HO := hid (countsOf_off hok)
    have HK := hid hok
    clear hok h3
    by_cases h0 : 0 < n
    · go_enter Tryd.func10, Tryd.ntmps10
      go_wp2
      refine wp_loop_rounds 1 ?_
      rw [rounds_succ]
      go_wp2_with (go_at_call 30; refine (spec_StoreValid_c _ xs _ _ (HP.out _ hal) HX1.out HL.out).mono ?_; rw [HK.out]; rintro e w' ⟨rfl, q, rfl⟩)
      go_ret
      exact ⟨_, rfl, by rw [HO.out]; exact hown0.drewN q, bl_drewN hal q⟩
    · go_enter Tryd.func10, Tryd.ntmps10
      go_wp2
      refine wp_loop_rounds 1 ?_
      rw [rounds_succ]
      go_wp2
      go_ret
      exact ⟨_, rfl, by rw [HO.out]; exact hown0, hal⟩
  · have HO := hid (countsOf_on hok)
    have HK := hid hok
    have HX := hid (fun (x : Pc) (hx : x ∈ xs) => show x.text.size ≤ 1000000 by have := textOk_size (pcOk_iff.1 (st_all hok hx)).1; omega)
    have hn40 : n ≤ 40 := by have := (st_in hok).1; have := HN.out; omega
    have H3 := hid h3
    clear hok h3 hl0
    go_enter Tryd.func10, Tryd.ntmps10
    go_wp2
    go_loopw [3, 4] (fun out i wr => ∃ (k : Nat) (acc : List Int), k ≤ n ∧ i = .int .i64 k ∧ OwnI wr w.heap.size out acc ∧ Hid (acc = (countsOf xs).take k) ∧ acc.length ≤ k ∧ Below w.heap.size w wr) (fun _ i _ => n - (intOf i).toNat)
    case atStart => exact ⟨0, [], Nat.zero_le _, rfl, hown0, rfl, Nat.zero_le _, hal⟩
    case round =>
      obtain ⟨k, acc, hk, rfl, hown, hacc, hlen, hb⟩ := hrel
      clear hown0 hal
      by_cases hlt : k < n
      · obtain ⟨b, o, r, t, rfl, hbl, hx, k0, _⟩ := H3.out k hlt
        have HCK := hid (take_snoc' (show (countsOf xs)[k]? = some ((((named xs).count r : Nat) : Int)) by rw [HO.out]; exact cnt_get (named xs) hx.out))
        have HK0 := hid k0
        clear k0
        go_wp2_with fail
        refine (spec_StoreValid_c _ xs _ _ (HP.out _ hb) HX1.out HL.out).mono ?_
        rw [HK.out]
        rintro e w3 ⟨rfl, q, rfl⟩
        obtain ⟨W1, hW1⟩ : ∃ W1, W1 = wr.drewN q := ⟨_, rfl⟩
        have hb1 : Below w.heap.size w W1 := by rw [hW1]; exact bl_drewN hb q
        have hown1 := hown.drewN q
        rw [← hW1] at hown1
        rw [← hW1]
        clear hW1 hown hb
        go_wp2
        go_loopw [5, 6] (fun mv i wr2 => ∃ (j z : Nat), j ≤ n ∧ i = .int .i64 j ∧ mv = .int .i64 z ∧ Hid (z = (named (xs.take j)).count r) ∧ z ≤ 3 * j ∧ Below W1.heap.size W1 wr2) (fun _ i _ => n - (intOf i).toNat)
        case atStart => exact ⟨0, 0, Nat.zero_le _, rfl, rfl, rfl, Nat.zero_le _, Below.refl _ _⟩
        case round =>
          obtain ⟨j, z, hj, rfl, rfl, hz, hz9, hb2⟩ := hrel
          have hB2 := bl_then hb1 hb2
          by_cases hjn : j < n
          · obtain ⟨b', o', r', t', hbo, hbl', hx', _, k1⟩ := H3.out j hjn
            simp only [Option.some.injEq, Addr.mk.injEq, and_true] at hbo
            obtain ⟨rfl, rfl⟩ := hbo
            have HT := hid (HX.out _ (List.mem_of_getElem? hx'.out))
            have HA := hid (named_succ hx'.out)
            obtain ⟨es, hes⟩ : ∃ es, entsOf (bs t') = es := ⟨_, rfl⟩
            have HES := hid hes
            have hm3 := entsOf_len (bs t')
            rw [hes] at hm3
            obtain ⟨m, hm⟩ : ∃ m, es.length = m := ⟨_, rfl⟩
            have HM := hid hm
            have hm4 : m ≤ 3 := by omega
            have j1 := (hB2.cell (p := ⟨b, o + j * 2 + 1, none⟩) hbl').trans k1
            clear k1 hes hm3
            go_wp2_with fail
            refine (spec_ReadFolder_c t' _ HT.out).mono ?_
            rw [HES.out]
            rintro e w4 ⟨lv, rfl, o4, b4⟩
            have hb4 := hb2.trans (b4.mono hb2.size)
            have hB4 := bl_then hB2 b4
            obtain ⟨la, lc, rfl, _, _, H4⟩ := (Rd.of_own o4).ents hm
            clear b4 hm j1 hb2 hB2
            go_wp2
            go_loopw [5, 9] (fun mv i wr3 => ∃ (l y : Nat), l ≤ m ∧ i = .int .i64 l ∧ mv = .int .i64 y ∧ Hid (y = z + ((es.map (·.print)).take l).count r) ∧ y ≤ 3 * j + l ∧ Below w4.heap.size w4 wr3) (fun _ i _ => m - (intOf i).toNat)
            case atStart => exact ⟨0, z, Nat.zero_le _, rfl, rfl, by simp [Hid], by omega, Below.refl _ _⟩
            case round =>
              obtain ⟨l, y, hl, rfl, rfl, hy, hy9, hb5⟩ := hrel
              clear o4
              by_cases hlm : l < m
              · obtain ⟨eb, eo, nm, pr, rfl, hebl, hex, c0, c1⟩ := H4 l hlm
                have HA2 := hid (show (es.map (·.print)).take (l + 1) = (es.map (·.print)).take l ++ [pr] from take_snoc' (x := pr) (by rw [List.getElem?_map, hex.out]; rfl))
                have HF := hid (show ((es.map (·.print)).take (l + 1)).count r = _ by rw [HA2.out, cnt_snoc])
                have d1 := (hb5.cell (p := ⟨eb, eo + l * 2 + 1, none⟩) hebl).trans c1
                have d0 : wr.cell? ⟨b, o + k * 2, none⟩ = some (.int .i64 r) := ((bl_then hB4 hb5).cell (p := ⟨b, o + k * 2, none⟩) hbl).trans HK0.out
                clear H4 c0 c1
                by_cases hpr : pr = r
                · have HF2 := HF.out
                  rw [if_pos hpr] at HF2
                  have HF3 := hid HF2
                  have hd1 : (pr == r) = true := by simp [hpr]
                  have hd2 : decide (pr = r) = true := by simp [hpr]
                  clear hpr HF2
                  go_wp2
                  go_quiet (fail)
                  go_wp2
                  go_roundw
                  case rel => exact ⟨l + 1, y + 1, by omega, by go_num, by go_num, by unfold Hid; rw [HF3.out, hy.out]; omega, by omega, bl_drewN hb5 _⟩
                  case measure => simp [intOf]; omega
                · have HF2 := HF.out
                  rw [if_neg hpr] at HF2
                  have HF3 := hid HF2
                  have hd1 : (pr == r) = false := by simp [hpr]
                  have hd2 : decide (pr = r) = false := by simp [hpr]
                  clear hpr HF2
                  go_wp2
                  go_quiet (fail)
                  go_wp2
                  go_roundw
                  case rel => exact ⟨l + 1, y, by omega, by go_num, rfl, by unfold Hid; rw [HF3.out, hy.out]; omega, by omega, bl_drewN hb5 _⟩
                  case measure => simp [intOf]; omega
              · have HF := hid (show y = (named (xs.take (j + 1))).count r by
                  have e9 : (es.map (·.print)).take l = es.map (·.print) := List.take_of_length_le (by rw [List.length_map, HM.out]; omega)
                  rw [hy.out, e9, hz.out, HA.out, List.count_append]; unfold prs; rw [HES.out])
                go_wp2
                go_roundw
                case rel => exact ⟨j + 1, y, by omega, by go_num, rfl, HF, by omega, hb4.trans (hb5.mono hb4.size)⟩
                case measure => simp [intOf]; omega
          · have HF := hid (show z = (named xs).count r by rw [hz.out, take_all HN.out (show n ≤ j by omega)])
            have hown2 := hown1.on hb2
            have hs2 := hB2.size
            go_wp2_with (at_builtin; refine push_int (w0 := w) rfl _ _ rfl w.heap.size w.heap.size _ acc z hown2 hB2 hs2 (Nat.le_refl _) rfl rfl (by omega) ?_; intro v' w' hown' hb' hB' hg')
            go_roundw
            case rel => exact ⟨k + 1, _, by omega, by go_num, hown', by unfold Hid; rw [HCK.out, hacc.out, HF.out], by simp; omega, hb'⟩
            case measure => simp [intOf]; omega
      · have HA := hid (show acc = countsOf xs by rw [hacc.out, take_all (by rw [HO.out, cnt_len]; exact HN.out) (show n ≤ k by omega)])
        go_wp2
        go_ret
        exact ⟨_, rfl, by rw [← HA.out]; exact hown, hb⟩

end Go.Proofs.YtfdhaigmekmboaaDoor

/- Walks: the prints that nobody names. -/
namespace Go.Proofs.YtfdhaigmekmboaaDoor
open Go.RowKit

def topF (x : Int × Pc) : List Int := if x.1 = 0 then [x.2.print] else []
noncomputable def topsOf (l : List Pc) : List Int := ((countsOf l).zip l).flatMap topF
theorem zip_at {c : List Int} {l : List Pc} {k : Nat} {z : Int} {x : Pc} (hc : c[k]? = some z) (hx : l[k]? = some x) : ((c.zip l).take (k + 1)).flatMap topF = ((c.zip l).take k).flatMap topF ++ topF (z, x) := by
  have : (c.zip l)[k]? = some (z, x) := List.getElem?_zip_eq_some.2 ⟨hc, hx⟩
  rw [take_snoc' this]; simp
theorem counts_le {l : List Pc} : (countsOf l).length ≤ l.length := by
  cases h : storeOk l
  · rw [countsOf_off h]; simp
  · rw [countsOf_on h, cnt_len]; exact Nat.le_refl _
theorem topsOf_len {l : List Pc} : (topsOf l).length ≤ 40 := by
  have : ∀ (a : List (Int × Pc)), (a.flatMap topF).length ≤ a.length := by
    intro a
    induction a with
    | nil => simp
    | cons x r ih =>
      simp only [List.flatMap_cons, List.length_append, List.length_cons]
      have : (topF x).length ≤ 1 := by unfold topF; split <;> simp
      omega
  have h1 := this ((countsOf l).zip l)
  have h2 := countsOf_len (l := l)
  rw [List.length_zip] at h1
  unfold topsOf
  omega
theorem topF_yes {z : Int} {x : Pc} (h : z = 0) : topF (z, x) = [x.print] := by unfold topF; rw [if_pos h]
theorem topF_no {z : Int} {x : Pc} (h : ¬ z = 0) : topF (z, x) = [] := by unfold topF; rw [if_neg h]

set_option maxHeartbeats 2000000 in
set_option maxRecDepth 100000 in
theorem impl_TopPrints_c (v : Value) (xs : List Pc) (w : World) (h : Pcs w w.heap.size v xs) (hx0 : ∀ x ∈ xs, x.text.size ≤ 1048576) (hl0 : xs.length ≤ 1048576) (hg : Glob w) :
    Calls Tryd.prog 21 #[v] w fun e w' => ∃ v', e = .returned v' ∧ OwnI w' w.heap.size v' (topsOf xs) ∧ Below w.heap.size w w' := by
  obtain ⟨n, hn⟩ : ∃ n, xs.length = n := ⟨_, rfl⟩
  obtain ⟨a, c, rfl, _, _, h3⟩ := h.pcs hn
  have H3 := hid h3
  obtain ⟨cs, hcs⟩ : ∃ cs, countsOf xs = cs := ⟨_, rfl⟩
  obtain ⟨m, hm⟩ : ∃ m, cs.length = m := ⟨_, rfl⟩
  have hmn : m ≤ n := by have := counts_le (l := xs); rw [hcs, hm, hn] at this; exact this
  have hm40 : m ≤ 40 := by have := countsOf_len (l := xs); rw [hcs, hm] at this; exact this
  have HC := hid hcs
  have HM := hid hm
  clear hn h3 hcs
  go_enter Tryd.func21, Tryd.ntmps21
  go_wp2_with fail
  refine (impl_NameCounts_c _ xs _ h hx0 hl0 hg).mono ?_
  rw [HC.out]
  rintro e w1 ⟨cv, rfl, o1, b1⟩
  have hs1 := b1.size
  have hrd := Rd.of_own o1
  obtain ⟨a', c', rfl, _, _, h4⟩ := hrd.ints hm
  clear o1 hrd hm h hx0 hl0 hg
  go_wp2
  go_loopw [3, 9] (fun out i wr => ∃ (k : Nat) (acc : List Int), k ≤ m ∧ i = .int .i64 k ∧ OwnI wr w1.heap.size out acc ∧ Hid (acc = ((cs.zip xs).take k).flatMap topF) ∧ acc.length ≤ k ∧ Below w1.heap.size w1 wr) (fun _ i _ => m - (intOf i).toNat)
  case atStart => exact ⟨0, [], Nat.zero_le _, rfl, Own.nil_, rfl, Nat.zero_le _, Below.refl _ _⟩
  case round =>
    obtain ⟨k, acc, hk, rfl, hown, hacc, hlen, hb⟩ := hrel
    have c1 := bl_then b1 hb
    by_cases hlt : k < m
    · obtain ⟨b, o, z, rfl, hbl, hz, k0⟩ := h4 k hlt
      obtain ⟨b', o', r, t, rfl, hbl', hx, k1, _⟩ := H3.out k (by omega)
      have j0 := (hb.cell (p := ⟨b, o + k, none⟩) hbl).trans k0
      have j1 := (c1.cell (p := ⟨b', o' + k * 2, none⟩) hbl').trans k1
      have HF := hid (zip_at hz.out hx.out)
      clear k0 k1 h4
      have hkn : (k : Int) < n := by omega
      have hB := hb.size
      by_cases hz0 : z = 0
      · have HT := hid (HF.out.trans (by rw [topF_yes hz0, ← hacc.out]))
        have hd1 : (z == 0) = true := by simp [hz0]
        have hd2 : decide (z = 0) = true := by simp [hz0]
        clear hz0
        go_wp2_with (at_builtin; refine push_int (w0 := w1) rfl _ _ rfl _ _ _ _ _ hown hb hB (Nat.le_refl _) rfl rfl (by omega) ?_; intro v' w' hown' hb' hB' _)
        go_roundw
        case rel => exact ⟨k + 1, _, by omega, by go_num, hown', hid HT.out.symm, by simp; omega, hb'⟩
        case measure => simp [intOf]; omega
      · have HT := hid (HF.out.trans (by rw [topF_no hz0, List.append_nil, ← hacc.out]))
        have hd1 : (z == 0) = false := by simp [hz0]
        have hd2 : decide (z = 0) = false := by simp [hz0]
        clear hz0
        go_wp2
        go_roundw
        case rel => exact ⟨k + 1, _, by omega, by go_num, hown, hid HT.out.symm, by omega, hb⟩
        case measure => simp [intOf]; omega
    · have HA := hid (show acc = topsOf xs by unfold topsOf; rw [HC.out, hacc.out, List.take_of_length_le (by rw [List.length_zip, HM.out]; omega)])
      go_wp2
      go_ret
      exact ⟨_, rfl, by rw [← HA.out]; exact hown.less hs1, c1⟩

set_option maxHeartbeats 2000000 in
set_option maxRecDepth 100000 in
theorem spec_TopPrints_c (v : Value) (xs : List Pc) (w : World) (h : Pcs w w.heap.size v xs) (hx0 : ∀ x ∈ xs, x.text.size ≤ 1048576) (hl0 : xs.length ≤ 1048576) :
    Calls Tryd.prog 22 #[v] w fun e w' => ∃ v', e = .returned v' ∧ OwnI w' w.heap.size v' (topsOf xs) ∧ Below w.heap.size w w' := by
  obtain ⟨n, hn⟩ : ∃ n, xs.length = n := ⟨_, rfl⟩
  obtain ⟨a, c, rfl, _, _, h3⟩ := h.pcs hn
  have H3 := hid h3
  have HP : Hid (∀ wx, Below w.heap.size w wx → Pcs wx wx.heap.size (.slice a n c) xs) := fun wx hx' => h.on hx'
  obtain ⟨cs, hcs⟩ : ∃ cs, countsOf xs = cs := ⟨_, rfl⟩
  obtain ⟨m, hm⟩ : ∃ m, cs.length = m := ⟨_, rfl⟩
  have hmn : m ≤ n := by have := counts_le (l := xs); rw [hcs, hm, hn] at this; exact this
  have hm40 : m ≤ 40 := by have := countsOf_len (l := xs); rw [hcs, hm] at this; exact this
  have HC := hid hcs
  have HM := hid hm
  have HX := hid hx0
  have HL := hid hl0
  clear hn h3 hcs h hx0 hl0
  obtain ⟨W1, hW1⟩ : ∃ W1, W1 = w.alloc (.cells #[] 3) := ⟨_, rfl⟩
  have hal : Below w.heap.size w W1 := by rw [hW1]; exact (Below.refl _ _).alloc (Nat.le_refl _) _
  have hown0 : OwnI W1 w.heap.size (.slice (some ⟨w.heap.size, 0, none⟩) 0 0) [] := by rw [hW1]; exact Own.made _ (Nat.le_refl _)
  go_enter Tryd.func22, Tryd.ntmps22
  go_wp2_with fail
  rw [← hW1]
  refine (spec_NameCounts_c _ xs _ (HP.out _ hal) HX.out HL.out).mono ?_
  rw [HC.out]
  rintro e w1 ⟨cv, rfl, o1, b1'⟩
  have b1 := bl_then hal b1'
  have hown1 := hown0.on b1'
  have hs1 := b1.size
  have hlt1 := hid o1.lt
  have hpb : Hid (∀ g, Value.ownBlock (.slice (some ⟨w.heap.size, 0, none⟩) 0 0) = some g → g < W1.heap.size) := hid fun g hg => (hown0.lt g hg).2
  obtain ⟨a', c', rfl, _, _, _⟩ := (Rd.of_own o1).ints hm
  clear hm hal hown0 hW1 b1'
  go_wp2
  go_loopw [3, 5] (fun out i wr => ∃ (k : Nat) (acc : List Int), k ≤ m ∧ i = .int .i64 k ∧ OwnI wr w.heap.size out acc ∧ Hid (acc = ((cs.zip xs).take k).flatMap topF) ∧ acc.length ≤ k ∧ OwnI wr W1.heap.size (.slice a' m c') cs ∧ Hid (∀ g, out.ownBlock = some g → g < W1.heap.size ∨ w1.heap.size ≤ g) ∧ Below w.heap.size w wr ∧ w1.heap.size ≤ wr.heap.size) (fun _ i _ => m - (intOf i).toNat)
  case atStart => exact ⟨0, [], Nat.zero_le _, rfl, hown1, rfl, Nat.zero_le _, o1, hid fun g hg => .inl (hpb.out g hg), b1, Nat.le_refl _⟩
  case round =>
    obtain ⟨k, acc, hk, rfl, hown, hacc, hlen, hol, hpb2, hb, hsz⟩ := hrel
    clear o1 hown1 b1
    by_cases hlt : k < m
    · obtain ⟨_, _, hv, _, _, h4⟩ := (Rd.of_own hol).ints HM.out
      simp only [Value.slice.injEq] at hv
      obtain ⟨e1, _, e2⟩ := hv
      subst e1
      subst e2
      obtain ⟨b, o, z, rfl, hbl, hz, k0⟩ := h4 k hlt
      obtain ⟨b', o', r, t, rfl, hbl', hx, k1, _⟩ := H3.out k (by omega)
      have j1 := (hb.cell (p := ⟨b', o' + k * 2, none⟩) hbl').trans k1
      have HF := hid (zip_at hz.out hx.out)
      clear k1 h4
      have hkn : (k : Int) < n := by omega
      have hB := hb.size
      by_cases hz0 : z = 0
      · have HT := hid (HF.out.trans (by rw [topF_yes hz0, ← hacc.out]))
        have hd1 : (z == 0) = true := by simp [hz0]
        have hd2 : decide (z = 0) = true := by simp [hz0]
        clear hz0
        go_wp2_with (at_builtin; refine push_int (w0 := w) rfl _ _ rfl w.heap.size w.heap.size _ acc r hown hb hB (Nat.le_refl _) rfl rfl (by omega) ?_; intro v' w' hown' hb' hB' hg')
        go_roundw
        case rel =>
          have hne : (Value.slice (some ⟨b, o, none⟩) m c').ownBlock = none ∨ (Value.slice (some ⟨b, o, none⟩) m c').ownBlock ≠ Value.ownBlock _ := .inr (fun e => by
            have h5 := hlt1.out b rfl
            rcases hpb2.out b e.symm with h6 | h6
            · omega
            · omega)
          have hsz3 : w1.heap.size ≤ w'.heap.size := by have := hg'.1.size; omega
          refine ⟨k + 1, _, by omega, by go_num, hown', hid HT.out.symm, by simp; omega, Own.kept hol hg'.1 hne, hid fun g hg => ?_, hb', hsz3⟩
          rcases hg'.2 g hg with h6 | h6
          · exact hpb2.out g h6
          · exact .inr (by omega)
        case measure => simp [intOf]; omega
      · have HT := hid (HF.out.trans (by rw [topF_no hz0, List.append_nil, ← hacc.out]))
        have hd1 : (z == 0) = false := by simp [hz0]
        have hd2 : decide (z = 0) = false := by simp [hz0]
        clear hz0
        go_wp2
        go_roundw
        case rel => exact ⟨k + 1, _, by omega, by go_num, hown, hid HT.out.symm, by omega, hol, hpb2, hb, hsz⟩
        case measure => simp [intOf]; omega
    · have HA := hid (show acc = topsOf xs by unfold topsOf; rw [HC.out, hacc.out, List.take_of_length_le (by rw [List.length_zip, HM.out]; omega)])
      go_wp2
      go_ret
      exact ⟨_, rfl, by rw [← HA.out]; exact hown, hb⟩

end Go.Proofs.YtfdhaigmekmboaaDoor
