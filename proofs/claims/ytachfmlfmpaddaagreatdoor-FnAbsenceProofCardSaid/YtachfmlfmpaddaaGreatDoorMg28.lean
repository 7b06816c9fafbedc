/- Walks and plain facts, joined: FindE, WriteW, FilesP. -/
import Derived.Test.YtachfmlfmpaddaaGreatDoorMg11
import Derived.Test.YtachfmlfmpaddaaGreatDoorMg14
import Derived.Test.YtachfmlfmpaddaaGreatDoorMg15
import Derived.Test.YtachfmlfmpaddaaGreatDoorMg16
import Derived.Test.YtachfmlfmpaddaaGreatDoorMg18
import Derived.Test.YtachfmlfmpaddaaGreatDoorMg20
import Derived.Test.YtachfmlfmpaddaaGreatDoorMg22
import Derived.Test.YtachfmlfmpaddaaGreatDoorMg27
set_option linter.unusedVariables false
set_option linter.unusedSimpArgs false

/- Walks: where a name is among entries. -/
namespace Go.Proofs.YtachfmlfmpaddaaGreatDoor
open Go.RowKit

def cmpS (x y : ByteArray) : Int := if ltN x y = true then -1 else if ltN y x = true then 1 else 0
theorem ascE_get {l : List Ent} (h : l.Pairwise (fun a b => ltN a.name b.name = true)) {i j : Nat} {x y : Ent} (hi : l[i]? = some x) (hj : l[j]? = some y) (hij : i < j) : ltN x.name y.name = true := by
  obtain ⟨h1, e1⟩ := List.getElem?_eq_some_iff.1 hi
  obtain ⟨h2, e2⟩ := List.getElem?_eq_some_iff.1 hj
  rw [← e1, ← e2]
  exact List.pairwise_iff_getElem.1 h i j h1 h2 hij

set_option maxHeartbeats 400000 in
theorem cmp_isNaNS_c (x : ByteArray) (w : World) :
    Calls Tryz.prog 180 #[.string x] w fun e w' => e = .returned (.bool false) ∧ w = w' := by
  have hxx : (x.toList == x.toList) = true := by simp
  go_enter Tryz.func180, Tryz.ntmps180
  go_wp2
  go_ret
  exact ⟨by simp, rfl⟩

set_option maxHeartbeats 400000 in
theorem cmp_CompareS_c (x y : ByteArray) (w : World) :
    Calls Tryz.prog 163 #[.string x, .string y] w fun e w' => e = .returned (.int .i64 (cmpS x y)) ∧ w = w' := by
  have e1 := ltN_eq x y
  have e2 := ltN_eq y x
  by_cases h1 : ltN x y = true
  · have HO := hid (show cmpS x y = -1 by unfold cmpS; rw [if_pos h1])
    have hd : Go.Op.bytesLess x.toList y.toList = true := by rw [e1]; exact h1
    clear e1 e2 h1
    go_enter Tryz.func163, Tryz.ntmps163
    go_wp2_with (go_at_call 180; refine (cmp_isNaNS_c _ _).mono ?_; rintro e w' ⟨rfl, rfl⟩)
    go_ret
    exact ⟨ret_i HO.out.symm, rfl⟩
  · have hd : Go.Op.bytesLess x.toList y.toList = false := by rw [e1]; simpa using h1
    by_cases h2 : ltN y x = true
    · have HO := hid (show cmpS x y = 1 by unfold cmpS; rw [if_neg h1, if_pos h2])
      have hd2 : Go.Op.bytesLess y.toList x.toList = true := by rw [e2]; exact h2
      have hd3 : (x.toList == y.toList) = false := by
        rw [str_eqE]
        exact decide_eq_false (fun e => by rw [e, ltN_irr] at h2; cases h2)
      clear e1 e2 h1 h2
      go_enter Tryz.func163, Tryz.ntmps163
      go_wp2_with (go_at_call 180; refine (cmp_isNaNS_c _ _).mono ?_; rintro e w' ⟨rfl, rfl⟩)
      go_ret
      exact ⟨ret_i HO.out.symm, rfl⟩
    · have HO := hid (show cmpS x y = 0 by unfold cmpS; rw [if_neg h1, if_neg h2])
      have hd2 : Go.Op.bytesLess y.toList x.toList = false := by rw [e2]; simpa using h2
      have hd3 : (x.toList == y.toList) = true := by
        rw [str_eqE]
        rcases ltN_tot x y with h | h | h
        · exact absurd h h1
        · exact decide_eq_true h
        · exact absurd h h2
      clear e1 e2 h1 h2
      go_enter Tryz.func163, Tryz.ntmps163
      go_wp2_with (go_at_call 180; refine (cmp_isNaNS_c _ _).mono ?_; rintro e w' ⟨rfl, rfl⟩)
      go_ret
      exact ⟨ret_i HO.out.symm, rfl⟩

set_option maxHeartbeats 400000 in
theorem impl_findEntry1_c (t : ByteArray) (r : Int) (y : ByteArray) (z : Int) (hz : cmpS t y = z) (w : World) :
    Calls Tryz.prog 162 #[.agg #[.string t, .int .i64 r], .string y] w fun e w' => e = .returned (.int .i64 z) ∧ Below w.heap.size w w' := by
  have HZ := hid hz
  clear hz
  go_enter Tryz.func162, Tryz.ntmps162
  go_wp2_with (go_at_call 163; refine (cmp_CompareS_c _ _ _).mono ?_; rintro e w' ⟨rfl, rfl⟩)
  go_ret
  exact ⟨ret_i HZ.out, (Below.refl _ _).alloc (Nat.le_refl _) _⟩

set_option maxHeartbeats 2000000 in
set_option maxRecDepth 100000 in
theorem bsearchE_c (v : Value) (xs : List Ent) (y : ByteArray) (w : World) (h : Ents w w.heap.size v xs) (ha : xs.Pairwise (fun a b => ltN a.name b.name = true)) (hl : xs.length ≤ 1048576) :
    Calls Tryz.prog 161 #[v, .string y, .func (.func 162) #[] #[]] w fun e w' => e = .returned (.tuple #[.int .i64 (entAt xs y), .bool (isNm xs y (entAt xs y))]) ∧ Below w.heap.size w w' := by
  obtain ⟨n, hn⟩ : ∃ n, xs.length = n := ⟨_, rfl⟩
  obtain ⟨a, c, rfl, h1, h2, h3⟩ := h.ents hn
  rw [hn] at hl
  have HN := hid hn
  have HA := hid ha
  clear hn ha h
  go_enter Tryz.func161, Tryz.ntmps161
  go_wp2
  go_loopw [9, 10] (fun i j wr => ∃ lo hi : Nat, i = .int .i64 lo ∧ j = .int .i64 hi ∧ lo ≤ hi ∧ hi ≤ n ∧ Hid ((∀ (q : Nat) (x : Ent), q < lo → xs[q]? = some x → ltN x.name y = true) ∧ (∀ (q : Nat) (x : Ent), hi ≤ q → xs[q]? = some x → ltN x.name y = false)) ∧ Below w.heap.size w wr) (fun i j _ => (intOf j).toNat - (intOf i).toNat)
  case atStart => exact ⟨0, n, rfl, rfl, Nat.zero_le _, Nat.le_refl _, hid ⟨fun q x hq => absurd hq (Nat.not_lt_zero _), fun q x hq hg => absurd (List.getElem?_eq_some_iff.1 hg).1 (by have := HN.out; omega)⟩, Below.refl _ _⟩
  case round =>
    obtain ⟨lo, hi, rfl, rfl, hlh, hin, hinv, hb⟩ := hrel
    by_cases hlt : lo < hi
    · obtain ⟨m, hm⟩ : ∃ m, (lo + hi) / 2 = m := ⟨_, rfl⟩
      have hmi : ((lo : Int) + (hi : Int)) / 2 = (m : Int) := by omega
      have hm1 : lo ≤ m := by omega
      have hm2 : m < hi := by omega
      obtain ⟨b, o, t, r, rfl, hbl, hx, k0, k1⟩ := h3 m (by omega)
      have j0 := (hb.cell (p := ⟨b, o + m * 2, none⟩) hbl).trans k0
      have j1 := (hb.cell (p := ⟨b, o + m * 2 + 1, none⟩) hbl).trans k1
      clear k0 k1 h3 hm
      obtain ⟨z, hz⟩ : ∃ z, cmpS t y = z := ⟨_, rfl⟩
      by_cases hry : ltN t y = true
      · have hz1 : z = -1 := by rw [← hz]; unfold cmpS; rw [if_pos hry]
        subst hz1
        have HZ := hid hz
        have HS := hid (show ∀ (q : Nat) (x : Ent), q < m + 1 → xs[q]? = some x → ltN x.name y = true by
          intro q x hq hg
          rcases Nat.lt_succ_iff_lt_or_eq.1 hq with h | rfl
          · exact ltN_trans (ascE_get HA.out hg hx.out h) hry
          · rw [hx.out] at hg; rw [← Option.some.inj hg]; exact hry)
        clear hz hry
        go_wp2_with fail
        refine (impl_findEntry1_c t r y _ HZ.out _).mono ?_
        rintro e w4 ⟨rfl, b4⟩
        have hb4 := bl_then hb b4
        clear b4
        go_wp2
        go_roundw
        case rel => exact ⟨m + 1, hi, by go_num, rfl, by omega, hin, hid ⟨HS.out, hinv.out.2⟩, hb4⟩
        case measure => simp [intOf]; omega
      · have hz0 : ¬ z < 0 := by rw [← hz]; unfold cmpS; rw [if_neg hry]; split <;> omega
        have hz0' : decide (z < 0) = false := by simp; omega
        have HZ := hid hz
        have HS := hid (show ∀ (q : Nat) (x : Ent), m ≤ q → xs[q]? = some x → ltN x.name y = false by
          intro q x hq hg
          rcases Nat.lt_or_eq_of_le hq with h | rfl
          · cases hc : ltN x.name y
            · rfl
            · exact absurd (ltN_trans (ascE_get HA.out hx.out hg h) hc) hry
          · rw [hx.out] at hg; rw [← Option.some.inj hg]; simpa using hry)
        clear hz hry
        go_wp2_with fail
        refine (impl_findEntry1_c t r y _ HZ.out _).mono ?_
        rintro e w4 ⟨rfl, b4⟩
        have hb4 := bl_then hb b4
        clear b4
        go_wp2
        go_roundw
        case rel => exact ⟨lo, m, rfl, rfl, by omega, by omega, hid ⟨hinv.out.1, HS.out⟩, hb4⟩
        case measure => simp [intOf]; omega
    · obtain rfl : hi = lo := by omega
      have HF := hid (entAt_stop (l := xs) (nm := y) (k := hi) (by rw [HN.out]; exact hin) hinv.out.1 (fun x hx => hinv.out.2 _ _ (Nat.le_refl _) hx))
      by_cases hend : hi < n
      · obtain ⟨b, o, t, r, rfl, hbl, hx, k0, k1⟩ := h3 hi hend
        have j0 := (hb.cell (p := ⟨b, o + hi * 2, none⟩) hbl).trans k0
        have j1 := (hb.cell (p := ⟨b, o + hi * 2 + 1, none⟩) hbl).trans k1
        clear k0 k1 h3
        obtain ⟨z, hz⟩ : ∃ z, cmpS t y = z := ⟨_, rfl⟩
        have hry := hinv.out.2 _ _ (Nat.le_refl _) hx.out
        simp only at hry
        have hzb : (z == 0) = isNm xs y hi := by
          unfold isNm
          rw [hx.out, ← hz]
          unfold cmpS
          rw [if_neg (by rw [hry]; simp)]
          cases hc : ltN y t
          · rcases ltN_tot t y with h | h | h
            · rw [hry] at h; cases h
            · simp [h]
            · rw [hc] at h; cases h
          · have hne : ¬ t = y := by
              rintro rfl
              rw [ltN_irr] at hc; cases hc
            simp [hne]
        have HZ := hid hz
        have HZB := hid hzb
        clear hz hry hzb
        go_wp2_with fail
        refine (impl_findEntry1_c t r y _ HZ.out _).mono ?_
        rintro e w4 ⟨rfl, b4⟩
        have hb4 := bl_then hb b4
        clear b4
        go_wp2
        go_ret2
        exact ⟨by rw [HF.out, ← HZB.out]; rfl, hb4⟩
      · have HH := hid (show isNm xs y hi = false by
          unfold isNm
          rw [List.getElem?_eq_none (by have := HN.out; omega)])
        clear h3
        go_wp2
        go_ret2
        exact ⟨by rw [HF.out, HH.out]; rfl, hb⟩


set_option maxHeartbeats 400000 in
theorem impl_findEntry_c (v : Value) (es : List Ent) (y : ByteArray) (w : World) (h : Ents w w.heap.size v es) (ho : entsOk es = true) :
    Calls Tryz.prog 132 #[v, .string y] w fun e w' => e = .returned (.tuple #[.int .i64 (entAt es y), .bool (isNm es y (entAt es y))]) ∧ Below w.heap.size w w' := by
  obtain ⟨n, hn⟩ : ∃ n, es.length = n := ⟨_, rfl⟩
  obtain ⟨a, c, rfl, h1, h2, h3⟩ := h.ents hn
  have h40 := (ents_in ho).1
  have HO := hid ho
  clear h3
  go_enter Tryz.func132, Tryz.ntmps132
  go_wp2_with fail
  refine (bsearchE_c _ es y _ h (ents_iff.1 HO.out).2.2 (by omega)).mono ?_
  rintro e w1 ⟨rfl, b1⟩
  go_wp2
  go_ret2
  exact ⟨rfl, b1⟩

theorem firstOf_at {es : List Ent} (ho : entsOk es = true) {y : ByteArray} : firstOf es y = if isNm es y (entAt es y) = true then (es[entAt es y]?).map (·.print) else none := by
  split
  · rename_i hn
    unfold isNm at hn
    cases hx : es[entAt es y]? with
    | none => rw [hx] at hn; cases hn
    | some x =>
      rw [hx] at hn
      have hxy : x.name = y := of_decide_eq_true hn
      rw [first_at hx hxy (fun i z hi hz e => by
        have := entAt_below hi hz
        rw [e, ltN_irr] at this; cases this)]
      rfl
  · rename_i hn
    refine first_none (fun i z hz e => hn ?_)
    have ha := (ents_iff.1 ho).2.2
    have hi : entAt es y = i := entAt_stop (by have := (List.getElem?_eq_some_iff.1 hz).1; omega) (fun j x hj hx => by rw [← e]; exact ascE_get ha hx hz hj) (fun x hx => by rw [hz] at hx; rw [← Option.some.inj hx, e, ltN_irr])
    unfold isNm
    rw [hi, hz]
    exact decide_eq_true e

set_option maxHeartbeats 2000000 in
set_option maxRecDepth 100000 in
theorem impl_printNamed_c (v : Value) (es : List Ent) (y : ByteArray) (w : World) (F : Option Int) (hF : firstOf es y = F) (h : Ents w w.heap.size v es) (ho : entsOk es = true) :
    Calls Tryz.prog 68 #[v, .string y] w fun e w' => e = .returned (.tuple #[.int .i64 (F.getD (-1)), .bool F.isSome]) ∧ Below w.heap.size w w' := by
  obtain ⟨n, hn⟩ : ∃ n, es.length = n := ⟨_, rfl⟩
  obtain ⟨a, c, rfl, h1, h2, h3⟩ := h.ents hn
  have HF := hid ((firstOf_at ho (y := y)).symm.trans hF)
  have h40 := (ents_in ho).1
  obtain ⟨k, hk⟩ : ∃ k, entAt es y = k := ⟨_, rfl⟩
  obtain ⟨f, hf⟩ : ∃ f, isNm es y k = f := ⟨_, rfl⟩
  rw [hk, hf] at HF
  have HK := hid hk
  have HFF := hid hf
  have H3 := hid h3
  have HO := hid ho
  clear hF h3 hk hf
  go_enter Tryz.func68, Tryz.ntmps68
  go_wp2_with fail
  refine (impl_findEntry_c _ es y _ h HO.out).mono ?_
  rw [HK.out, HFF.out]
  rintro e w1 ⟨rfl, b1⟩
  cases f
  · obtain rfl : F = none := by have := HF.out; simpa using this.symm
    go_wp2
    go_ret2
    exact ⟨rfl, b1⟩
  · have hkn : k < n := by
      have := HFF.out
      unfold isNm at this
      cases hx : es[k]? with
      | none => rw [hx] at this; cases this
      | some x => have := (List.getElem?_eq_some_iff.1 hx).1; omega
    obtain ⟨b, o, t, r, rfl, hbl, hx, k0, k1⟩ := H3.out k hkn
    have j1 := (b1.cell (p := ⟨b, o + k * 2 + 1, none⟩) hbl).trans k1
    have hkn' : (k : Int) < n := by omega
    obtain rfl : F = some r := by have := HF.out; rw [hx.out] at this; simpa using this.symm
    clear k0 k1
    go_wp2
    go_ret2
    exact ⟨rfl, b1⟩

end Go.Proofs.YtachfmlfmpaddaaGreatDoor

/- Walks: the reference's writes and drops. -/
namespace Go.Proofs.YtachfmlfmpaddaaGreatDoor
open Go.RowKit

theorem parts_small {path : List UInt8} {ws : List (List UInt8)} (h : pathParts path = some ws) : (∀ x ∈ ws.map strL, x.size ≤ 1000) ∧ (ws.map strL).length ≤ 3 := by
  obtain ⟨h1, h2, _⟩ := pathParts_in h
  refine ⟨fun x hx => ?_, by simpa using h1⟩
  obtain ⟨y, hy, rfl⟩ := List.mem_map.1 hx
  have := h2 y hy
  simp only [wordOk, Bool.and_eq_true, decide_eq_true_eq] at this
  rw [strL_size]; omega
def WrPost (w : World) (R : List Pc × Int × Bool) : Ending → World → Prop := fun e w' => ∃ v', e = .returned (.tuple #[v', .int .i64 R.2.1, .bool R.2.2]) ∧ OwnP w' w.heap.size v' R.1 ∧ Below w.heap.size w w'

set_option maxHeartbeats 2000000 in
set_option maxRecDepth 100000 in
theorem spec_EmptyRoot_c (v : Value) (xs : List Pc) (w : World) (h : Pcs w w.heap.size v xs) (hx0 : ∀ x ∈ xs, x.text.size ≤ 1048576) (hl0 : xs.length ≤ 1048576) :
    Calls Tryz.prog 156 #[v] w fun e w' => ∃ v', e = .returned (.tuple #[v', .int .i64 (emptyRoot xs).2.1, .bool (emptyRoot xs).2.2]) ∧ OwnP w' w.heap.size v' (emptyRoot xs).1 ∧ Below w.heap.size w w' := by
  have hal : Below w.heap.size w (w.alloc (.cells #[] 81)) := (Below.refl _ _).alloc (Nat.le_refl _) _
  have hown0 : Hid (OwnE (w.alloc (.cells #[] 81)) w.heap.size (.slice (some ⟨w.heap.size, 0, none⟩) 0 0) []) := hid (Own.made _ (Nat.le_refl _))
  have HH := hid h
  have HX := hid hx0
  have HL := hid hl0
  obtain ⟨⟨xs2, p2, ok2⟩, hpq⟩ : ∃ P, emptyRoot xs = P := ⟨_, rfl⟩
  have HPQ := hid (show putS xs (strL (folderText [])) = (xs2, p2, ok2) from hpq)
  rw [hpq]
  have HFT := hid (show (strL (folderText [])).size ≤ 4611686018427387904 by rw [strL_size]; have := folder_len (show entsOk [] = true from rfl); omega)
  clear h hx0 hl0 hpq
  go_enter Tryz.func156, Tryz.ntmps156
  go_wp2_with fail
  refine (spec_FolderText_c _ [] _ _ (Rd.of_own hown0.out) (by simp) (by simp)).mono ?_
  rintro e w7 ⟨rfl, z7, rfl⟩
  have d8 := bl_drewN hal z7
  have h8 := hid (HH.out.on d8)
  go_wp2_with fail
  refine (spec_PutText_c _ xs _ _ h8.out HX.out HL.out HFT.out).mono ?_
  rw [HPQ.out]
  rintro e w8 ⟨fv, rfl, o8, b8⟩
  have d9 := bl_then d8 b8
  have O8 := hid (o8.less d8.size)
  clear o8 b8 d8
  go_wp2
  go_ret3
  exact ⟨_, rfl, O8.out, d9⟩

theorem write_off {xs : List Pc} {root : Int} {path content : List UInt8} (h : storeOk xs = false ∨ pathParts path = none ∨ pathParts path = some [] ∨ contOk content = false) : writeAt xs root path content = ([], -1, false) := by
  unfold writeAt
  cases hp : pathParts path with
  | none => rfl
  | some ws =>
    simp only []
    rw [if_pos]
    rcases h with h | h | h | h
    · exact .inl h
    · rw [hp] at h; cases h
    · rw [hp] at h; exact .inr (.inl (Option.some.inj h))
    · exact .inr (.inr h)
theorem write_on {xs : List Pc} {root : Int} {path content : List UInt8} {ws : List (List UInt8)} (hs : storeOk xs = true) (hp : pathParts path = some ws) (h0 : ws ≠ []) (hc : contOk content = true) :
    writeAt xs root path content = if hasP xs root = false then (xs, root, false)
    else if (setAt xs root (ws.map strL) (printOf (fileText content))).2.2 = false then (xs, root, false)
    else if (putS (setAt xs root (ws.map strL) (printOf (fileText content))).1 (strL (fileText content))).2.2 = false then (xs, root, false)
    else ((putS (setAt xs root (ws.map strL) (printOf (fileText content))).1 (strL (fileText content))).1, (setAt xs root (ws.map strL) (printOf (fileText content))).2.1, true) := by
  unfold writeAt
  rw [hp]
  simp only []
  rw [if_neg (fun h => h.elim (fun h => by rw [hs] at h; cases h) (fun h => h.elim h0 (fun h => by rw [hc] at h; cases h)))]

set_option maxHeartbeats 2000000 in
set_option maxRecDepth 100000 in
theorem spec_WriteAt_c (v : Value) (xs : List Pc) (root : Int) (path content : ByteArray) (w : World) (R : List Pc × Int × Bool) (hR : writeAt xs root (bs path) (bs content) = R) (h : Pcs w w.heap.size v xs) (hx0 : ∀ x ∈ xs, x.text.size ≤ 1048576) (hl0 : xs.length ≤ 1048576) (hp0 : path.size ≤ 900) (hc0 : content.size ≤ 1000000) :
    Calls Tryz.prog 46 #[v, .int .i64 root, .string path, .string content] w (WrPost w R) := by
  obtain ⟨n, hn⟩ : ∃ n, xs.length = n := ⟨_, rfl⟩
  obtain ⟨a, c, rfl, hnc, hc63, _⟩ := h.pcs hn
  have HN := hid hn
  have HH := hid h
  have HX := hid hx0
  have HL := hid hl0
  have HR := hid hR
  have HC := hid hc0
  obtain ⟨P, hP⟩ : ∃ P, pathParts (bs path) = P := ⟨_, rfl⟩
  have HP := hid hP
  clear hn h hx0 hl0 hR hP
  obtain ⟨i0, hi0, hz0, hz1, hz2⟩ := info_parts info_pcO
  cases hok : storeOk xs
  · have HK := hid hok
    obtain rfl : R = ([], -1, false) := by rw [← HR.out]; exact write_off (.inl hok)
    clear hok
    go_enter Tryz.func46, Tryz.ntmps46
    go_wp2_with fail
    refine (spec_PathParts_c _ _ hp0).mono ?_
    rw [HP.out]
    rintro e w1 ⟨pv, rfl, o1, b1⟩
    clear o1
    go_wp2_with fail
    refine (spec_StoreValid_c _ xs _ _ (HH.out.on b1) HX.out HL.out).mono ?_
    rw [HK.out]
    rintro e w2 ⟨rfl, z, rfl⟩
    have d2 := bl_drewN b1 z
    clear b1
    go_wp2
    go_ret3
    exact ⟨_, rfl, Own.made _ d2.size, d2.alloc d2.size _⟩
  have HK := hid hok
  clear hok
  cases P with
  | none =>
    obtain rfl : R = ([], -1, false) := by rw [← HR.out]; exact write_off (.inr (.inl HP.out))
    go_enter Tryz.func46, Tryz.ntmps46
    go_wp2_with fail
    refine (spec_PathParts_c _ _ hp0).mono ?_
    rw [HP.out]
    rintro e w1 ⟨pv, rfl, o1, b1⟩
    clear o1
    go_wp2_with fail
    refine (spec_StoreValid_c _ xs _ _ (HH.out.on b1) HX.out HL.out).mono ?_
    rw [HK.out]
    rintro e w2 ⟨rfl, z, rfl⟩
    have d2 := bl_drewN b1 z
    clear b1
    go_wp2
    go_ret3
    exact ⟨_, rfl, Own.made _ d2.size, d2.alloc d2.size _⟩
  | some ws =>
    have HPS := hid (parts_small HP.out)
    obtain ⟨m, hm⟩ : ∃ m, (ws.map strL).length = m := ⟨_, rfl⟩
    have HM := hid hm
    have hm3 : m ≤ 3 := by rw [← hm]; exact HPS.out.2
    clear hm
    by_cases hm0 : m = 0
    · obtain rfl : R = ([], -1, false) := by
        rw [← HR.out]; refine write_off (.inr (.inr (.inl ?_)))
        have := HM.out; rw [hm0] at this
        rw [HP.out, List.length_map] at *
        rw [List.eq_nil_of_length_eq_zero this]
      have hmd : ((m : Int) == 0) = true := by rw [hm0]; rfl
      clear hm0
      go_enter Tryz.func46, Tryz.ntmps46
      go_wp2_with fail
      refine (spec_PathParts_c _ _ hp0).mono ?_
      rw [HP.out]
      rintro e w1 ⟨pv, rfl, o1, b1⟩
      obtain ⟨pa, pc, rfl, _, _, _⟩ := (Rd.of_own o1).strs HM.out
      clear o1
      go_wp2_with fail
      refine (spec_StoreValid_c _ xs _ _ (HH.out.on b1) HX.out HL.out).mono ?_
      rw [HK.out]
      rintro e w2 ⟨rfl, z, rfl⟩
      have d2 := bl_drewN b1 z
      clear b1
      go_wp2
      go_ret3
      exact ⟨_, rfl, Own.made _ d2.size, d2.alloc d2.size _⟩
    have hmd : ((m : Int) == 0) = false := by simp; omega
    have H0 := hid (show ws ≠ [] by rintro rfl; have := HM.out; simp at this; omega)
    clear hm0
    cases hco : contOk (bs content)
    · obtain rfl : R = ([], -1, false) := by rw [← HR.out]; exact write_off (.inr (.inr (.inr hco)))
      have HCO := hid hco
      clear hco
      go_enter Tryz.func46, Tryz.ntmps46
      go_wp2_with fail
      refine (spec_PathParts_c _ _ hp0).mono ?_
      rw [HP.out]
      rintro e w1 ⟨pv, rfl, o1, b1⟩
      obtain ⟨pa, pc, rfl, _, _, _⟩ := (Rd.of_own o1).strs HM.out
      clear o1
      go_wp2_with fail
      refine (spec_StoreValid_c _ xs _ _ (HH.out.on b1) HX.out HL.out).mono ?_
      rw [HK.out]
      rintro e w2 ⟨rfl, z, rfl⟩
      have d2 := bl_drewN b1 z
      clear b1
      go_wp2_with (go_at_call 102; refine (spec_ContentValid_c _ _ HC.out).mono ?_; rw [HCO.out]; rintro e w3 ⟨rfl, rfl⟩)
      go_ret3
      exact ⟨_, rfl, Own.made _ d2.size, d2.alloc d2.size _⟩
    have HCO := hid hco
    have HRR := hid (HR.out.symm.trans (write_on HK.out HP.out H0.out hco))
    clear hco HR
    go_enter Tryz.func46, Tryz.ntmps46
    go_wp2_with fail
    refine (spec_PathParts_c _ _ hp0).mono ?_
    rw [HP.out]
    rintro e w1 ⟨pv, rfl, o1, b1⟩
    obtain ⟨pa, pc, rfl, _, _, _⟩ := (Rd.of_own o1).strs HM.out
    have O1 := hid (Rd.of_own o1)
    clear o1
    go_wp2_with fail
    refine (spec_StoreValid_c _ xs _ _ (HH.out.on b1) HX.out HL.out).mono ?_
    rw [HK.out]
    rintro e w2 ⟨rfl, z, rfl⟩
    obtain ⟨W0, hW0⟩ : ∃ W0, W0 = w1.drewN z := ⟨_, rfl⟩
    have d2 : Below w.heap.size w W0 := by rw [hW0]; exact bl_drewN b1 z
    have O2 : Hid (Strs W0 W0.heap.size (.slice pa m pc) (ws.map strL)) := by rw [hW0]; exact O1.out.drewN z
    have H2 := hid (HH.out.on d2)
    have hal : Below W0.heap.size W0 (W0.alloc (.cells #[] 60)) := (Below.refl _ _).alloc (Nat.le_refl _) _
    rw [← hW0]
    clear b1 hW0 O1
    go_wp2_with (first | (go_at_call 102; refine (spec_ContentValid_c _ _ HC.out).mono ?_; rw [HCO.out]; rintro e w3 ⟨rfl, rfl⟩) | (at_builtin; refine wpList_cat (enc := encP) (w0 := W0.alloc (.cells #[] 60)) rfl _ _ 23 rfl W0.heap.size W0.heap.size 60 i0 _ 2 24 Tryz.underlying23 hi0 hz0 hz1 hz2 rfl (by decide) _ _ [] xs (Own.made W0 (Nat.le_refl _)) _ (H2.out.below hal (Nat.le_refl _)) (Below.refl _ _) (by simp) (Nat.le_refl _) rfl rfl encP_one (by have := HL.out; simp; omega) (by decide) ?_; intro sv w3 hown' hb' hB' hg'))
    have b3 := hal.trans hb'
    have d3 := bl_then d2 b3
    have O3 := hid (O2.out.on b3)
    have H3 := hid (H2.out.on b3)
    have S3 := hid (hown'.less d2.size)
    clear hown' hb' hg' hB' b3 d2 O2 H2 hal
    refine (spec_l4Get_c _ xs root _ _ H3.out).mono ?_
    rintro e w4 ⟨rfl, rfl⟩
    cases hp : hasP xs root
    · obtain rfl : R = (xs, root, false) := by rw [HRR.out, if_pos hp]
      clear hp
      go_wp2
      go_ret3
      exact ⟨sv, rfl, S3.out, d3⟩
    have HRR2 := hid (HRR.out.trans (if_neg (by rw [hp]; simp)))
    clear hp HRR
    obtain ⟨⟨xs1, p1, ok⟩, hR1⟩ : ∃ R1, setAt xs root (ws.map strL) (printOf (fileText (bs content))) = R1 := ⟨_, rfl⟩
    have HR1 := hid hR1
    rw [hR1] at HRR2
    have HS1 := hid (show storeOk xs1 = true by have := set_ok (ws.map strL) xs root (printOf (fileText (bs content))) HK.out; rw [hR1] at this; exact this)
    have HFS := hid (show (strL (fileText (bs content))).size ≤ 4611686018427387904 by
      rw [strL_size]; unfold fileText; rw [HCO.out]; simp; have := HC.out; have := bs_len content; omega)
    clear hR1
    go_wp2_with fail
    refine (spec_FileText_c _ _ HC.out).mono ?_
    rintro e w4 ⟨rfl, rfl⟩
    go_wp2_with fail
    refine (spec_PrintOf_e _ _ HFS.out (by rw [bs_strL])).mono ?_
    rintro e w4 ⟨rfl, rfl⟩
    go_wp2_with fail
    refine (spec_l10Set_c (ws.map strL) _ _ xs root _ _ (xs1, p1, ok) HR1.out H3.out HK.out O3.out HPS.out.1 (by have := HPS.out.2; omega)).mono ?_
    rintro e w5 ⟨nv, rfl, s5, b5⟩
    have d5 := bl_then d3 b5
    have S5 := hid (S3.out.on b5)
    have N5 := hid s5
    clear s5 b5 S3 H3 O3 d3
    cases ok
    · obtain rfl : R = (xs, root, false) := by rw [HRR2.out]; rfl
      go_wp2
      go_ret3
      exact ⟨sv, rfl, S5.out, d5⟩
    obtain ⟨⟨xs2, p2, ok2⟩, hpq⟩ : ∃ Q, putS xs1 (strL (fileText (bs content))) = Q := ⟨_, rfl⟩
    have HPQ := hid hpq
    have HRR3 := hid (show R = if ok2 = false then (xs, root, false) else (xs2, p1, true) by rw [HRR2.out]; simp only [hpq]; rfl)
    have HT1 := hid (fun (x : Pc) (hx : x ∈ xs1) => show x.text.size ≤ 1048576 by have := st_text HS1.out hx; omega)
    have HN1 := hid (show xs1.length ≤ 1048576 by have := (st_in HS1.out).1; omega)
    have HS2 := hid (show xs2.length ≤ 40 by have := (st_in (put_ok (t := strL (fileText (bs content))) HS1.out)).1; rw [hpq] at this; exact this)
    clear hpq HRR2
    go_wp2_with fail
    refine (spec_FileText_c _ _ HC.out).mono ?_
    rintro e w6 ⟨rfl, rfl⟩
    go_wp2_with fail
    refine (spec_PutText_c _ xs1 _ _ N5.out HT1.out HN1.out HFS.out).mono ?_
    rw [HPQ.out]
    rintro e w6 ⟨ov, rfl, o6, b6⟩
    have d6 := bl_then d5 b6
    have S6 := hid (S5.out.on b6)
    have O6 := hid (Rd.of_own o6)
    clear o6 b6 S5 N5 d5
    cases ok2
    · obtain rfl : R = (xs, root, false) := by rw [HRR3.out]; rfl
      go_wp2
      go_ret3
      exact ⟨sv, rfl, S6.out, d6⟩
    · obtain rfl : R = (xs2, p1, true) := by rw [HRR3.out]; rfl
      have hal6 : Below w6.heap.size w6 (w6.alloc (.cells #[] 60)) := (Below.refl _ _).alloc (Nat.le_refl _) _
      go_wp2_with (at_builtin; refine wpList_cat (enc := encP) (w0 := w6.alloc (.cells #[] 60)) rfl _ _ 23 rfl w6.heap.size w6.heap.size 60 i0 _ 2 24 Tryz.underlying23 hi0 hz0 hz1 hz2 rfl (by decide) _ _ [] xs2 (Own.made w6 (Nat.le_refl _)) _ (O6.out.below hal6 (Nat.le_refl _)) (Below.refl _ _) (by simp) (Nat.le_refl _) rfl rfl encP_one (by have := HS2.out; simp; omega) (by decide) ?_; intro fv w7 hown' hb' hB' hg')
      go_ret3
      exact ⟨fv, rfl, hown'.less d6.size, bl_then d6 (hal6.trans hb')⟩

theorem drop_off {xs : List Pc} {root : Int} {path : List UInt8} (h : storeOk xs = false ∨ pathParts path = none ∨ pathParts path = some []) : dropAt xs root path = ([], -1, false) := by
  unfold dropAt
  cases hp : pathParts path with
  | none => rfl
  | some ws =>
    simp only []
    rw [if_pos]
    rcases h with h | h | h
    · exact .inl h
    · rw [hp] at h; cases h
    · rw [hp] at h; exact .inr (Option.some.inj h)
theorem drop_on {xs : List Pc} {root : Int} {path : List UInt8} {ws : List (List UInt8)} (hs : storeOk xs = true) (hp : pathParts path = some ws) (h0 : ws ≠ []) :
    dropAt xs root path = if (walkAt xs root (ws.map strL)).2 = false then (xs, root, false)
    else if (dropTo xs root (ws.map strL)).2.2 = false then (xs, root, false)
    else ((dropTo xs root (ws.map strL)).1, (dropTo xs root (ws.map strL)).2.1, true) := by
  unfold dropAt
  rw [hp]
  simp only []
  rw [if_neg (fun h => h.elim (fun h => by rw [hs] at h; cases h) h0)]

set_option maxHeartbeats 2000000 in
set_option maxRecDepth 100000 in
theorem spec_DropAt_c (v : Value) (xs : List Pc) (root : Int) (path : ByteArray) (w : World) (R : List Pc × Int × Bool) (hR : dropAt xs root (bs path) = R) (h : Pcs w w.heap.size v xs) (hx0 : ∀ x ∈ xs, x.text.size ≤ 1048576) (hl0 : xs.length ≤ 1048576) (hp0 : path.size ≤ 900) :
    Calls Tryz.prog 178 #[v, .int .i64 root, .string path] w (WrPost w R) := by
  obtain ⟨n, hn⟩ : ∃ n, xs.length = n := ⟨_, rfl⟩
  obtain ⟨a, c, rfl, hnc, hc63, _⟩ := h.pcs hn
  have HN := hid hn
  have HH := hid h
  have HX := hid hx0
  have HL := hid hl0
  have HR := hid hR
  obtain ⟨P, hP⟩ : ∃ P, pathParts (bs path) = P := ⟨_, rfl⟩
  have HP := hid hP
  clear hn h hx0 hl0 hR hP
  obtain ⟨i0, hi0, hz0, hz1, hz2⟩ := info_parts info_pcO
  cases hok : storeOk xs
  · have HK := hid hok
    obtain rfl : R = ([], -1, false) := by rw [← HR.out]; exact drop_off (.inl hok)
    clear hok
    go_enter Tryz.func178, Tryz.ntmps178
    go_wp2_with fail
    refine (spec_PathParts_c _ _ hp0).mono ?_
    rw [HP.out]
    rintro e w1 ⟨pv, rfl, o1, b1⟩
    clear o1
    go_wp2_with fail
    refine (spec_StoreValid_c _ xs _ _ (HH.out.on b1) HX.out HL.out).mono ?_
    rw [HK.out]
    rintro e w2 ⟨rfl, z, rfl⟩
    have d2 := bl_drewN b1 z
    clear b1
    go_wp2
    go_ret3
    exact ⟨_, rfl, Own.made _ d2.size, d2.alloc d2.size _⟩
  have HK := hid hok
  clear hok
  cases P with
  | none =>
    obtain rfl : R = ([], -1, false) := by rw [← HR.out]; exact drop_off (.inr (.inl HP.out))
    go_enter Tryz.func178, Tryz.ntmps178
    go_wp2_with fail
    refine (spec_PathParts_c _ _ hp0).mono ?_
    rw [HP.out]
    rintro e w1 ⟨pv, rfl, o1, b1⟩
    clear o1
    go_wp2_with fail
    refine (spec_StoreValid_c _ xs _ _ (HH.out.on b1) HX.out HL.out).mono ?_
    rw [HK.out]
    rintro e w2 ⟨rfl, z, rfl⟩
    have d2 := bl_drewN b1 z
    clear b1
    go_wp2
    go_ret3
    exact ⟨_, rfl, Own.made _ d2.size, d2.alloc d2.size _⟩
  | some ws =>
    have HPS := hid (parts_small HP.out)
    obtain ⟨m, hm⟩ : ∃ m, (ws.map strL).length = m := ⟨_, rfl⟩
    have HM := hid hm
    have hm3 : m ≤ 3 := by rw [← hm]; exact HPS.out.2
    clear hm
    by_cases hm0 : m = 0
    · obtain rfl : R = ([], -1, false) := by
        rw [← HR.out]; refine drop_off (.inr (.inr ?_))
        have := HM.out; rw [hm0] at this
        rw [HP.out, List.length_map] at *
        rw [List.eq_nil_of_length_eq_zero this]
      have hmd : ((m : Int) == 0) = true := by rw [hm0]; rfl
      clear hm0
      go_enter Tryz.func178, Tryz.ntmps178
      go_wp2_with fail
      refine (spec_PathParts_c _ _ hp0).mono ?_
      rw [HP.out]
      rintro e w1 ⟨pv, rfl, o1, b1⟩
      obtain ⟨pa, pc, rfl, _, _, _⟩ := (Rd.of_own o1).strs HM.out
      clear o1
      go_wp2_with fail
      refine (spec_StoreValid_c _ xs _ _ (HH.out.on b1) HX.out HL.out).mono ?_
      rw [HK.out]
      rintro e w2 ⟨rfl, z, rfl⟩
      have d2 := bl_drewN b1 z
      clear b1
      go_wp2
      go_ret3
      exact ⟨_, rfl, Own.made _ d2.size, d2.alloc d2.size _⟩
    have hmd : ((m : Int) == 0) = false := by simp; omega
    have H0 := hid (show ws ≠ [] by rintro rfl; have := HM.out; simp at this; omega)
    clear hm0
    have HRR := hid (HR.out.symm.trans (drop_on HK.out HP.out H0.out))
    clear HR
    go_enter Tryz.func178, Tryz.ntmps178
    go_wp2_with fail
    refine (spec_PathParts_c _ _ hp0).mono ?_
    rw [HP.out]
    rintro e w1 ⟨pv, rfl, o1, b1⟩
    obtain ⟨pa, pc, rfl, _, _, _⟩ := (Rd.of_own o1).strs HM.out
    have O1 := hid (Rd.of_own o1)
    clear o1
    go_wp2_with fail
    refine (spec_StoreValid_c _ xs _ _ (HH.out.on b1) HX.out HL.out).mono ?_
    rw [HK.out]
    rintro e w2 ⟨rfl, z, rfl⟩
    obtain ⟨W0, hW0⟩ : ∃ W0, W0 = w1.drewN z := ⟨_, rfl⟩
    have d2 : Below w.heap.size w W0 := by rw [hW0]; exact bl_drewN b1 z
    have O2 : Hid (Strs W0 W0.heap.size (.slice pa m pc) (ws.map strL)) := by rw [hW0]; exact O1.out.drewN z
    have H2 := hid (HH.out.on d2)
    have hal : Below W0.heap.size W0 (W0.alloc (.cells #[] 60)) := (Below.refl _ _).alloc (Nat.le_refl _) _
    rw [← hW0]
    clear b1 hW0 O1
    go_wp2_with (at_builtin; refine wpList_cat (enc := encP) (w0 := W0.alloc (.cells #[] 60)) rfl _ _ 23 rfl W0.heap.size W0.heap.size 60 i0 _ 2 24 Tryz.underlying23 hi0 hz0 hz1 hz2 rfl (by decide) _ _ [] xs (Own.made W0 (Nat.le_refl _)) _ (H2.out.below hal (Nat.le_refl _)) (Below.refl _ _) (by simp) (Nat.le_refl _) rfl rfl encP_one (by have := HL.out; simp; omega) (by decide) ?_; intro sv w3 hown' hb' hB' hg')
    have b3 := hal.trans hb'
    have d3 := bl_then d2 b3
    have O3 := hid (O2.out.on b3)
    have H3 := hid (H2.out.on b3)
    have S3 := hid (hown'.less d2.size)
    clear hown' hb' hg' hB' b3 d2 O2 H2 hal
    obtain ⟨⟨wp, there⟩, hwk⟩ : ∃ Q, walkAt xs root (ws.map strL) = Q := ⟨_, rfl⟩
    have HWK := hid hwk
    rw [hwk] at HRR
    clear hwk
    refine (spec_l9Walk_c _ _ xs root (ws.map strL) _ (wp, there) HWK.out H3.out HK.out O3.out).mono ?_
    rintro e w4 ⟨rfl, b4⟩
    have d4 := bl_then d3 b4
    have O4 := hid (O3.out.on b4)
    have H4 := hid (H3.out.on b4)
    have S4 := hid (S3.out.on b4)
    clear b4 d3 O3 H3 S3
    cases there
    · obtain rfl : R = (xs, root, false) := by rw [HRR.out]; rfl
      go_wp2
      go_ret3
      exact ⟨sv, rfl, S4.out, d4⟩
    have HRR2 := hid (HRR.out.trans (if_neg (by simp)))
    clear HRR
    obtain ⟨⟨xs1, p1, ok⟩, hR1⟩ : ∃ R1, dropIn xs root (ws.map strL) = R1 := ⟨_, rfl⟩
    have HR1 := hid hR1
    have HDT := hid (show dropTo xs root (ws.map strL) = if ok = true ∧ p1 < 0 then emptyRoot xs1 else (xs1, p1, ok) by unfold dropTo; rw [hR1])
    have HS1 := hid (show storeOk xs1 = true by have := dropIn_ok (ws.map strL) xs root HK.out; rw [hR1] at this; exact this)
    clear hR1
    go_wp2_with fail
    refine (spec_l10Drop_c (ws.map strL) _ _ xs root _ (xs1, p1, ok) (by simpa using H0.out) HR1.out H4.out HK.out O4.out HPS.out.1 (by have := HPS.out.2; omega)).mono ?_
    rintro e w5 ⟨nv, rfl, s5, b5⟩
    have d5 := bl_then d4 b5
    have S5 := hid (S4.out.on b5)
    have N5 := hid s5
    clear s5 b5 S4 H4 O4 d4
    cases ok
    · obtain rfl : R = (xs, root, false) := by rw [HRR2.out, HDT.out]; simp
      go_wp2
      go_ret3
      exact ⟨sv, rfl, S5.out, d5⟩
    have HT1 := hid (fun (x : Pc) (hx : x ∈ xs1) => show x.text.size ≤ 1048576 by have := st_text HS1.out hx; omega)
    have HN1 := hid (show xs1.length ≤ 1048576 by have := (st_in HS1.out).1; omega)
    by_cases hp1 : p1 < 0
    · obtain ⟨⟨xs2, p2, ok2⟩, hpq⟩ : ∃ Q, emptyRoot xs1 = Q := ⟨_, rfl⟩
      have HPQ := hid hpq
      have HRR3 := hid (show R = if ok2 = false then (xs, root, false) else (xs2, p2, true) by
        have e : dropTo xs root (ws.map strL) = emptyRoot xs1 := HDT.out.trans (if_pos ⟨rfl, hp1⟩)
        rw [HRR2.out, e, hpq])
      have HS2 := hid (show xs2.length ≤ 40 by have := (st_in (put_ok (t := strL (folderText [])) HS1.out)).1; have e : putS xs1 (strL (folderText [])) = (xs2, p2, ok2) := hpq; rw [e] at this; exact this)
      clear hpq HRR2 HDT
      go_wp2_with fail
      refine (spec_EmptyRoot_c _ xs1 _ N5.out HT1.out HN1.out).mono ?_
      rw [HPQ.out]
      rintro e w6 ⟨ov, rfl, o6, b6⟩
      have d6 := bl_then d5 b6
      have S6 := hid (S5.out.on b6)
      have O6 := hid (Rd.of_own o6)
      clear o6 b6 S5 N5 d5
      cases ok2
      · obtain rfl : R = (xs, root, false) := by rw [HRR3.out]; rfl
        go_wp2
        go_ret3
        exact ⟨sv, rfl, S6.out, d6⟩
      · obtain rfl : R = (xs2, p2, true) := by rw [HRR3.out]; rfl
        have hal6 : Below w6.heap.size w6 (w6.alloc (.cells #[] 60)) := (Below.refl _ _).alloc (Nat.le_refl _) _
        go_wp2_with (at_builtin; refine wpList_cat (enc := encP) (w0 := w6.alloc (.cells #[] 60)) rfl _ _ 23 rfl w6.heap.size w6.heap.size 60 i0 _ 2 24 Tryz.underlying23 hi0 hz0 hz1 hz2 rfl (by decide) _ _ [] xs2 (Own.made w6 (Nat.le_refl _)) _ (O6.out.below hal6 (Nat.le_refl _)) (Below.refl _ _) (by simp) (Nat.le_refl _) rfl rfl encP_one (by have := HS2.out; simp; omega) (by decide) ?_; intro fv w7 hown' hb' hB' hg')
        go_ret3
        exact ⟨fv, rfl, hown'.less d6.size, bl_then d6 (hal6.trans hb')⟩
    · have hp1' : 0 ≤ p1 := by omega
      obtain rfl : R = (xs1, p1, true) := by
        have e : dropTo xs root (ws.map strL) = (xs1, p1, true) := HDT.out.trans (if_neg (fun h => hp1 h.2))
        rw [HRR2.out, e]; rfl
      have hal6 : Below w5.heap.size w5 (w5.alloc (.cells #[] 60)) := (Below.refl _ _).alloc (Nat.le_refl _) _
      go_wp2_with (at_builtin; refine wpList_cat (enc := encP) (w0 := w5.alloc (.cells #[] 60)) rfl _ _ 23 rfl w5.heap.size w5.heap.size 60 i0 _ 2 24 Tryz.underlying23 hi0 hz0 hz1 hz2 rfl (by decide) _ _ [] xs1 (Own.made w5 (Nat.le_refl _)) _ (N5.out.below hal6 (Nat.le_refl _)) (Below.refl _ _) (by simp) (Nat.le_refl _) rfl rfl encP_one (by have := (st_in HS1.out).1; simp; omega) (by decide) ?_; intro fv w7 hown' hb' hB' hg')
      go_ret3
      exact ⟨fv, rfl, hown'.less d5.size, bl_then d5 (hal6.trans hb')⟩

end Go.Proofs.YtachfmlfmpaddaaGreatDoor

/- The files below a folder, in plain Lean. No program in sight. -/
namespace Go.Proofs.YtachfmlfmpaddaaGreatDoor
open Go.RowKit

noncomputable def belowF (xs : List Pc) : Nat → Int → List ByteArray → List ByteArray
  | 0, _, _ => []
  | k + 1, pr, parts => (entsOf (textAt xs pr)).flatMap fun e => if isFile (textAt xs e.print) = true then [strL (joinP ((parts ++ [e.name]).map bs))] else belowF xs k e.print (parts ++ [e.name])
noncomputable def allFiles (xs : List Pc) (root : Int) : List ByteArray := if storeOk xs = true then belowF xs 3 root [] else []
/-- Names lead to a file. -/
def FileWay (xs : List Pc) (pr : Int) (ws : List ByteArray) : Prop := ∃ c, walkAt xs pr ws = (c, true) ∧ isFile (textAt xs c) = true
theorem file_has {xs : List Pc} {c : Int} (h : isFile (textAt xs c) = true) : hasP xs c = true := by
  cases hp : hasP xs c
  · exfalso
    have hg : getP xs c = none := by unfold hasP at hp; simpa using hp
    unfold textAt at h
    rw [hg] at h
    cases h
  · rfl
theorem file_ents {l : List UInt8} (h : isFile l = true) : entsOf l = [] := by unfold entsOf; rw [file_no_folder h]; rfl
theorem fileWay_nil {xs : List Pc} {pr : Int} : FileWay xs pr [] ↔ isFile (textAt xs pr) = true := by
  constructor
  · rintro ⟨c, h, hf⟩
    unfold walkAt at h
    split at h
    · simp only [Prod.mk.injEq, and_true] at h; rw [h]; exact hf
    · cases h
  · intro h
    refine ⟨pr, ?_, h⟩
    unfold walkAt
    rw [if_pos (file_has h)]
theorem fileWay_cons {xs : List Pc} {pr : Int} {nm : ByteArray} {ws : List ByteArray} : FileWay xs pr (nm :: ws) ↔ ∃ c, firstOf (entsOf (textAt xs pr)) nm = some c ∧ FileWay xs c ws := by
  unfold FileWay
  constructor
  · rintro ⟨c, h, hf⟩
    cases hq : firstOf (entsOf (textAt xs pr)) nm with
    | none => rw [walk_no hq] at h; cases h
    | some q => rw [walk_some hq] at h; exact ⟨q, rfl, c, h, hf⟩
  · rintro ⟨q, hq, c, h, hf⟩
    exact ⟨c, by rw [walk_some hq]; exact h, hf⟩
theorem below_mem {xs : List Pc} : ∀ (k : Nat) (pr : Int) (parts : List ByteArray) (p : ByteArray), p ∈ belowF xs k pr parts ↔ ∃ ws : List ByteArray, ws ≠ [] ∧ ws.length ≤ k ∧ FileWay xs pr ws ∧ p = strL (joinP ((parts ++ ws).map bs))
  | 0, pr, parts, p => by
    unfold belowF
    constructor
    · intro h; simp at h
    · rintro ⟨ws, h0, hl, _⟩
      exact absurd (List.eq_nil_of_length_eq_zero (by omega)) h0
  | k + 1, pr, parts, p => by
    have ho := entsOf_ok (textAt xs pr)
    unfold belowF
    rw [List.mem_flatMap]
    constructor
    · rintro ⟨e, he, hp⟩
      have hf : firstOf (entsOf (textAt xs pr)) e.name = some e.print := (first_iff ho).2 he
      split at hp
      · rename_i hi
        simp only [List.mem_singleton] at hp
        exact ⟨[e.name], by simp, by simp, fileWay_cons.2 ⟨e.print, hf, fileWay_nil.2 hi⟩, hp⟩
      · obtain ⟨ws, h0, hl, hw, hp⟩ := (below_mem k e.print (parts ++ [e.name]) p).1 hp
        exact ⟨e.name :: ws, by simp, by simp; omega, fileWay_cons.2 ⟨e.print, hf, hw⟩, by rw [hp]; simp⟩
    · rintro ⟨ws, h0, hl, hw, hp⟩
      cases ws with
      | nil => exact absurd rfl h0
      | cons nm r =>
        obtain ⟨c, hc, hw'⟩ := fileWay_cons.1 hw
        have he := (first_iff ho).1 hc
        refine ⟨⟨nm, c⟩, he, ?_⟩
        simp only
        by_cases hr : r = []
        · subst hr
          rw [if_pos (fileWay_nil.1 hw'), hp]; simp
        · have hnf : ¬ isFile (textAt xs c) = true := by
            intro hi
            cases r with
            | nil => exact hr rfl
            | cons y q =>
              obtain ⟨d, hd, _⟩ := fileWay_cons.1 hw'
              rw [file_ents hi] at hd
              cases hd
          rw [if_neg hnf]
          exact (below_mem k c (parts ++ [nm]) p).2 ⟨r, hr, by simp at hl; omega, hw', by rw [hp]; simp⟩

theorem fileWay_words {xs : List Pc} : ∀ (ws : List ByteArray) (pr : Int), FileWay xs pr ws → ∀ x ∈ ws, wordOk (bs x) = true
  | [], _, _ => by simp
  | nm :: r, pr, h => by
    obtain ⟨c, hc, hw⟩ := fileWay_cons.1 h
    intro x hx
    rcases List.mem_cons.1 hx with rfl | hx
    · exact (first_pv (entsOf_ok _) hc).1
    · exact fileWay_words r c hw x hx
end Go.Proofs.YtachfmlfmpaddaaGreatDoor
