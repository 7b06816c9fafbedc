/- Walks and plain facts, joined: Wrt1, EntP, Named. -/
import Derived.Test.YtachfmlfmpaddaaGreatDoorMg8
import Derived.Test.YtachfmlfmpaddaaGreatDoorMg11
import Derived.Test.YtachfmlfmpaddaaGreatDoorMg13
import Derived.Test.YtachfmlfmpaddaaGreatDoorMg15
set_option linter.unusedVariables false
set_option linter.unusedSimpArgs false

/- Walks: files' texts, joined paths, the reference's way. -/
namespace Go.Proofs.YtachfmlfmpaddaaGreatDoor
open Go.RowKit

theorem strL_emp : (strL []).toList.isEmpty = true := by rw [ByteArray.toList_eq]; rfl
theorem strL_nem {T : List UInt8} (h : T ≠ []) : (strL T).toList.isEmpty = false := by
  rw [ByteArray.toList_eq]
  cases T with
  | nil => exact absurd rfl h
  | cons _ _ => rfl

set_option maxHeartbeats 2000000 in
set_option maxRecDepth 100000 in
theorem spec_ContentValid_c (s : ByteArray) (w : World) (hs : s.size ≤ 1000000) :
    Calls Tryz.prog 102 #[.string s] w fun e w' => e = .returned (.bool (contOk (bs s))) ∧ w = w' := by
  have hbl := bs_lenH s
  obtain ⟨y, hy⟩ : ∃ y, textOk (bs s) = y := ⟨_, rfl⟩
  have HY := hid hy
  have HO := hid (show contOk (bs s) = (y && decide (s.size ≤ 40)) by unfold contOk; rw [hy, hbl])
  clear hy
  go_enter Tryz.func102, Tryz.ntmps102
  go_wp2_with (go_at_call 133; refine (spec_TextValid_c s _ (by omega)).mono ?_; rw [HY.out]; rintro e w' ⟨rfl, rfl⟩)
  all_goals go_ret
  all_goals exact ⟨ret_b (by rw [HO.out]; simp_all; try omega), rfl⟩

set_option maxHeartbeats 2000000 in
set_option maxRecDepth 100000 in
theorem spec_FileText_c (s : ByteArray) (w : World) (hs : s.size ≤ 1000000) :
    Calls Tryz.prog 106 #[.string s] w fun e w' => e = .returned (.string (strL (fileText (bs s)))) ∧ w = w' := by
  cases hy : contOk (bs s)
  · have HO := hid (show fileText (bs s) = [] by unfold fileText; rw [hy]; rfl)
    have HY := hid hy
    clear hy
    go_enter Tryz.func106, Tryz.ntmps106
    go_wp2_with (go_at_call 102; refine (spec_ContentValid_c s _ hs).mono ?_; rw [HY.out]; rintro e w' ⟨rfl, rfl⟩)
    go_ret
    exact ⟨by rw [HO.out]; rfl, rfl⟩
  · have HO := hid (show strL (fileText (bs s)) = (⟨#[102]⟩ : ByteArray) ++ s by
      have e1 : (⟨#[102]⟩ : ByteArray) = strL [102] := rfl
      rw [e1]
      conv => rhs; rw [← strL_bs s]
      rw [strL_append]
      unfold fileText; rw [hy]; simp)
    have HY := hid hy
    have e1 : (⟨#[102]⟩ : ByteArray).size = 1 := rfl
    have hq : (⟨#[102]⟩ : ByteArray).size + s.size ≤ 9223372036854775807 := by omega
    clear hy
    go_enter Tryz.func106, Tryz.ntmps106
    go_wp2_with (go_at_call 102; refine (spec_ContentValid_c s _ hs).mono ?_; rw [HY.out]; rintro e w' ⟨rfl, rfl⟩)
    go_ret
    exact ⟨by rw [HO.out]; rfl, rfl⟩

set_option maxHeartbeats 2000000 in
set_option maxRecDepth 100000 in
theorem spec_ReadFile_c (s : ByteArray) (w : World) (hs : s.size ≤ 1000000) :
    Calls Tryz.prog 79 #[.string s] w fun e w' => (∃ t, e = .returned (.tuple #[.string t, .bool (isFile (bs s))])) ∧ w = w' := by
  by_cases h0 : 0 < s.size
  · have hx := bs_get s h0
    have hcons : bs s = s[0] :: (bs s).drop 1 := by
      cases hb : bs s with
      | nil => rw [hb] at hx; cases hx
      | cons a r => rw [hb] at hx; simp at hx; rw [hx]; rfl
    have hF : isFile (bs s) = (decide (s[0] = 102) && contOk ((bs s).drop 1)) := by rw [hcons]; rfl
    have hem : s.toList.isEmpty = false := by
      rw [ByteArray.toList_eq]
      cases hb : s.data.toList with
      | nil => have : (bs s).length = 0 := by unfold bs; rw [hb]; rfl
               rw [bs_len] at this; omega
      | cons _ _ => rfl
    by_cases hc : s[0] = 102
    · have hd0 : (s[0].toNat : Int) = 102 := by rw [hc]; rfl
      have HE := hid (show bs (s.extract 1 s.size) = (bs s).drop 1 by rw [ext_strL, bs_strL, List.take_of_length_le (by rw [bs_len]; omega)])
      have hse : (s.extract 1 s.size).size ≤ 1000000 := by rw [ByteArray.size_extract]; omega
      obtain ⟨y, hy⟩ : ∃ y, contOk (bs (s.extract 1 s.size)) = y := ⟨_, rfl⟩
      have HY := hid hy
      have HO := hid (show isFile (bs s) = y by rw [hF, ← hy, HE.out]; simp [hc])
      have HSE := hid hse
      clear hy hx hcons hF hse
      cases y
      · go_enter Tryz.func79, Tryz.ntmps79
        go_wp2_with (go_at_call 102; refine (spec_ContentValid_c _ _ HSE.out).mono ?_; rw [HY.out]; rintro e w' ⟨rfl, rfl⟩)
        go_ret2
        exact ⟨⟨_, by rw [HO.out]; rfl⟩, rfl⟩
      · go_enter Tryz.func79, Tryz.ntmps79
        go_wp2_with (go_at_call 102; refine (spec_ContentValid_c _ _ HSE.out).mono ?_; rw [HY.out]; rintro e w' ⟨rfl, rfl⟩)
        go_ret2
        exact ⟨⟨_, by rw [HO.out]; rfl⟩, rfl⟩
    · have hd0 : ¬ (s[0].toNat : Int) = 102 := by
        intro e
        have : s[0].toNat = 102 := by omega
        exact hc (UInt8.toNat_inj.1 this)
      have HO := hid (show isFile (bs s) = false by rw [hF]; simp [hc])
      clear hx hcons hF hc
      go_enter Tryz.func79, Tryz.ntmps79
      go_wp2
      go_ret2
      exact ⟨⟨_, by rw [HO.out]; rfl⟩, rfl⟩
  · have hem : s.toList.isEmpty = true := by
      rw [ByteArray.toList_eq]
      have : (bs s).length = 0 := by rw [bs_len]; omega
      unfold bs at this
      rw [List.length_eq_zero_iff.1 this]; rfl
    have HO := hid (show isFile (bs s) = false by
      have : bs s = [] := List.length_eq_zero_iff.1 (by rw [bs_len]; omega)
      rw [this]; rfl)
    clear h0
    go_enter Tryz.func79, Tryz.ntmps79
    go_wp2
    go_ret2
    exact ⟨⟨_, by rw [HO.out]; rfl⟩, rfl⟩

set_option maxHeartbeats 2000000 in
set_option maxRecDepth 100000 in
theorem spec_TextKind_c (s : ByteArray) (w : World) (hs : s.size ≤ 1000000) :
    Calls Tryz.prog 153 #[.string s] w fun e w' => e = .returned (.int .i64 (kindOf (bs s))) ∧ Below w.heap.size w w' := by
  obtain ⟨x, hx⟩ : ∃ x, isFile (bs s) = x := ⟨_, rfl⟩
  obtain ⟨y, hy⟩ : ∃ y, (readFolder (bs s)).isSome = y := ⟨_, rfl⟩
  have HX := hid hx
  have HY := hid hy
  have HO := hid (show kindOf (bs s) = if x = true then 1 else if y = true then 2 else 0 by unfold kindOf; rw [hx, hy])
  clear hx hy
  go_enter Tryz.func153, Tryz.ntmps153
  go_wp2_with (go_at_call 79; refine (spec_ReadFile_c s _ hs).mono ?_; rw [HX.out]; rintro e w' ⟨⟨t, rfl⟩, rfl⟩)
  refine (spec_ReadFolder_c s _ hs).mono ?_
  rw [HY.out]
  rintro e w1 ⟨lv, rfl, _, b1⟩
  cases x
  · cases y
    · go_wp2
      go_ret
      exact ⟨by rw [HO.out]; rfl, b1⟩
    · go_wp2
      go_ret
      exact ⟨by rw [HO.out]; rfl, b1⟩
  · go_wp2
    go_ret
    exact ⟨by rw [HO.out]; rfl, b1⟩

/-- What is joined of the first words. -/
theorem join_succ {ws : List ByteArray} {k : Nat} {x : ByteArray} (h : ws[k]? = some x) : (ws.take (k + 1)).flatMap (fun y => 47 :: bs y) = (ws.take k).flatMap (fun y => 47 :: bs y) ++ (47 :: bs x) := by
  rw [take_snoc' h]; simp
theorem join_bad {ws : List ByteArray} {k : Nat} {x : ByteArray} (h : ws[k]? = some x) (hx : wordOk (bs x) = false) : joinP (ws.map bs) = [] := by
  have hm := List.mem_of_getElem? h
  unfold joinP
  rw [if_neg (fun e => by simp at e; rw [e] at hm; simp at hm), if_neg]
  rintro ⟨_, h2⟩
  have := List.all_eq_true.1 h2 (bs x) (List.mem_map_of_mem hm)
  rw [hx] at this; cases this
theorem join_long {ws : List ByteArray} (h : 3 < ws.length) : joinP (ws.map bs) = [] := by
  unfold joinP
  rw [if_neg (fun e => by simp at e; rw [e] at h; simp at h), if_neg]
  rintro ⟨h1, _⟩
  simp at h1; omega
theorem join_all {ws : List ByteArray} (h0 : ws ≠ []) (h3 : ws.length ≤ 3) (h : ∀ x ∈ ws, wordOk (bs x) = true) : joinP (ws.map bs) = ws.flatMap (fun y => 47 :: bs y) := by
  unfold joinP
  rw [if_neg (by simpa using h0), if_pos ⟨by simpa using h3, by simp [List.all_eq_true]; exact h⟩, List.flatMap_map]

set_option maxHeartbeats 2000000 in
set_option maxRecDepth 100000 in
theorem spec_JoinPath_c (v : Value) (ws : List ByteArray) (w : World) (h : Strs w w.heap.size v ws) (hx0 : ∀ x ∈ ws, x.size ≤ 1000) (hl : ws.length ≤ 1000) :
    Calls Tryz.prog 76 #[v] w fun e w' => e = .returned (.string (strL (joinP (ws.map bs)))) ∧ w = w' := by
  obtain ⟨n, hn⟩ : ∃ n, ws.length = n := ⟨_, rfl⟩
  obtain ⟨a, c, rfl, _, _, h3⟩ := h.strs hn
  rw [hn] at hl
  have HN := hid hn
  have HX := hid hx0
  clear hn h hx0
  go_enter Tryz.func76, Tryz.ntmps76
  go_wp2
  go_loop [3, 4] (fun tv i => ∃ (k : Nat) (T : List UInt8), k ≤ n ∧ i = .int .i64 k ∧ tv = .string (strL T) ∧ (0 < k → n ≤ 3) ∧ T.length ≤ 1001 * k ∧ Hid (T = (ws.take k).flatMap (fun y => 47 :: bs y)) ∧ Hid (∀ x ∈ ws.take k, wordOk (bs x) = true)) (fun _ i => n - (intOf i).toNat)
  case atStart => exact ⟨0, [], Nat.zero_le _, rfl, rfl, fun h => absurd h (by omega), by simp, rfl, hid (by simp)⟩
  case round =>
    obtain ⟨k, T, hk, rfl, rfl, hk3, hTl, hT, hall⟩ := hrel
    by_cases hlt : k < n
    · obtain ⟨b, o, t, rfl, hbl, hx, k0⟩ := h3 k hlt
      have hts := HX.out _ (List.mem_of_getElem? hx.out)
      obtain ⟨y, hy⟩ : ∃ y, wordOk (bs t) = y := ⟨_, rfl⟩
      have HY := hid hy
      clear h3 hk3
      cases y
      · have HO := hid (join_bad hx.out hy)
        clear hy
        go_wp2_with (go_at_call 134; refine (spec_WordValid_c t _ (by omega)).mono ?_; rw [HY.out]; rintro e w' ⟨rfl, rfl⟩)
        go_ret
        exact ⟨by rw [HO.out]; rfl, rfl⟩
      · clear hy
        by_cases hn3 : 3 < n
        · have HO := hid (join_long (ws := ws) (by rw [HN.out]; exact hn3))
          go_wp2_with (go_at_call 134; refine (spec_WordValid_c t _ (by omega)).mono ?_; rw [HY.out]; rintro e w' ⟨rfl, rfl⟩)
          go_ret
          exact ⟨by rw [HO.out]; rfl, rfl⟩
        · have hs0 := strL_size T
          have e1 : (⟨#[47]⟩ : ByteArray).size = 1 := rfl
          have hq1 : (strL T).size + (⟨#[47]⟩ : ByteArray).size ≤ 9223372036854775807 := by omega
          have hq2 : (strL T ++ ⟨#[47]⟩ : ByteArray).size + t.size ≤ 9223372036854775807 := by rw [ByteArray.size_append]; omega
          have HS := hid (show strL T ++ ⟨#[47]⟩ ++ t = strL (T ++ (47 :: bs t)) by
            have e2 : (⟨#[47]⟩ : ByteArray) = strL [47] := rfl
            rw [e2]
            conv => lhs; rw [← strL_bs t]
            rw [strL_append, strL_append]; simp)
          have HT2 := hid (show T ++ (47 :: bs t) = (ws.take (k + 1)).flatMap (fun y => 47 :: bs y) by rw [join_succ hx.out, hT.out])
          have HL2 := hid (show (T ++ (47 :: bs t)).length ≤ 1001 * (k + 1) by have := bs_len t; simp; omega)
          have HA2 := hid (show ∀ x ∈ ws.take (k + 1), wordOk (bs x) = true from fun x hx' => by
            rw [take_snoc' hx.out] at hx'
            rcases List.mem_append.1 hx' with h1 | h1
            · exact hall.out x h1
            · obtain rfl : x = t := by simpa using h1
              exact HY.out)
          go_wp2_with (go_at_call 134; refine (spec_WordValid_c t _ (by omega)).mono ?_; rw [HY.out]; rintro e w' ⟨rfl, rfl⟩)
          go_round
          case rel => exact ⟨k + 1, _, by omega, by go_num, congrArg Value.string HS.out, fun _ => by omega, HL2.out, HT2, HA2⟩
          case measure => simp [intOf]; omega
    · obtain rfl : k = n := by omega
      rcases Nat.eq_zero_or_pos k with h0 | h0
      · subst h0
        have hw0 : ws = [] := List.length_eq_zero_iff.1 HN.out
        have hT0 : T = [] := by rw [hT.out]; simp
        have HO := hid (show joinP (ws.map bs) = [47] by rw [hw0]; rfl)
        subst hT0
        have hem := strL_emp
        clear hw0 h3
        go_wp2
        go_ret
        exact ⟨by rw [HO.out]; rfl, rfl⟩
      · have HO := hid (show joinP (ws.map bs) = T by
          rw [hT.out, take_all HN.out (Nat.le_refl _)]
          exact join_all (fun e => by rw [e] at HN; have := HN.out; simp at this; omega) (by rw [HN.out]; exact hk3 h0) (by have := hall.out; rwa [take_all HN.out (Nat.le_refl _)] at this))
        have hTne2 : (strL T).toList.isEmpty = false := strL_nem (by
          rw [hT.out, take_all HN.out (Nat.le_refl _)]
          cases ws with
          | nil => have := HN.out; simp at this; omega
          | cons x r => simp)
        clear h3
        go_wp2
        go_ret
        exact ⟨by rw [HO.out]; rfl, rfl⟩

end Go.Proofs.YtachfmlfmpaddaaGreatDoor

/- Entries of folders as maps from names to prints: put, dropped, put again. No program in sight. -/
namespace Go.Proofs.YtachfmlfmpaddaaGreatDoor
open Go.RowKit

abbrev Asc (l : List Ent) : Prop := l.Pairwise (fun a b => ltN a.name b.name = true)
theorem ltN_asym {a b : ByteArray} (h : ltN a b = true) : ltN b a = false := by
  cases hb : ltN b a
  · rfl
  · have := ltN_trans h hb; rw [ltN_irr] at this; cases this
theorem ent_ext : ∀ (a b : List Ent), Asc a → Asc b → (∀ x, x ∈ a ↔ x ∈ b) → a = b
  | [], [], _, _, _ => rfl
  | [], q :: u, _, _, h => by have := (h q).2 (by simp); simp at this
  | p :: r, [], _, _, h => by have := (h p).1 (by simp); simp at this
  | p :: r, q :: u, ha, hb, h => by
    obtain ⟨a1, a2⟩ := List.pairwise_cons.1 ha
    obtain ⟨b1, b2⟩ := List.pairwise_cons.1 hb
    have e : p = q := by
      rcases List.mem_cons.1 ((h p).1 (by simp)) with e | e
      · exact e
      · rcases List.mem_cons.1 ((h q).2 (by simp)) with e' | e'
        · exact e'.symm
        · have := ltN_asym (b1 p e); rw [a1 q e'] at this; cases this
    subst e
    rw [ent_ext r u a2 b2 (fun x => ⟨fun hx => by
      rcases List.mem_cons.1 ((h x).1 (List.mem_cons_of_mem _ hx)) with e | e
      · subst e; have := a1 x hx; rw [ltN_irr] at this; cases this
      · exact e, fun hx => by
      rcases List.mem_cons.1 ((h x).2 (List.mem_cons_of_mem _ hx)) with e | e
      · subst e; have := b1 x hx; rw [ltN_irr] at this; cases this
      · exact e⟩)]
theorem asc_name {l : List Ent} (h : Asc l) {i j : Nat} {x y : Ent} (hi : l[i]? = some x) (hj : l[j]? = some y) (hij : i < j) : ltN x.name y.name = true := by
  obtain ⟨h1, e1⟩ := List.getElem?_eq_some_iff.1 hi
  obtain ⟨h2, e2⟩ := List.getElem?_eq_some_iff.1 hj
  rw [← e1, ← e2]
  exact List.pairwise_iff_getElem.1 h i j h1 h2 hij
theorem entAt_from {l : List Ent} (h : Asc l) {nm : ByteArray} {j : Nat} {x : Ent} (hj : entAt l nm ≤ j) (hx : l[j]? = some x) : ltN x.name nm = false := by
  have hlt := (List.getElem?_eq_some_iff.1 hx).1
  have key : ∀ (l : List Ent) (y : Ent), l[entAt l nm]? = some y → ltN y.name nm = false := by
    intro l
    induction l with
    | nil => intro y hy; simp at hy
    | cons p r ih =>
      intro y hy
      unfold entAt at hy
      rw [List.takeWhile_cons] at hy
      by_cases hp : ltN p.name nm = true
      · rw [if_pos hp] at hy
        exact ih y (by simpa [entAt] using hy)
      · rw [if_neg hp] at hy
        simp at hy; subst hy; simpa using hp
  obtain ⟨y, hy⟩ : ∃ y, l[entAt l nm]? = some y := ⟨l[entAt l nm]'(by omega), List.getElem?_eq_getElem _⟩
  have h1 := key l y hy
  rcases Nat.lt_or_eq_of_le hj with h2 | h2
  · have h3 := asc_name h hy hx h2
    cases h4 : ltN x.name nm
    · rfl
    · have := ltN_trans h3 h4; rw [h1] at this; cases this
  · rw [h2, hx] at hy
    rw [Option.some.inj hy]; exact h1
/-- The entries behind a name's place. -/
def behind (l : List Ent) (nm : ByteArray) : List Ent := if isNm l nm (entAt l nm) then l.drop (entAt l nm + 1) else l.drop (entAt l nm)
theorem isNm_iff {l : List Ent} {nm : ByteArray} {k : Nat} : isNm l nm k = true ↔ ∃ x, l[k]? = some x ∧ x.name = nm := by
  unfold isNm
  cases l[k]? with
  | none => simp
  | some x => simp
theorem front_lt {l : List Ent} {nm : ByteArray} {x : Ent} (hx : x ∈ l.take (entAt l nm)) : ltN x.name nm = true := by
  obtain ⟨j, hj, e⟩ := List.getElem_of_mem hx
  have hj' : j < entAt l nm := by simp at hj; omega
  refine entAt_below hj' (x := x) ?_
  have : (l.take (entAt l nm))[j]? = some x := by rw [List.getElem?_eq_getElem hj, e]
  rwa [List.getElem?_take, if_pos hj'] at this
theorem behind_gt {l : List Ent} (h : Asc l) {nm : ByteArray} {x : Ent} (hx : x ∈ behind l nm) : ltN nm x.name = true := by
  unfold behind at hx
  have tot : ∀ j, entAt l nm ≤ j → l[j]? = some x → x.name ≠ nm → ltN nm x.name = true := by
    intro j hj hg hne
    have := entAt_from h hj hg
    rcases ltN_tot nm x.name with h1 | h1 | h1
    · exact h1
    · exact absurd h1.symm hne
    · rw [this] at h1; cases h1
  split at hx
  · rename_i hi
    obtain ⟨y, hy, hyn⟩ := isNm_iff.1 hi
    obtain ⟨j, hj, e⟩ := List.getElem_of_mem hx
    have hg : l[entAt l nm + 1 + j]? = some x := by
      rw [← List.getElem?_drop, List.getElem?_eq_getElem hj, e]
    have := asc_name h hy hg (by omega)
    rwa [hyn] at this
  · rename_i hi
    obtain ⟨j, hj, e⟩ := List.getElem_of_mem hx
    have hg : l[entAt l nm + j]? = some x := by
      rw [← List.getElem?_drop, List.getElem?_eq_getElem hj, e]
    refine tot _ (by omega) hg ?_
    rintro rfl
    rcases Nat.eq_zero_or_pos j with h0 | h0
    · subst h0
      exact hi (isNm_iff.2 ⟨x, hg, rfl⟩)
    · obtain ⟨y, hy⟩ : ∃ y, l[entAt l x.name]? = some y := ⟨l[entAt l x.name]'(by have := (List.getElem?_eq_some_iff.1 hg).1; omega), List.getElem?_eq_getElem _⟩
      have h1 := asc_name h hy hg (by omega)
      rw [entAt_from h (Nat.le_refl _) hy] at h1; cases h1
theorem mem_parts {l : List Ent} {nm : ByteArray} {x : Ent} : x ∈ l ↔ (x ∈ l.take (entAt l nm) ∨ x ∈ behind l nm ∨ (x.name = nm ∧ l[entAt l nm]? = some x)) := by
  constructor
  · intro hx
    rw [← List.take_append_drop (entAt l nm) l, List.mem_append] at hx
    rcases hx with hx | hx
    · exact .inl hx
    · right
      unfold behind
      by_cases hi : isNm l nm (entAt l nm) = true
      · rw [if_pos hi]
        obtain ⟨y, hy, hyn⟩ := isNm_iff.1 hi
        obtain ⟨hlt, e⟩ := List.getElem?_eq_some_iff.1 hy
        rw [List.drop_eq_getElem_cons hlt, e] at hx
        rcases List.mem_cons.1 hx with rfl | hx
        · exact .inr ⟨hyn, hy⟩
        · exact .inl hx
      · rw [if_neg hi]
        exact .inl hx
  · rintro (h | h | ⟨_, h⟩)
    · exact List.mem_of_mem_take h
    · unfold behind at h
      split at h <;> exact List.mem_of_mem_drop h
    · exact List.mem_of_getElem? h
theorem putE_eq (l : List Ent) (e : Ent) : putE l e = l.take (entAt l e.name) ++ e :: behind l e.name := by
  unfold putE behind
  split <;> simp
theorem putE_asc {l : List Ent} (h : Asc l) (e : Ent) : Asc (putE l e) := by
  rw [putE_eq]
  unfold Asc
  rw [List.pairwise_append]
  have hbe : Asc (behind l e.name) := by
    unfold behind
    split <;> exact h.sublist (List.drop_sublist _ _)
  refine ⟨h.sublist (List.take_sublist _ _), List.Pairwise.cons (fun x hx => behind_gt h hx) hbe, ?_⟩
  intro a ha b hb
  have h1 := front_lt ha
  rcases List.mem_cons.1 hb with rfl | hb
  · exact h1
  · exact ltN_trans h1 (behind_gt h hb)
theorem putE_mem {l : List Ent} (h : Asc l) {e x : Ent} : x ∈ putE l e ↔ (x = e ∨ (x ∈ l ∧ x.name ≠ e.name)) := by
  rw [putE_eq, List.mem_append, List.mem_cons]
  constructor
  · rintro (h1 | h1 | h1)
    · right
      have h2 := front_lt h1
      exact ⟨List.mem_of_mem_take h1, fun e' => by rw [e', ltN_irr] at h2; cases h2⟩
    · exact .inl h1
    · right
      have h2 := behind_gt h h1
      exact ⟨(mem_parts (nm := e.name)).2 (.inr (.inl h1)), fun e' => by rw [e', ltN_irr] at h2; cases h2⟩
  · rintro (h1 | ⟨h1, h2⟩)
    · exact .inr (.inl h1)
    · rcases (mem_parts (nm := e.name)).1 h1 with h3 | h3 | ⟨h3, _⟩
      · exact .inl h3
      · exact .inr (.inr h3)
      · exact absurd h3 h2
theorem ents_asc {l : List Ent} (h : entsOk l = true) : Asc l := (ents_iff.1 h).2.2
theorem ents_ext {a b : List Ent} (ha : entsOk a = true) (hb : entsOk b = true) (h : ∀ x, x ∈ a ↔ x ∈ b) : a = b := ent_ext a b (ents_asc ha) (ents_asc hb) h
theorem putE_first {l : List Ent} {e : Ent} (h : entsOk (putE l e) = true) : firstOf (putE l e) e.name = some e.print := by
  rw [first_iff h, putE_eq]
  simp
theorem putE_other {l : List Ent} {e : Ent} (hl : entsOk l = true) (h : entsOk (putE l e) = true) {nm : ByteArray} (hne : nm ≠ e.name) : firstOf (putE l e) nm = firstOf l nm := by
  apply Option.ext
  intro c
  rw [first_iff h, first_iff hl, putE_mem (ents_asc hl)]
  constructor
  · rintro (h1 | h1)
    · rw [← h1] at hne; exact absurd rfl hne
    · exact h1.1
  · intro h1; exact .inr ⟨h1, hne⟩
theorem nodup_len {l l' : List Ent} (ha : Asc l) (hb : Asc l') (h : ∀ x, x ∈ l → ∃ y ∈ l', y.name = x.name) : l.length ≤ l'.length := by
  have key : ∀ (a b : List ByteArray), a.Pairwise (fun x y => ltN x y = true) → b.Pairwise (fun x y => ltN x y = true) → (∀ x ∈ a, x ∈ b) → a.length ≤ b.length := by
    intro a
    induction a with
    | nil => intros; simp
    | cons p r ih =>
      intro b ha hb hm
      obtain ⟨a1, a2⟩ := List.pairwise_cons.1 ha
      induction b with
      | nil => have := hm p (by simp); simp at this
      | cons q u ihb =>
        obtain ⟨b1, b2⟩ := List.pairwise_cons.1 hb
        by_cases e : p = q
        · subst e
          have := ih u a2 b2 (fun x hx => by
            rcases List.mem_cons.1 (hm x (List.mem_cons_of_mem _ hx)) with e | e
            · subst e; have := a1 x hx; rw [ltN_irr] at this; cases this
            · exact e)
          simp; omega
        · have hp : p ∈ u := by
            rcases List.mem_cons.1 (hm p (by simp)) with e' | e'
            · exact absurd e' e
            · exact e'
          have hq := b1 p hp
          have := ihb b2 (fun x hx => by
            rcases List.mem_cons.1 (hm x hx) with e' | e'
            · exfalso
              subst e'
              rcases List.mem_cons.1 hx with e2 | e2
              · exact e e2.symm
              · have := ltN_asym (a1 x e2); rw [hq] at this; cases this
            · exact e')
          simp at this ⊢; omega
  have hmap : ∀ {l : List Ent}, Asc l → (l.map (·.name)).Pairwise (fun x y => ltN x y = true) := fun h => List.pairwise_map.2 h
  have := key (l.map (·.name)) (l'.map (·.name)) (hmap ha) (hmap hb) (fun x hx => by
    obtain ⟨y, hy, rfl⟩ := List.mem_map.1 hx
    obtain ⟨z, hz, hzn⟩ := h y hy
    exact List.mem_map.2 ⟨z, hz, hzn⟩)
  simpa using this
/-- A name that is there gets another print. -/
theorem putE_there {l : List Ent} {nm : ByteArray} {c ch : Int} (hl : entsOk l = true) (hf : firstOf l nm = some c) (hp : pv ch = true) : entsOk (putE l ⟨nm, ch⟩) = true := by
  obtain ⟨h1, h2, h3⟩ := ents_iff.1 hl
  refine ents_iff.2 ⟨?_, ?_, putE_asc h3 _⟩
  · refine Nat.le_trans (nodup_len (putE_asc h3 _) h3 (fun x hx => ?_)) h1
    rcases (putE_mem h3).1 hx with rfl | h4
    · exact ⟨_, first_mem hf, rfl⟩
    · exact ⟨x, h4.1, rfl⟩
  · intro x hx
    rcases (putE_mem h3).1 hx with rfl | h4
    · exact entOk_iff.2 ⟨(first_pv hl hf).1, hp⟩
    · exact h2 x h4.1
theorem putEnt_on {l : List Ent} {e : Ent} (hl : entsOk l = true) (h : entsOk (putE l e) = true) : putEnt l e = (putE l e, true) := by unfold putEnt; rw [if_pos hl, if_pos h]
theorem putE_same {l : List Ent} {nm : ByteArray} {c : Int} (hl : entsOk l = true) (hf : firstOf l nm = some c) : putE l ⟨nm, c⟩ = l := by
  refine ents_ext (putE_there hl hf (first_pv hl hf).2) hl (fun x => ?_)
  rw [putE_mem (ents_asc hl)]
  constructor
  · rintro (rfl | h1)
    · exact first_mem hf
    · exact h1.1
  · intro hx
    by_cases hn : x.name = nm
    · left
      obtain ⟨a, b⟩ := x
      simp only at hn
      subst hn
      have := (first_iff hl).2 hx
      rw [hf] at this
      rw [Option.some.inj this]
    · exact .inr ⟨hx, hn⟩
theorem putE_twice {l : List Ent} {nm : ByteArray} {a b : Int} (hl : Asc l) : putE (putE l ⟨nm, a⟩) ⟨nm, b⟩ = putE l ⟨nm, b⟩ := by
  have h1 := putE_asc hl ⟨nm, a⟩
  refine ent_ext _ _ (putE_asc h1 _) (putE_asc hl _) (fun x => ?_)
  rw [putE_mem h1, putE_mem hl, putE_mem hl]
  constructor
  · rintro (h | ⟨rfl | h, h2⟩)
    · exact .inl h
    · exact absurd rfl h2
    · exact .inr h
  · rintro (h | h)
    · exact .inl h
    · exact .inr ⟨.inr h, h.2⟩
theorem putE_swap {l : List Ent} {a b : Ent} (hl : Asc l) (hne : a.name ≠ b.name) : putE (putE l a) b = putE (putE l b) a := by
  have h1 := putE_asc hl a
  have h2 := putE_asc hl b
  refine ent_ext _ _ (putE_asc h1 _) (putE_asc h2 _) (fun x => ?_)
  rw [putE_mem h1, putE_mem hl, putE_mem h2, putE_mem hl]
  constructor
  · rintro (rfl | ⟨rfl | h, h3⟩)
    · exact .inr ⟨.inl rfl, Ne.symm hne⟩
    · exact .inl rfl
    · exact .inr ⟨.inr ⟨h.1, h3⟩, h.2⟩
  · rintro (rfl | ⟨rfl | h, h3⟩)
    · exact .inr ⟨.inl rfl, hne⟩
    · exact .inl rfl
    · exact .inr ⟨.inr ⟨h.1, h3⟩, h.2⟩
theorem dropE_mem {l : List Ent} {nm : ByteArray} {x : Ent} : x ∈ dropE l nm ↔ x ∈ l ∧ x.name ≠ nm := by unfold dropE; simp
theorem dropE_ok {l : List Ent} (hl : entsOk l = true) (nm : ByteArray) : entsOk (dropE l nm) = true := by
  obtain ⟨h1, h2, h3⟩ := ents_iff.1 hl
  exact ents_iff.2 ⟨Nat.le_trans (dropE_len l nm) h1, fun x hx => h2 x (dropE_mem.1 hx).1, h3.sublist List.filter_sublist⟩
theorem dropEnt_on {l : List Ent} (hl : entsOk l = true) (nm : ByteArray) : (dropEnt l nm).1 = dropE l nm := by unfold dropEnt; rw [if_pos hl]
theorem dropE_first {l : List Ent} (hl : entsOk l = true) (nm : ByteArray) : firstOf (dropE l nm) nm = none := by
  cases hf : firstOf (dropE l nm) nm with
  | none => rfl
  | some c => exact absurd rfl (dropE_mem.1 (first_mem hf)).2
theorem putE_drop {l : List Ent} {nm : ByteArray} {c : Int} (hl : entsOk l = true) (hf : firstOf l nm = some c) : putE (dropE l nm) ⟨nm, c⟩ = l := by
  have h1 := ents_asc (dropE_ok hl nm)
  refine ent_ext _ _ (putE_asc h1 _) (ents_asc hl) (fun x => ?_)
  rw [putE_mem h1, dropE_mem]
  constructor
  · rintro (rfl | h)
    · exact first_mem hf
    · exact h.1.1
  · intro hx
    by_cases hn : x.name = nm
    · left
      obtain ⟨a, b⟩ := x
      simp only at hn
      subst hn
      have := (first_iff hl).2 hx
      rw [hf] at this
      rw [Option.some.inj this]
    · exact .inr ⟨⟨hx, hn⟩, hn⟩

/-! ### Drops -/
/-- What a drop puts, the last folder first, and the first folder's print; none if all are empty then. -/
def dropT : List (List Ent × ByteArray) → Option (List ByteArray × Int)
  | [] => none
  | (es, nm) :: r => match dropT r with
    | none => if dropE es nm = [] then none else some ([strL (folderText (dropE es nm))], printOf (folderText (dropE es nm)))
    | some (T, ch) => some (T ++ [strL (folderText (putEnt es ⟨nm, ch⟩).1)], printOf (folderText (putEnt es ⟨nm, ch⟩).1))
/-- The same, with the root's folder put in any case. -/
def dropTs (FZ : List (List Ent × ByteArray)) : List ByteArray × Int := (dropT FZ).getD ([strL (folderText [])], printOf (folderText []))
/-- Each folder has its name. -/
def Named (FZ : List (List Ent × ByteArray)) : Prop := ∀ x ∈ FZ, entsOk x.1 = true ∧ ∃ c, firstOf x.1 x.2 = some c
theorem printOf_pv {l : List UInt8} (h : textOk l = true) : pv (printOf l) = true := printOf_in h
theorem dropT_pv : ∀ {FZ : List (List Ent × ByteArray)} {T : List ByteArray} {p : Int}, Named FZ → dropT FZ = some (T, p) → pv p = true
  | [], T, p, _, h => by cases h
  | (es, nm) :: r, T, p, hn, h => by
    have ho := hn (es, nm) (by simp)
    have hr : Named r := fun x hx => hn x (by simp [hx])
    unfold dropT at h
    cases hd : dropT r with
    | none =>
      rw [hd] at h
      simp only [] at h
      split at h
      · cases h
      · simp only [Option.some.injEq, Prod.mk.injEq] at h
        rw [← h.2]
        exact printOf_pv (folder_textOk (dropE_ok ho.1 nm))
    | some TP =>
      obtain ⟨T', ch⟩ := TP
      rw [hd] at h
      simp only [Option.some.injEq, Prod.mk.injEq] at h
      obtain ⟨c, hc⟩ := ho.2
      have hch := dropT_pv hr hd
      have := putE_there ho.1 hc hch
      rw [← h.2, putEnt_on ho.1 this]
      exact printOf_pv (folder_textOk this)

def putsTo (s : List Pc) (es : List Ent) (R : Option (List Pc)) : Prop := match R with | none => (putS s (strL (folderText es))).2.2 = false | some s' => putS s (strL (folderText es)) = (s', printOf (folderText es), true)
theorem putS_all {s : List Pc} {es : List Ent} (hs : storeOk s = true) : putsTo s es (putAll s [strL (folderText es)]) := by
  rw [putAll_one]
  unfold putsTo
  by_cases hp : (putS s (strL (folderText es))).2.2 = true
  · rw [if_pos hp]
    have := (put_get hs hp).2.2.1
    rw [bs_strL] at this
    simp only []
    rw [← this, ← hp]
  · rw [if_neg hp]
    simpa using hp

/-- The folders and names on a way that leads somewhere. -/
noncomputable def wayD (s : List Pc) : Int → List ByteArray → List (List Ent × ByteArray)
  | _, [] => []
  | pr, nm :: r => (entsOf (textAt s pr), nm) :: wayD s ((firstOf (entsOf (textAt s pr)) nm).getD (-1)) r
theorem entsOf_ok (l : List UInt8) : entsOk (entsOf l) = true := by
  unfold entsOf
  cases h : readFolder l with
  | none => rfl
  | some es => exact (readFolder_some h).1
theorem walk_named : ∀ (parts : List ByteArray) (s : List Pc) (pr : Int), (walkAt s pr parts).2 = true → Named (wayD s pr parts)
  | [], s, pr, _ => fun x hx => by simp [wayD] at hx
  | nm :: r, s, pr, h => by
    unfold walkAt at h
    unfold wayD
    cases hf : firstOf (entsOf (textAt s pr)) nm with
    | none => rw [hf] at h; cases h
    | some ch =>
      rw [hf] at h
      intro x hx
      rcases List.mem_cons.1 hx with rfl | hx
      · exact ⟨entsOf_ok _, ch, hf⟩
      · exact walk_named r s ch h x hx
theorem wayD_len : ∀ (parts : List ByteArray) (s : List Pc) (pr : Int), (wayD s pr parts).length = parts.length
  | [], _, _ => rfl
  | nm :: r, s, pr => by simp [wayD, wayD_len r]

theorem dropIn_eq {s : List Pc} (hs : storeOk s = true) : ∀ (parts : List ByteArray) (pr : Int), parts ≠ [] → Named (wayD s pr parts) →
    match dropT (wayD s pr parts) with
    | none => dropIn s pr parts = (s, -1, true)
    | some (T, p) => match putAll s T with
      | none => (dropIn s pr parts).2.2 = false
      | some s' => dropIn s pr parts = (s', p, true)
  | [], _, h, _ => absurd rfl h
  | nm :: rest, pr, _, hn => by
    have ho := hn (entsOf (textAt s pr), nm) (by simp [wayD])
    obtain ⟨c, hc⟩ := ho.2
    simp only at hc ho
    have hch : childOf (entsOf (textAt s pr)) nm = c := by rw [child_first ho.1, hc]; rfl
    have hc0 := (pv_iff.1 (first_pv ho.1 hc).2).1
    have hr : Named (wayD s c rest) := fun x hx => hn x (by simp only [wayD, hc, Option.getD_some, List.mem_cons]; exact .inr hx)
    have hwd : wayD s pr (nm :: rest) = (entsOf (textAt s pr), nm) :: wayD s c rest := by simp only [wayD, hc, Option.getD_some]
    rw [hwd]
    unfold dropT dropIn
    rw [hch, if_neg (show ¬ c < 0 by omega)]
    by_cases h0 : rest = []
    · subst h0
      rw [if_pos rfl]
      simp only [wayD, dropT]
      have hle : leftE (entsOf (textAt s pr)) nm (-1) = dropE (entsOf (textAt s pr)) nm := by unfold leftE; rw [if_neg (by omega), dropEnt_on ho.1]
      rw [hle]
      unfold dropEnd
      by_cases hd : dropE (entsOf (textAt s pr)) nm = []
      · rw [if_pos hd, if_pos hd]
      · rw [if_neg hd, if_neg hd]
        exact putS_all hs
    · rw [if_neg h0]
      have ih := dropIn_eq hs rest c h0 hr
      cases hd : dropT (wayD s c rest) with
      | none =>
        rw [hd] at ih
        simp only [] at ih ⊢
        rw [ih]
        simp only [Bool.true_eq_false, if_false]
        have hle : leftE (entsOf (textAt s pr)) nm (-1) = dropE (entsOf (textAt s pr)) nm := by unfold leftE; rw [if_neg (by omega), dropEnt_on ho.1]
        rw [hle]
        unfold dropEnd
        by_cases hde : dropE (entsOf (textAt s pr)) nm = []
        · rw [if_pos hde, if_pos hde]
        · rw [if_neg hde, if_neg hde]
          exact putS_all hs
      | some TP =>
        obtain ⟨T, p⟩ := TP
        rw [hd] at ih
        simp only [] at ih ⊢
        have hp := dropT_pv hr hd
        have hput := putE_there ho.1 hc hp
        have hle : leftE (entsOf (textAt s pr)) nm p = putE (entsOf (textAt s pr)) ⟨nm, p⟩ := by unfold leftE; rw [if_pos (pv_iff.1 hp).1, putEnt_on ho.1 hput]
        rw [putEnt_on ho.1 hput, putAll_append]
        cases hpa : putAll s T with
        | none =>
          rw [hpa] at ih
          simp only [] at ih
          rw [if_pos ih]
          rfl
        | some s1 =>
          rw [hpa] at ih
          simp only [] at ih
          rw [ih]
          simp only [Bool.true_eq_false, if_false, Option.bind_some]
          rw [hle]
          have hne : putE (entsOf (textAt s pr)) ⟨nm, p⟩ ≠ [] := by rw [putE_eq]; simp
          unfold dropEnd
          rw [if_neg hne]
          exact putS_all (putAll_le hs hpa).1

def droppedTo (R : List Pc × Int × Bool) (p : Int) (A : Option (List Pc)) : Prop := match A with | none => R.2.2 = false | some s' => R = (s', p, true)
/-- A drop: the way, and what is put on the way back. -/
noncomputable def dropOff (s : List Pc) (root : Int) (ws : List ByteArray) : Option (List Pc × Int) :=
  match putAll s (dropTs (wayD s root ws)).1 with
  | none => none
  | some s' => some (s', (dropTs (wayD s root ws)).2)
theorem dropAt_eq {s : List Pc} {root : Int} {path : List UInt8} {ws : List (List UInt8)} (hs : storeOk s = true) (hp : pathParts path = some ws) (h0 : ws ≠ []) (hw : (walkAt s root (ws.map strL)).2 = true) :
    dropAt s root path = match dropOff s root (ws.map strL) with | none => (s, root, false) | some (s', p) => (s', p, true) := by
  have hn := walk_named _ s root hw
  have hd := dropIn_eq hs (ws.map strL) root (by simpa using h0) hn
  have hto : droppedTo (dropTo s root (ws.map strL)) (dropTs (wayD s root (ws.map strL))).2 (putAll s (dropTs (wayD s root (ws.map strL))).1) := by
    unfold dropTs dropTo
    cases hdt : dropT (wayD s root (ws.map strL)) with
    | none =>
      rw [hdt] at hd
      simp only [] at hd
      rw [hd]
      simp only [Option.getD_none]
      rw [if_pos (show True ∧ (-1 : Int) < 0 from ⟨trivial, by omega⟩)]
      exact putS_all (es := []) hs
    | some TP =>
      obtain ⟨T, p⟩ := TP
      rw [hdt] at hd
      simp only [Option.getD_some] at hd ⊢
      have hpp := (pv_iff.1 (dropT_pv hn hdt)).1
      cases hpa : putAll s T with
      | none =>
        rw [hpa] at hd
        simp only [droppedTo] at hd ⊢
        rw [if_neg (by rw [hd]; simp), hd]
      | some s1 =>
        rw [hpa] at hd
        simp only [droppedTo] at hd ⊢
        rw [hd, if_neg (by simp; omega)]
  unfold dropAt
  rw [hp]
  simp only []
  rw [if_neg (fun h => h.elim (fun h => by rw [hs] at h; cases h) h0), if_neg (by rw [hw]; simp)]
  unfold dropOff
  cases hpa : putAll s (dropTs (wayD s root (ws.map strL))).1 with
  | none => rw [hpa] at hto; simp only [droppedTo] at hto ⊢; rw [if_pos hto]
  | some s1 => rw [hpa] at hto; simp only [droppedTo] at hto ⊢; rw [hto]; simp

end Go.Proofs.YtachfmlfmpaddaaGreatDoor

/- Walks: the prints that folders name; those that are missing. -/
namespace Go.Proofs.YtachfmlfmpaddaaGreatDoor
open Go.RowKit

noncomputable def prs (p : Pc) : List Int := (entsOf (bs p.text)).map (·.print)
noncomputable def named (l : List Pc) : List Int := l.flatMap prs
theorem entsOf_len (l : List UInt8) : (entsOf l).length ≤ 3 := by
  unfold entsOf
  cases h : readFolder l with
  | none => simp
  | some es => exact (ents_in (readFolder_some h).1).1
end Go.Proofs.YtachfmlfmpaddaaGreatDoor
