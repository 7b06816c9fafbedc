/- Walks and plain facts, joined: Wrt1, PutE, DropE, PcO, Store. -/
import Derived.Test.YtfdhaigmekmboaaMg2
import Derived.Test.YtfdhaigmekmboaaMg3
import Derived.Laws.CopyRow
import Derived.Lib.AppendZerosOnto
import Derived.Shelf.RegionOpenPlain
import Derived.Shelf.Spec.SlicesInsert
import Derived.Laws.ResultCell
import Derived.Handy
set_option linter.unusedVariables false

/- Walks: files' texts, joined paths, the reference's way. -/
namespace Go.Proofs.Ytfdhaigmekmboaa
open Go.RowKit

theorem strL_emp : (strL []).toList.isEmpty = true := by rw [ByteArray.toList_eq]; rfl
theorem strL_nem {T : List UInt8} (h : T ≠ []) : (strL T).toList.isEmpty = false := by
  rw [ByteArray.toList_eq]
  cases T with
  | nil => exact absurd rfl h
  | cons _ _ => rfl

set_option maxHeartbeats 2000000 in
set_option maxRecDepth 100000 in
theorem spec_ContentValid_c (s : ByteArray) (w : World) (hs : s.size ≤ 1000000) :
    Calls Try.prog 65 #[.string s] w fun e w' => e = .returned (.bool (contOk (bs s))) ∧ w = w' := by
  have hbl := bs_lenH s
  obtain ⟨y, hy⟩ : ∃ y, textOk (bs s) = y := ⟨_, rfl⟩
  have HY := hid hy
  have HO := hid (show contOk (bs s) = (y && decide (s.size ≤ 40)) by unfold contOk; rw [hy, hbl])
  clear hy
  go_enter Try.func65, Try.ntmps65
  go_wp2_with (go_at_call 40; refine (spec_TextValid_c s _ (by omega)).mono ?_; rw [HY.out]; rintro e w' ⟨rfl, rfl⟩)
  all_goals go_ret
  all_goals exact ⟨ret_b (by rw [HO.out]; simp_all; try omega), rfl⟩

set_option maxHeartbeats 2000000 in
set_option maxRecDepth 100000 in
theorem spec_FileText_c (s : ByteArray) (w : World) (hs : s.size ≤ 1000000) :
    Calls Try.prog 67 #[.string s] w fun e w' => e = .returned (.string (strL (fileText (bs s)))) ∧ w = w' := by
  cases hy : contOk (bs s)
  · have HO := hid (show fileText (bs s) = [] by unfold fileText; rw [hy]; rfl)
    have HY := hid hy
    clear hy
    go_enter Try.func67, Try.ntmps67
    go_wp2_with (go_at_call 65; refine (spec_ContentValid_c s _ hs).mono ?_; rw [HY.out]; rintro e w' ⟨rfl, rfl⟩)
    go_ret
    exact ⟨by rw [HO.out]; rfl, rfl⟩
  · have HO := hid (show strL (fileText (bs s)) = (⟨#[102]⟩ : ByteArray) ++ s by
      have e1 : (⟨#[102]⟩ : ByteArray) = strL [102] := rfl
      rw [e1]
      conv => rhs; rw [← strL_bs s]
      rw [strL_append]
      unfold fileText; rw [hy]; simp)
    have HY := hid hy
    have e1 : (⟨#[102]⟩ : ByteArray).size = 1 := rfl
    have hq : (⟨#[102]⟩ : ByteArray).size + s.size ≤ 9223372036854775807 := by omega
    clear hy
    go_enter Try.func67, Try.ntmps67
    go_wp2_with (go_at_call 65; refine (spec_ContentValid_c s _ hs).mono ?_; rw [HY.out]; rintro e w' ⟨rfl, rfl⟩)
    go_ret
    exact ⟨by rw [HO.out]; rfl, rfl⟩

set_option maxHeartbeats 2000000 in
set_option maxRecDepth 100000 in
theorem spec_ReadFile_c (s : ByteArray) (w : World) (hs : s.size ≤ 1000000) :
    Calls Try.prog 77 #[.string s] w fun e w' => (∃ t, e = .returned (.tuple #[.string t, .bool (isFile (bs s))])) ∧ w = w' := by
  by_cases h0 : 0 < s.size
  · have hx := bs_get s h0
    have hcons : bs s = s[0] :: (bs s).drop 1 := by
      cases hb : bs s with
      | nil => rw [hb] at hx; cases hx
      | cons a r => rw [hb] at hx; simp at hx; rw [hx]; rfl
    have hF : isFile (bs s) = (decide (s[0] = 102) && contOk ((bs s).drop 1)) := by rw [hcons]; rfl
    have hem : s.toList.isEmpty = false := by
      rw [ByteArray.toList_eq]
      cases hb : s.data.toList with
      | nil => have : (bs s).length = 0 := by unfold bs; rw [hb]; rfl
               rw [bs_len] at this; omega
      | cons _ _ => rfl
    by_cases hc : s[0] = 102
    · have hd0 : (s[0].toNat : Int) = 102 := by rw [hc]; rfl
      have HE := hid (show bs (s.extract 1 s.size) = (bs s).drop 1 by rw [ext_strL, bs_strL, List.take_of_length_le (by rw [bs_len]; omega)])
      have hse : (s.extract 1 s.size).size ≤ 1000000 := by rw [ByteArray.size_extract]; omega
      obtain ⟨y, hy⟩ : ∃ y, contOk (bs (s.extract 1 s.size)) = y := ⟨_, rfl⟩
      have HY := hid hy
      have HO := hid (show isFile (bs s) = y by rw [hF, ← hy, HE.out]; simp [hc])
      have HSE := hid hse
      clear hy hx hcons hF hse
      cases y
      · go_enter Try.func77, Try.ntmps77
        go_wp2_with (go_at_call 65; refine (spec_ContentValid_c _ _ HSE.out).mono ?_; rw [HY.out]; rintro e w' ⟨rfl, rfl⟩)
        go_ret2
        exact ⟨⟨_, by rw [HO.out]; rfl⟩, rfl⟩
      · go_enter Try.func77, Try.ntmps77
        go_wp2_with (go_at_call 65; refine (spec_ContentValid_c _ _ HSE.out).mono ?_; rw [HY.out]; rintro e w' ⟨rfl, rfl⟩)
        go_ret2
        exact ⟨⟨_, by rw [HO.out]; rfl⟩, rfl⟩
    · have hd0 : ¬ (s[0].toNat : Int) = 102 := by
        intro e
        have : s[0].toNat = 102 := by omega
        exact hc (UInt8.toNat_inj.1 this)
      have HO := hid (show isFile (bs s) = false by rw [hF]; simp [hc])
      clear hx hcons hF hc
      go_enter Try.func77, Try.ntmps77
      go_wp2
      go_ret2
      exact ⟨⟨_, by rw [HO.out]; rfl⟩, rfl⟩
  · have hem : s.toList.isEmpty = true := by
      rw [ByteArray.toList_eq]
      have : (bs s).length = 0 := by rw [bs_len]; omega
      unfold bs at this
      rw [List.length_eq_zero_iff.1 this]; rfl
    have HO := hid (show isFile (bs s) = false by
      have : bs s = [] := List.length_eq_zero_iff.1 (by rw [bs_len]; omega)
      rw [this]; rfl)
    clear h0
    go_enter Try.func77, Try.ntmps77
    go_wp2
    go_ret2
    exact ⟨⟨_, by rw [HO.out]; rfl⟩, rfl⟩

set_option maxHeartbeats 2000000 in
set_option maxRecDepth 100000 in
theorem spec_TextKind_c (s : ByteArray) (w : World) (hs : s.size ≤ 1000000) :
    Calls Try.prog 75 #[.string s] w fun e w' => e = .returned (.int .i64 (kindOf (bs s))) ∧ Below w.heap.size w w' := by
  obtain ⟨x, hx⟩ : ∃ x, isFile (bs s) = x := ⟨_, rfl⟩
  obtain ⟨y, hy⟩ : ∃ y, (readFolder (bs s)).isSome = y := ⟨_, rfl⟩
  have HX := hid hx
  have HY := hid hy
  have HO := hid (show kindOf (bs s) = if x = true then 1 else if y = true then 2 else 0 by unfold kindOf; rw [hx, hy])
  clear hx hy
  go_enter Try.func75, Try.ntmps75
  go_wp2_with (go_at_call 77; refine (spec_ReadFile_c s _ hs).mono ?_; rw [HX.out]; rintro e w' ⟨⟨t, rfl⟩, rfl⟩)
  refine (spec_ReadFolder_c s _ hs).mono ?_
  rw [HY.out]
  rintro e w1 ⟨lv, rfl, _, b1⟩
  cases x
  · cases y
    · go_wp2
      go_ret
      exact ⟨by rw [HO.out]; rfl, b1⟩
    · go_wp2
      go_ret
      exact ⟨by rw [HO.out]; rfl, b1⟩
  · go_wp2
    go_ret
    exact ⟨by rw [HO.out]; rfl, b1⟩

/-- What is joined of the first words. -/
theorem join_succ {ws : List ByteArray} {k : Nat} {x : ByteArray} (h : ws[k]? = some x) : (ws.take (k + 1)).flatMap (fun y => 47 :: bs y) = (ws.take k).flatMap (fun y => 47 :: bs y) ++ (47 :: bs x) := by
  rw [take_snoc' h]; simp
theorem join_bad {ws : List ByteArray} {k : Nat} {x : ByteArray} (h : ws[k]? = some x) (hx : wordOk (bs x) = false) : joinP (ws.map bs) = [] := by
  have hm := List.mem_of_getElem? h
  unfold joinP
  rw [if_neg (fun e => by simp at e; rw [e] at hm; simp at hm), if_neg]
  rintro ⟨_, h2⟩
  have := List.all_eq_true.1 h2 (bs x) (List.mem_map_of_mem hm)
  rw [hx] at this; cases this
theorem join_long {ws : List ByteArray} (h : 3 < ws.length) : joinP (ws.map bs) = [] := by
  unfold joinP
  rw [if_neg (fun e => by simp at e; rw [e] at h; simp at h), if_neg]
  rintro ⟨h1, _⟩
  simp at h1; omega
theorem join_all {ws : List ByteArray} (h0 : ws ≠ []) (h3 : ws.length ≤ 3) (h : ∀ x ∈ ws, wordOk (bs x) = true) : joinP (ws.map bs) = ws.flatMap (fun y => 47 :: bs y) := by
  unfold joinP
  rw [if_neg (by simpa using h0), if_pos ⟨by simpa using h3, by simp [List.all_eq_true]; exact h⟩, List.flatMap_map]

set_option maxHeartbeats 2000000 in
set_option maxRecDepth 100000 in
theorem spec_JoinPath_c (v : Value) (ws : List ByteArray) (w : World) (h : Strs w w.heap.size v ws) (hx0 : ∀ x ∈ ws, x.size ≤ 1000) (hl : ws.length ≤ 1000) :
    Calls Try.prog 71 #[v] w fun e w' => e = .returned (.string (strL (joinP (ws.map bs)))) ∧ w = w' := by
  obtain ⟨n, hn⟩ : ∃ n, ws.length = n := ⟨_, rfl⟩
  obtain ⟨a, c, rfl, _, _, h3⟩ := h.strs hn
  rw [hn] at hl
  have HN := hid hn
  have HX := hid hx0
  clear hn h hx0
  go_enter Try.func71, Try.ntmps71
  go_wp2
  go_loop [3, 4] (fun tv i => ∃ (k : Nat) (T : List UInt8), k ≤ n ∧ i = .int .i64 k ∧ tv = .string (strL T) ∧ (0 < k → n ≤ 3) ∧ T.length ≤ 1001 * k ∧ Hid (T = (ws.take k).flatMap (fun y => 47 :: bs y)) ∧ Hid (∀ x ∈ ws.take k, wordOk (bs x) = true)) (fun _ i => n - (intOf i).toNat)
  case atStart => exact ⟨0, [], Nat.zero_le _, rfl, rfl, fun h => absurd h (by omega), by simp, rfl, hid (by simp)⟩
  case round =>
    obtain ⟨k, T, hk, rfl, rfl, hk3, hTl, hT, hall⟩ := hrel
    by_cases hlt : k < n
    · obtain ⟨b, o, t, rfl, hbl, hx, k0⟩ := h3 k hlt
      have hts := HX.out _ (List.mem_of_getElem? hx.out)
      obtain ⟨y, hy⟩ : ∃ y, wordOk (bs t) = y := ⟨_, rfl⟩
      have HY := hid hy
      clear h3 hk3
      cases y
      · have HO := hid (join_bad hx.out hy)
        clear hy
        go_wp2_with (go_at_call 69; refine (spec_WordValid_c t _ (by omega)).mono ?_; rw [HY.out]; rintro e w' ⟨rfl, rfl⟩)
        go_ret
        exact ⟨by rw [HO.out]; rfl, rfl⟩
      · clear hy
        by_cases hn3 : 3 < n
        · have HO := hid (join_long (ws := ws) (by rw [HN.out]; exact hn3))
          go_wp2_with (go_at_call 69; refine (spec_WordValid_c t _ (by omega)).mono ?_; rw [HY.out]; rintro e w' ⟨rfl, rfl⟩)
          go_ret
          exact ⟨by rw [HO.out]; rfl, rfl⟩
        · have hs0 := strL_size T
          have e1 : (⟨#[47]⟩ : ByteArray).size = 1 := rfl
          have hq1 : (strL T).size + (⟨#[47]⟩ : ByteArray).size ≤ 9223372036854775807 := by omega
          have hq2 : (strL T ++ ⟨#[47]⟩ : ByteArray).size + t.size ≤ 9223372036854775807 := by rw [ByteArray.size_append]; omega
          have HS := hid (show strL T ++ ⟨#[47]⟩ ++ t = strL (T ++ (47 :: bs t)) by
            have e2 : (⟨#[47]⟩ : ByteArray) = strL [47] := rfl
            rw [e2]
            conv => lhs; rw [← strL_bs t]
            rw [strL_append, strL_append]; simp)
          have HT2 := hid (show T ++ (47 :: bs t) = (ws.take (k + 1)).flatMap (fun y => 47 :: bs y) by rw [join_succ hx.out, hT.out])
          have HL2 := hid (show (T ++ (47 :: bs t)).length ≤ 1001 * (k + 1) by have := bs_len t; simp; omega)
          have HA2 := hid (show ∀ x ∈ ws.take (k + 1), wordOk (bs x) = true from fun x hx' => by
            rw [take_snoc' hx.out] at hx'
            rcases List.mem_append.1 hx' with h1 | h1
            · exact hall.out x h1
            · obtain rfl : x = t := by simpa using h1
              exact HY.out)
          go_wp2_with (go_at_call 69; refine (spec_WordValid_c t _ (by omega)).mono ?_; rw [HY.out]; rintro e w' ⟨rfl, rfl⟩)
          go_round
          case rel => exact ⟨k + 1, _, by omega, by go_num, congrArg Value.string HS.out, fun _ => by omega, HL2.out, HT2, HA2⟩
          case measure => simp [intOf]; omega
    · obtain rfl : k = n := by omega
      rcases Nat.eq_zero_or_pos k with h0 | h0
      · subst h0
        have hw0 : ws = [] := List.length_eq_zero_iff.1 HN.out
        have hT0 : T = [] := by rw [hT.out]; simp
        have HO := hid (show joinP (ws.map bs) = [47] by rw [hw0]; rfl)
        subst hT0
        have hem := strL_emp
        clear hw0 h3
        go_wp2
        go_ret
        exact ⟨by rw [HO.out]; rfl, rfl⟩
      · have HO := hid (show joinP (ws.map bs) = T by
          rw [hT.out, take_all HN.out (Nat.le_refl _)]
          exact join_all (fun e => by rw [e] at HN; have := HN.out; simp at this; omega) (by rw [HN.out]; exact hk3 h0) (by have := hall.out; rwa [take_all HN.out (Nat.le_refl _)] at this))
        have hTne2 : (strL T).toList.isEmpty = false := strL_nem (by
          rw [hT.out, take_all HN.out (Nat.le_refl _)]
          cases ws with
          | nil => have := HN.out; simp at this; omega
          | cons x r => simp)
        clear h3
        go_wp2
        go_ret
        exact ⟨by rw [HO.out]; rfl, rfl⟩

end Go.Proofs.Ytfdhaigmekmboaa

/- Walks: the reference's entries that are put. -/
namespace Go.Proofs.Ytfdhaigmekmboaa
open Go.RowKit

theorem lit_rdE {w : World} {b : Nat} {e : Ent} (h : w.heap[b]? = some (.cells #[.string e.name, .int .i64 e.print] 78 (0, 0))) : Ents w w.heap.size (.slice (some ⟨b, 0, none⟩) 1 1) [e] := by
  refine ⟨_, _, rfl, by simp, by simp [maxLen], by simp, fun _ => ⟨b, 0, rfl, (Array.getElem?_eq_some_iff.1 h).1, fun j u hu => ?_⟩⟩
  rw [Nat.zero_add, cell_of_row w b j _ _ (0, 0) h]
  simpa using hu
theorem encE_one {xs : List Ent} : ∀ y ∈ xs, ∀ u ∈ encE y, u.oneCell' = true := by
  intro y _ u hu
  simp [encE] at hu
  rcases hu with rfl | rfl <;> rfl
theorem flatE_take (xs : List Ent) (i : Nat) : (xs.take i).flatMap encE = (xs.flatMap encE).take (i * 2) := by
  induction xs generalizing i with
  | nil => simp
  | cons x r ih =>
    cases i with
    | zero => simp
    | succ i =>
      rw [List.take_succ_cons, List.flatMap_cons, List.flatMap_cons, ih, show (i + 1) * 2 = i * 2 + 2 by omega]
      rfl
theorem flatE_drop (xs : List Ent) (i : Nat) : (xs.drop i).flatMap encE = (xs.flatMap encE).drop (i * 2) := by
  induction xs generalizing i with
  | nil => simp
  | cons x r ih =>
    cases i with
    | zero => simp
    | succ i =>
      rw [List.drop_succ_cons, List.flatMap_cons, ih, show (i + 1) * 2 = i * 2 + 2 by omega]
      rfl
theorem some_ne' {a b : Nat} (h : a ≠ b) : some a ≠ some b := fun e => h (Option.some.inj e)
def isEmpE (B : Nat) : Value → World → Prop := fun v w => ∃ b, v = .slice (some ⟨b, 0, none⟩) 0 0 ∧ B ≤ b ∧ w.heap[b]? = some (.cells #[] 78 (0, 0)) ∧ OwnE w B v []
def isOwnE (B : Nat) (xs : List Ent) : Value → World → Prop := fun v w => OwnE w B v xs
def isLitE (B : Nat) (e : Ent) : Value → World → Prop := fun v w => ∃ b, v = .slice (some ⟨b, 0, none⟩) 1 1 ∧ B ≤ b ∧ w.heap[b]? = some (.cells #[.string e.name, .int .i64 e.print] 78 (0, 0))
def isRdE (W0 : World) (xs : List Ent) : Value → World → Prop := fun v _ => Ents W0 W0.heap.size v xs
def peF (W0 : World) (sl : Value) (xs : List Ent) (k : Nat) (e : Ent) (rl : List Ent) : List (Value → World → Prop) :=
  [isEmpE W0.heap.size, isV sl, isV (.int .i64 k), isRdE W0 (xs.take k), isOwnE W0.heap.size ([] ++ xs.take k), isV (.agg #[.string e.name, .int .i64 e.print]), isLitE W0.heap.size e,
   isOwnE W0.heap.size ([] ++ xs.take k ++ [e]), isRdE W0 rl, isOwnE W0.heap.size ([] ++ xs.take k ++ [e] ++ rl), isOwnE W0.heap.size ([] ++ xs.take k ++ [e] ++ rl)]
/-- The appends use up what they append to, and the literal. -/
def peCons (j i : Nat) : Bool := (j == 4 && i == 0) || (j == 7 && (i == 4 || i == 6)) || (j == 9 && i == 7)
def peS (j : Nat) (w w' : World) : Prop := w = w' ∨ Below w.heap.size w w' ∨ (j = 4 ∧ ∃ b, w.heap[b]? = some (.cells #[] 78 (0, 0)) ∧ w.grownBy w' (Value.ownBlock (.slice (some ⟨b, 0, none⟩) 0 0))) ∨ j = 7 ∨
  (j = 9 ∧ ∃ (g : Nat) (cs : Array Value), w.heap[g]? = some (.cells cs 78 (0, 0)) ∧ 0 < cs.size ∧ w.grownBy w' (some g))
theorem own_rowE {w : World} {B : Nat} {v : Value} {xs : List Ent} (h : OwnE w B v xs) (h0 : 0 < xs.length) : ∃ (g : Nat) (cs : Array Value), v.ownBlock = some g ∧ w.heap[g]? = some (.cells cs 78 (0, 0)) ∧ 0 < cs.size := by
  rcases h.2 with ⟨_, h2⟩ | ⟨g, cap, cur, rfl, hb, hg, hnc, hcm, hcs, ht⟩
  · omega
  · exact ⟨g, cur, rfl, hg, by omega⟩
theorem own_far_empE {w w' : World} {B b : Nat} {v : Value} {xs : List Ent} (h : OwnE w B v xs) (hh : w.heap[b]? = some (.cells #[] 78 (0, 0))) (hg : w.grownBy w' (Value.ownBlock (.slice (some ⟨b, 0, none⟩) 0 0))) (h0 : 0 < xs.length) : OwnE w' B v xs := by
  obtain ⟨g, cs, hv, h1, h2⟩ := own_rowE h h0
  refine h.kept hg (.inr ?_)
  rw [hv]
  intro e
  have e2 : g = b := Option.some.inj e
  subst e2
  rw [hh] at h1
  simp at h1
  subst h1
  simp at h2

/-- The first so many of a row, and the rest. -/
theorem Rd.frontE {w : World} {B n c q : Nat} {a : Option Addr} {xs : List Ent} (h : Ents w B (.slice a n c) xs) (hn : xs.length = n) (hq : q ≤ n) : Ents w B (.slice a q c) (xs.take q) := by
  obtain ⟨a', c', hv, h1, h2, h3, h4⟩ := h
  simp only [Value.slice.injEq] at hv
  obtain ⟨rfl, rfl, rfl⟩ := hv
  refine ⟨a, c, by rw [List.length_take, Nat.min_eq_left hq], by rw [List.length_take]; omega, h2, by rw [flatE_take, List.length_take, h3, List.length_take, Nat.min_eq_left (by omega), Nat.min_eq_left hq], fun h0 => ?_⟩
  rw [List.length_take] at h0
  obtain ⟨b, o, rfl, hb, hat⟩ := h4 (by omega)
  refine ⟨b, o, rfl, hb, fun j u hu => hat j u ?_⟩
  rw [flatE_take, List.getElem?_take] at hu
  split at hu
  · exact hu
  · cases hu
theorem Rd.backE {w : World} {B n c q : Nat} {a : Option Addr} {xs : List Ent} (h : Ents w B (.slice a n c) xs) (hn : xs.length = n) (hq : q ≤ n) : Ents w B (.slice (if c = q then a else a.map (fun (x : Addr) => x.add (q * 2))) (n - q) (c - q)) (xs.drop q) := by
  obtain ⟨a', c', hv, h1, h2, h3, h4⟩ := h
  simp only [Value.slice.injEq] at hv
  obtain ⟨rfl, rfl, rfl⟩ := hv
  refine ⟨_, c - q, by rw [List.length_drop], by rw [List.length_drop]; omega, Nat.le_trans (Nat.sub_le _ _) h2, by rw [flatE_drop, List.length_drop, h3, List.length_drop, Nat.sub_mul], fun h0 => ?_⟩
  rw [List.length_drop] at h0
  obtain ⟨b, o, rfl, hb, hat⟩ := h4 (by omega)
  have hadd : (⟨b, o, none⟩ : Addr).add (q * 2) = ⟨b, o + q * 2, none⟩ := by unfold Addr.add; split <;> simp_all
  refine ⟨b, o + q * 2, by rw [if_neg (by omega)]; simp [hadd], hb, fun j u hu => ?_⟩
  rw [flatE_drop, List.getElem?_drop] at hu
  have := hat (q * 2 + j) u hu
  rwa [← Nat.add_assoc] at this

theorem str_eqE {u t : ByteArray} : (u.toList == t.toList) = decide (u = t) := by
  rw [Bool.eq_iff_iff, beq_iff_eq, decide_eq_true_iff, ByteArray.toList_eq, ByteArray.toList_eq]
  constructor
  · intro e; exact Go.WideShapes.bytes_inj e
  · rintro rfl; rfl
/-- The world ahead of a region, by a name. -/
theorem drew_out {P : Program} {C : Code} {Q : Exit → Act → World → Prop} {a : Act} {W : World} (W1 : World) (hz : ∃ q, W = W1.drewN q) (H : ∀ W0, (∃ q, W0 = W1.drewN q) → C.wp P Q a W0) : C.wp P Q a W := H W hz

set_option maxHeartbeats 2000000 in
set_option maxRecDepth 100000 in
theorem spec_PutEntry_c (v : Value) (xs : List Ent) (e : Ent) (w : World) (h : Ents w w.heap.size v xs) (hx0 : ∀ x ∈ xs, x.name.size ≤ 1048576) (hl0 : xs.length ≤ 1048570) (hes : e.name.size ≤ 1048576) :
    Calls Try.prog 74 #[v, .agg #[.string e.name, .int .i64 e.print]] w fun en w' => ∃ v', en = .returned (.tuple #[v', .bool (putEnt xs e).2]) ∧ OwnE w' w.heap.size v' (putEnt xs e).1 ∧ Below w.heap.size w w' := by
  obtain ⟨n, hn⟩ : ∃ n, xs.length = n := ⟨_, rfl⟩
  obtain ⟨a, c, rfl, hnc, hc63, _⟩ := h.ents hn
  have HN := hid hn
  have HX := hid hx0
  have HES := hid hes
  have HL := hid (show xs.length ≤ 1048576 by omega)
  rw [hn] at hl0
  have hbA : Below w.heap.size w (w.alloc (.cells #[.string e.name, .int .i64 e.print] 78)) := (Below.refl _ _).alloc (Nat.le_refl _) _
  have hA : Ents (w.alloc (.cells #[.string e.name, .int .i64 e.print] 78)) w.heap.size (.slice a n c) xs := h.below hbA (Nat.le_refl _)
  have hbx0 : (w.alloc (.cells #[.string e.name, .int .i64 e.print] 78)).heap[w.heap.size]? = some (.cells #[.string e.name, .int .i64 e.print] 78 (0, 0)) := heap_alloc_new w _
  clear h hes hx0 hn
  cases hok : entsOk xs
  · have HO := hid (show putEnt xs e = ([], false) by unfold putEnt; rw [hok]; rfl)
    have HK := hid hok
    have HA := hid hA
    clear hA hok hbx0
    go_enter Try.func74, Try.ntmps74
    go_wp2_with fail
    refine (spec_EntriesValid_c _ xs _ _ HA.out HX.out HL.out).mono ?_
    rw [HK.out]
    rintro e' w1 ⟨rfl, z, rfl⟩
    go_wp2
    go_ret2
    exact ⟨_, by rw [HO.out]; rfl, by rw [HO.out]; have h9 := (Own.made (enc := encE) (e := 78) (k := 2) (w.alloc (.cells #[.string e.name, .int .i64 e.print] 78)) hbA.size).drewN z; rw [show (w.alloc (.cells #[.string e.name, .int .i64 e.print] 78)).heap.size = w.heap.size + 1 by simp] at h9; exact h9, bl_drewN (hbA.alloc hbA.size _) z⟩
  have HK := hid hok
  obtain ⟨q, hq⟩ : ∃ q, entAt xs e.name = q := ⟨_, rfl⟩
  have HQ := hid hq
  have hqn := entAt_le xs e.name
  rw [hq, HN.out] at hqn
  have h3 := (ents_in hok).1
  rw [HN.out] at h3
  have HPX := hid (show ∀ x ∈ putE xs e, x.name.size ≤ 1048576 from fun x hx => by
    rcases (putE_mem (ents_asc hok)).1 hx with rfl | h1
    · exact HES.out
    · exact HX.out x h1.1)
  have HPL := hid (show (putE xs e).length ≤ 1048576 by have := putE_len xs e; have := HN.out; omega)
  obtain ⟨i0, hi0, hz0, hz1, hz2⟩ := info_parts info_ent
  have HA := hid hA
  clear hok hq hA
  go_enter Try.func74, Try.ntmps74
  go_wp2_with fail
  refine (spec_EntriesValid_c _ xs _ _ HA.out HX.out HL.out).mono ?_
  rw [HK.out]
  rintro e' w1 ⟨rfl, z, rfl⟩
  obtain ⟨W1, hW1⟩ : ∃ W1, W1 = (w.alloc (.cells #[.string e.name, .int .i64 e.print] 78)).drewN z := ⟨_, rfl⟩
  have d1 : Below w.heap.size w W1 := by rw [hW1]; exact bl_drewN hbA z
  have hbx1 : W1.heap[w.heap.size]? = some (.cells #[.string e.name, .int .i64 e.print] 78 (0, 0)) := by rw [hW1]; exact hbx0
  have h1 : Ents W1 w.heap.size (.slice a n c) xs := by rw [hW1]; exact HA.out.drewN z
  obtain ⟨a', c', hv0, _, _, h3'⟩ := h1.ents HN.out
  simp only [Value.slice.injEq] at hv0
  obtain ⟨e1, _, e2⟩ := hv0
  subst e1
  subst e2
  rw [← hW1]
  have H1 := hid h1
  have HBX := hid hbx1
  clear hW1 hbx0 HA hbA h1
  obtain ⟨x0, x1, _, _⟩ := two_cells_of hbx1
  clear hbx1
  go_wp2
  go_loopw [6] (fun i wr => ∃ k z' : Nat, k ≤ q ∧ i = .int .i64 k ∧ wr = W1.drewN z') (fun i _ => n - (intOf i).toNat)
  case atStart => exact ⟨0, 0, Nat.zero_le _, rfl, rfl⟩
  case round =>
    obtain ⟨k, z', hk, rfl, rfl⟩ := hrel
    by_cases hlt : k < q
    · obtain ⟨b, o, t, r, rfl, hbl, hx, k0, k1⟩ := h3' k (by omega)
      have hrp := entAt_below (l := xs) (nm := e.name) (by rw [HQ.out]; exact hlt) hx.out
      have hd1 : Go.Op.bytesLess t.toList e.name.toList = true := by rw [ltN_eq]; exact hrp
      have hd0 : decide (k < n) = true := by simp; omega
      have hkn : (k : Int) < n := by omega
      clear h3' hrp
      go_wp2
      go_quiet (fail)
      go_wp2
      go_roundw
      case rel => exact ⟨k + 1, _, by omega, by go_num, rfl⟩
      case measure => simp [intOf]; omega
    · obtain rfl : k = q := by omega
      have hq0 : (k : Int) ≤ n := by omega
      have hqc : (k : Int) ≤ c := by omega
      have hqc2 : (n : Int) ≤ c := by omega
      by_cases hkn : k < n
      · obtain ⟨b, o, t, r, rfl, hbl, hx, k0, k1⟩ := h3' k hkn
        have hge := entAt_from (ents_asc HK.out) (nm := e.name) (by rw [HQ.out]; exact Nat.le_refl k) hx.out
        simp only at hge
        have hd0 : decide (k < n) = true := by simp; omega
        have hd1 : Go.Op.bytesLess t.toList e.name.toList = false := by rw [ltN_eq]; exact hge
        have hkn' : (k : Int) < n := by omega
        have hs := str_eqE (u := t) (t := e.name)
        clear h3' hge
        by_cases hte : t = e.name
        · have hd2 : (t.toList == e.name.toList) = true := by rw [hs]; exact decide_eq_true hte
          have HIS := hid (show isNm xs e.name k = true from isNm_iff.2 ⟨_, hx.out, hte⟩)
          have HPE := hid (show xs.take k ++ [e] ++ xs.drop (k + 1) = putE xs e by rw [putE_eq, HQ.out]; unfold behind; rw [HQ.out, HIS.out]; simp)
          have hw1 : IntKind.i64.wrap ((k : Int) + 1) = ((k + 1 : Nat) : Int) := IntWalk.i64_in _ (by omega)
          have hk1 : ((k : Int) + 1).toNat = k + 1 := by omega
          have hq1 : (k : Int) + 1 ≤ n := by omega
          have hqc1 : (k : Int) + 1 ≤ c := by omega
          obtain ⟨ra, hra⟩ : ∃ ra : Option Addr, (if c = k + 1 then some ⟨b, o, none⟩ else some ⟨b, o + (k + 1) * 2, none⟩) = ra := ⟨_, rfl⟩
          clear hs hte
          go_wp2
          go_quiet (fail)
          go_wp2
          go_quiet (fail)
          go_wp2
          refine drew_out W1 (by first | exact ⟨_, rfl⟩ | exact ⟨_, World.drewN_drewN _ _ _⟩) ?_
          rintro W0 ⟨z0, hW0⟩
          have d0 : Below w.heap.size w W0 := by rw [hW0]; exact bl_drewN d1 _
          have hB0 : w.heap.size ≤ W0.heap.size := d0.size
          have HH : Hid (Ents W0 W0.heap.size (.slice (some ⟨b, o, none⟩) n c) xs) := by rw [hW0]; exact (H1.out.drewN _).more (by have := d1.size; simpa using this)
          have hbox : W0.heap[w.heap.size]? = some (.cells #[.string e.name, .int .i64 e.print] 78 (0, 0)) := by rw [hW0]; exact HBX.out
          have hlt0 := (Array.getElem?_eq_some_iff.1 hbox).1
          have hfr := HH.out.frontE HN.out (q := k) (by omega)
          have hbk := HH.out.backE HN.out (q := k + 1) (by omega)
          rw [show (if c = k + 1 then (some ⟨b, o, none⟩) else ((some ⟨b, o, none⟩) : Option Addr).map (fun (x : Addr) => x.add ((k + 1) * 2))) = ra by rw [← hra]; (split <;> simp [Addr.add])] at hbk
          refine wp_region_inv3d rfl (by kernel_rfl) (by kernel_rfl) (by kernel_rfl) (by kernel_rfl) (by simp) (fun _ w' => Below W0.heap.size W0 w') (fun j w' w'' => peS j w' w'') (fact (peF W0 (.slice (some ⟨b, o, none⟩) n c) xs k e (xs.drop (k + 1)))) peCons (Below.refl _ _).drew ?hF ?grd ?oo ?cg ?fin
          case hF =>
            intro j i v w' w'' hS hc hne hwt hdp hf
            have hi : i < 11 ∨ 11 ≤ i := by omega
            rcases hi with hi | hi
            · obtain rfl | rfl | rfl | rfl | rfl | rfl | rfl | rfl | rfl | rfl | rfl : i = 0 ∨ i = 1 ∨ i = 2 ∨ i = 3 ∨ i = 4 ∨ i = 5 ∨ i = 6 ∨ i = 7 ∨ i = 8 ∨ i = 9 ∨ i = 10 := by omega
              · rcases hS with rfl | hb | ⟨rfl, b, hh, hg⟩ | rfl | ⟨rfl, g, cs, hh, hs, hg⟩
                · exact hf
                · obtain ⟨b0, h1, h2, h3, h4⟩ := hf; exact ⟨b0, h1, h2, (hb.block b0 (Array.getElem?_eq_some_iff.1 h3).1).trans h3, h4.on hb⟩
                · simp [peCons] at hc
                · have h9 := hdp _ rfl ⟨4, .data⟩ (by simp) rfl; simp [peCons] at h9
                · obtain ⟨b0, h1, h2, h3, h4⟩ := hf
                  have hne' : b0 ≠ g := by rintro rfl; rw [h3] at hh; simp at hh; subst hh; simp at hs
                  exact ⟨b0, h1, h2, (hg.block b0 (Array.getElem?_eq_some_iff.1 h3).1 (some_ne' hne')).trans h3, h4.kept hg (.inr (by rw [h1]; exact some_ne' hne'))⟩
              · exact hf
              · exact hf
              · exact hf
              · rcases hS with rfl | hb | ⟨rfl, b, hh, hg⟩ | rfl | ⟨rfl, g, cs, hh, hs, hg⟩
                · exact hf
                · exact Own.on hf hb
                · exact absurd rfl hne
                · simp [peCons] at hc
                · have h9 := hdp _ rfl ⟨7, .data⟩ (by simp) rfl; simp [peCons] at h9
              · exact hf
              · rcases hS with rfl | hb | ⟨rfl, b, hh, hg⟩ | rfl | ⟨rfl, g, cs, hh, hs, hg⟩
                · exact hf
                · obtain ⟨b0, h1, h2, h3⟩ := hf; exact ⟨b0, h1, h2, (hb.block b0 (Array.getElem?_eq_some_iff.1 h3).1).trans h3⟩
                · obtain ⟨b0, h1, h2, h3⟩ := hf; exact ⟨b0, h1, h2, (hg.block b0 (Array.getElem?_eq_some_iff.1 h3).1 (some_ne' (by rintro rfl; rw [hh] at h3; simp at h3))).trans h3⟩
                · simp [peCons] at hc
                · have h9 := hdp _ rfl ⟨7, .data⟩ (by simp) rfl; simp [peCons] at h9
              · rcases hS with rfl | hb | ⟨rfl, b, hh, hg⟩ | rfl | ⟨rfl, g, cs, hh, hs, hg⟩
                · exact hf
                · exact Own.on hf hb
                · exact own_far_empE hf hh hg (by simp <;> omega)
                · exact absurd rfl hne
                · simp [peCons] at hc
              · exact hf
              · rcases hS with rfl | hb | ⟨rfl, b, hh, hg⟩ | rfl | ⟨rfl, g, cs, hh, hs, hg⟩
                · exact hf
                · exact Own.on hf hb
                · exact own_far_empE hf hh hg (by simp <;> omega)
                · exact absurd (hwt.symm.trans (c := true) (by kernel_rfl)) (by decide)
                · exact absurd rfl hne
              · rcases hS with rfl | hb | ⟨rfl, b, hh, hg⟩ | rfl | ⟨rfl, g, cs, hh, hs, hg⟩
                · exact hf
                · exact Own.on hf hb
                · exact own_far_empE hf hh hg (by simp <;> omega)
                · exact absurd (hwt.symm.trans (c := true) (by kernel_rfl)) (by decide)
                · exact absurd (hwt.symm.trans (c := true) (by kernel_rfl)) (by decide)
            · unfold fact at *; rw [List.getD_eq_getElem?_getD, List.getElem?_eq_none (by simpa [peF] using hi)]; trivial
          case grd =>
            intro i oo d bb hi hg v w' hf
            obtain ⟨hlt1, rfl⟩ := Array.getElem?_eq_some_iff.1 hi
            have hlt' : i < 11 := hlt1
            clear hi
            obtain rfl | rfl | rfl | rfl | rfl | rfl | rfl | rfl | rfl | rfl | rfl : i = 0 ∨ i = 1 ∨ i = 2 ∨ i = 3 ∨ i = 4 ∨ i = 5 ∨ i = 6 ∨ i = 7 ∨ i = 8 ∨ i = 9 ∨ i = 10 := by omega
            all_goals simp at hg
          case cg =>
            intro i oo d bb hi hg j
            obtain ⟨hlt1, rfl⟩ := Array.getElem?_eq_some_iff.1 hi
            have hlt' : i < 11 := hlt1
            clear hi
            obtain rfl | rfl | rfl | rfl | rfl | rfl | rfl | rfl | rfl | rfl | rfl : i = 0 ∨ i = 1 ∨ i = 2 ∨ i = 3 ∨ i = 4 ∨ i = 5 ∨ i = 6 ∨ i = 7 ∨ i = 8 ∨ i = 9 ∨ i = 10 := by omega
            all_goals simp at hg
          case oo =>
            intro i oo hi qn a' wk hnn hj hb' hd
            obtain ⟨hlt1, rfl⟩ := Array.getElem?_eq_some_iff.1 hi
            have hlt' : i < 11 := hlt1
            clear hi
            obtain rfl | rfl | rfl | rfl | rfl | rfl | rfl | rfl | rfl | rfl | rfl : i = 0 ∨ i = 1 ∨ i = 2 ∨ i = 3 ∨ i = 4 ∨ i = 5 ∨ i = 6 ∨ i = 7 ∨ i = 8 ∨ i = 9 ∨ i = 10 := by omega
            · exact iv_val (v := .slice (some ⟨wk.heap.size, 0, none⟩) 0 0) (w' := wk.alloc (.cells #[] 78)) (by simp [execOp, go_sem, Result.andThen]) ⟨_, rfl, hj.alloc hj.size _, .inr (.inl ((Below.refl _ _).alloc (Nat.le_refl _) _)), (show isEmpE _ _ _ from ⟨_, rfl, hj.size, heap_alloc_new _ _, Own.made _ hj.size⟩)⟩
            · have b0 : a'.eval (.tmp 0) = .slice (some ⟨b, o, none⟩) n c := hb' 0 (by rfl); have c0 := ev_get b0
              exact iv_val (v := .slice (some ⟨b, o, none⟩) n c) (by simp [execOp, b0]) ⟨_, rfl, hj, .inl rfl, rfl⟩
            · have b6 : a'.eval (.tmp 6) = .int .i64 k := hb' 6 (by rfl); have c6 := ev_get b6
              exact iv_val (v := .int .i64 k) (by simp [execOp, b6]) ⟨_, rfl, hj, .inl rfl, rfl⟩
            · have v1 : a'.eval (.tmp 51) = .slice (some ⟨b, o, none⟩) n c := hd ⟨1, .data⟩ (by simp) rfl (by intro j _ hc; revert hc; unfold peCons; simp; try omega); have u1 := ev_get v1
              have v2 : a'.eval (.tmp 52) = .int .i64 k := hd ⟨2, .data⟩ (by simp) rfl (by intro j _ hc; revert hc; unfold peCons; simp; try omega); have u2 := ev_get v2
              exact iv_val (v := .slice (some ⟨b, o, none⟩) k c) (by simp [execOp, u1, u2, hqc, go_sem, Result.andThen]) ⟨_, rfl, hj, .inl rfl, (show isRdE W0 (xs.take k) _ wk from hfr)⟩
            · have e0 : isEmpE W0.heap.size (a'.eval (.tmp 50)) wk := hd ⟨0, .data⟩ (by simp) rfl (by intro j _ hc; revert hc; unfold peCons; simp; try omega)
              obtain ⟨b0, v0, hb0, hh0, o0⟩ := e0
              have e3 : isRdE W0 (xs.take k) (a'.eval (.tmp 53)) wk := hd ⟨3, .data⟩ (by simp) rfl (by intro j _ hc; revert hc; unfold peCons; simp; try omega)
              obtain ⟨i0, hi0, hz0, hz1, hz2⟩ := info_parts info_ent
              refine wp_cat (enc := encE) wk (.tmp 50) (.tmp 53) 72 rfl W0.heap.size 78 i0 _ 2 24 Try.underlying72 hi0 hz0 hz1 hz2 rfl (by decide) (a'.eval (.tmp 50)) (a'.eval (.tmp 53)) [] (xs.take k) rfl rfl o0 _ (Rd.below e3 hj (Nat.le_refl _)) encE_one (by have := HN.out; simp <;> omega) (by decide) hj.size ?_
              intro v' w' ho hg hg'
              rw [v0] at hg
              exact ⟨_, rfl, hj.grown hg hj.size (fun g hg1 => by simp [Value.ownBlock] at hg1; omega), .inr (.inr (.inl ⟨rfl, b0, hh0, hg⟩)), (show isOwnE _ _ _ _ from ho)⟩
            · have b3 : a'.eval (.tmp 3) = .pointer (some ⟨w.heap.size, 0, none⟩) := hb' 3 (by rfl); have c3 := ev_get b3
              obtain ⟨x0, x1, _, _⟩ := two_cells_of ((hj.block _ hlt0).trans hbox)
              exact iv_val (v := .agg #[.string e.name, .int .i64 e.print]) (by simp [execOp, c3, x0, x1, go_sem, Result.andThen]) ⟨_, rfl, hj, .inl rfl, rfl⟩
            · have v5 : a'.eval (.tmp 55) = .agg #[.string e.name, .int .i64 e.print] := hd ⟨5, .data⟩ (by simp) rfl (by intro j _ hc; revert hc; unfold peCons; simp; try omega); have u5 := ev_get v5
              exact iv_val (v := .slice (some ⟨wk.heap.size, 0, none⟩) 1 1) (w' := wk.alloc (.cells #[.string e.name, .int .i64 e.print] 78)) (by simp [execOp, u5, go_sem, Result.andThen]) ⟨_, rfl, hj.alloc hj.size _, .inr (.inl ((Below.refl _ _).alloc (Nat.le_refl _) _)), (show isLitE _ _ _ _ from ⟨_, rfl, hj.size, heap_alloc_new _ _⟩)⟩
            · have e4 : isOwnE W0.heap.size ([] ++ xs.take k) (a'.eval (.tmp 54)) wk := hd ⟨4, .data⟩ (by simp) rfl (by intro j _ hc; revert hc; unfold peCons; simp; try omega)
              have e8 : isLitE W0.heap.size e (a'.eval (.tmp 56)) wk := hd ⟨6, .data⟩ (by simp) rfl (by intro j _ hc; revert hc; unfold peCons; simp; try omega)
              obtain ⟨b8, v8, hb8, hh8⟩ := e8
              obtain ⟨i0, hi0, hz0, hz1, hz2⟩ := info_parts info_ent
              refine wp_cat (enc := encE) wk (.tmp 54) (.tmp 56) 72 rfl W0.heap.size 78 i0 _ 2 24 Try.underlying72 hi0 hz0 hz1 hz2 rfl (by decide) (a'.eval (.tmp 54)) (.slice (some ⟨b8, 0, none⟩) 1 1) ([] ++ xs.take k) [e] rfl v8 e4 _ (lit_rdE hh8) encE_one (by have := HN.out; simp <;> omega) (by decide) hj.size ?_
              intro v' w' ho hg hg'
              exact ⟨_, rfl, hj.grown hg hj.size (fun g hg1 => (Own.lt e4 g hg1).1), .inr (.inr (.inr (.inl rfl))), (show isOwnE _ _ _ _ from ho)⟩
            · have b7 : a'.eval (.tmp 7) = (.slice ra (n - (k + 1)) (c - (k + 1))) := hb' 7 (by rfl); have c7 := ev_get b7
              exact iv_val (v := (.slice ra (n - (k + 1)) (c - (k + 1)))) (by simp [execOp, b7]) ⟨_, rfl, hj, .inl rfl, (show isRdE W0 (xs.drop (k + 1)) _ wk from hbk)⟩
            · have e9 : isOwnE W0.heap.size ([] ++ xs.take k ++ [e]) (a'.eval (.tmp 57)) wk := hd ⟨7, .data⟩ (by simp) rfl (by intro j _ hc; revert hc; unfold peCons; simp; try omega)
              have e12 : isRdE W0 (xs.drop (k + 1)) (a'.eval (.tmp 58)) wk := hd ⟨8, .data⟩ (by simp) rfl (by intro j _ hc; revert hc; unfold peCons; simp; try omega)
              obtain ⟨i0, hi0, hz0, hz1, hz2⟩ := info_parts info_ent
              obtain ⟨g9, cs9, hg9, hh9, hs9⟩ := own_rowE e9 (by simp)
              refine wp_cat (enc := encE) wk (.tmp 57) (.tmp 58) 72 rfl W0.heap.size 78 i0 _ 2 24 Try.underlying72 hi0 hz0 hz1 hz2 rfl (by decide) (a'.eval (.tmp 57)) (a'.eval (.tmp 58)) ([] ++ xs.take k ++ [e]) (xs.drop (k + 1)) rfl rfl e9 _ (Rd.below e12 hj (Nat.le_refl _)) encE_one (by have := HN.out; simp <;> omega) (by decide) hj.size ?_
              intro v' w' ho hg hg'
              exact ⟨_, rfl, hj.grown hg hj.size (fun g hg1 => (Own.lt e9 g hg1).1), .inr (.inr (.inr (.inr ⟨rfl, g9, cs9, hh9, hs9, hg9 ▸ hg⟩))), (show isOwnE _ _ _ _ from ho)⟩
            · have e13 : isOwnE W0.heap.size ([] ++ xs.take k ++ [e] ++ (xs.drop (k + 1))) (a'.eval (.tmp 59)) wk := hd ⟨9, .data⟩ (by simp) rfl (by intro j _ hc; revert hc; unfold peCons; simp; try omega)
              exact iv_val (v := a'.eval (.tmp 59)) (by simp [execOp]) ⟨_, rfl, hj, .inl rfl, e13⟩
          case fin =>
            intro tm w4 hj hF
            have o15 : OwnE w4 W0.heap.size (tm.getD 8 undef) ([] ++ xs.take k ++ [e] ++ (xs.drop (k + 1))) := hF 10 _ rfl (fun j => by unfold peCons; simp)
            rw [List.nil_append] at o15
            clear hF
            simp only [refillL, List.setIfInBounds_toArray, List.set_cons_succ, List.set_cons_zero]
            obtain ⟨sv, hsv⟩ : ∃ sv, tm.getD 8 undef = sv := ⟨_, rfl⟩
            rw [hsv] at o15 ⊢
            rw [HPE.out] at o15
            clear hsv
            have HO15 := hid o15
            have HJ := hid hj
            clear o15 hj hfr hbk hbox
            cases hpe : entsOk (putE xs e)
            · have HO := hid (show putEnt xs e = (xs, false) by unfold putEnt; rw [HK.out, hpe]; rfl)
              have HPK := hid hpe
              clear hpe
              go_wp2_with fail
              refine (spec_EntriesValid_c _ (putE xs e) _ _ (Rd.of_own HO15.out) HPX.out HPL.out).mono ?_
              rw [HPK.out]
              rintro e' w5 ⟨rfl, z5, rfl⟩
              have d5 := bl_drewN HJ.out z5
              go_wp2_with (at_builtin; refine wpList_cat (enc := encE) (w0 := W0) rfl _ _ 72 rfl (w4.drewN z5).heap.size W0.heap.size 78 i0 _ 2 24 Try.underlying72 hi0 hz0 hz1 hz2 rfl (by decide) _ _ [] xs (Own.made _ (Nat.le_refl _)) _ ((HH.out.below d5 (Nat.le_refl _)).below ((Below.refl _ _).alloc (Nat.le_refl _) _) d5.size) (d5.alloc d5.size _) (by simp) d5.size rfl rfl encE_one (by have := HN.out; simp; omega) (by decide) ?_; intro v' w' hown' hb' hB' hg')
              go_ret2
              exact ⟨v', by rw [HO.out]; rfl, by rw [HO.out]; exact hown'.less (Nat.le_trans hB0 d5.size), bl_then d0 hb'⟩
            · have HO := hid (show putEnt xs e = (putE xs e, true) by unfold putEnt; rw [HK.out, hpe]; rfl)
              have HPK := hid hpe
              clear hpe
              go_wp2_with fail
              refine (spec_EntriesValid_c _ (putE xs e) _ _ (Rd.of_own HO15.out) HPX.out HPL.out).mono ?_
              rw [HPK.out]
              rintro e' w5 ⟨rfl, z5, rfl⟩
              go_wp2
              go_ret2
              exact ⟨sv, by rw [HO.out]; rfl, by rw [HO.out]; exact (HO15.out.less hB0).drewN z5, bl_then d0 (bl_drewN HJ.out z5)⟩
        · have hd2 : (t.toList == e.name.toList) = false := by rw [hs]; exact decide_eq_false hte
          have HIS := hid (show isNm xs e.name k = false by
            cases hh : isNm xs e.name k
            · rfl
            · obtain ⟨y, hy, hyn⟩ := isNm_iff.1 hh
              rw [hx.out] at hy
              obtain rfl := Option.some.inj hy
              exact absurd hyn hte)
          have HPE := hid (show xs.take k ++ [e] ++ xs.drop k = putE xs e by rw [putE_eq, HQ.out]; unfold behind; rw [HQ.out, HIS.out]; simp)
          clear hs hte
          go_wp2
          go_quiet (fail)
          go_wp2
          go_quiet (fail)
          go_wp2
          refine drew_out W1 (by first | exact ⟨_, rfl⟩ | exact ⟨_, World.drewN_drewN _ _ _⟩) ?_
          rintro W0 ⟨z0, hW0⟩
          have d0 : Below w.heap.size w W0 := by rw [hW0]; exact bl_drewN d1 _
          have hB0 : w.heap.size ≤ W0.heap.size := d0.size
          have HH : Hid (Ents W0 W0.heap.size (.slice (some ⟨b, o, none⟩) n c) xs) := by rw [hW0]; exact (H1.out.drewN _).more (by have := d1.size; simpa using this)
          have hbox : W0.heap[w.heap.size]? = some (.cells #[.string e.name, .int .i64 e.print] 78 (0, 0)) := by rw [hW0]; exact HBX.out
          have hlt0 := (Array.getElem?_eq_some_iff.1 hbox).1
          have hfr := HH.out.frontE HN.out (q := k) (by omega)
          have hbk := HH.out.backE HN.out (q := k) (by omega)
          rw [show (if c = k then (some ⟨b, o, none⟩) else ((some ⟨b, o, none⟩) : Option Addr).map (fun (x : Addr) => x.add ((k) * 2))) = some ⟨b, o + k * 2, none⟩ by rw [if_neg (by omega)]; simp [Addr.add]] at hbk
          refine wp_region_inv3d rfl (by kernel_rfl) (by kernel_rfl) (by kernel_rfl) (by kernel_rfl) (by simp) (fun _ w' => Below W0.heap.size W0 w') (fun j w' w'' => peS j w' w'') (fact (peF W0 (.slice (some ⟨b, o, none⟩) n c) xs k e (xs.drop k))) peCons (Below.refl _ _).drew ?hF ?grd ?oo ?cg ?fin
          case hF =>
            intro j i v w' w'' hS hc hne hwt hdp hf
            have hi : i < 11 ∨ 11 ≤ i := by omega
            rcases hi with hi | hi
            · obtain rfl | rfl | rfl | rfl | rfl | rfl | rfl | rfl | rfl | rfl | rfl : i = 0 ∨ i = 1 ∨ i = 2 ∨ i = 3 ∨ i = 4 ∨ i = 5 ∨ i = 6 ∨ i = 7 ∨ i = 8 ∨ i = 9 ∨ i = 10 := by omega
              · rcases hS with rfl | hb | ⟨rfl, b, hh, hg⟩ | rfl | ⟨rfl, g, cs, hh, hs, hg⟩
                · exact hf
                · obtain ⟨b0, h1, h2, h3, h4⟩ := hf; exact ⟨b0, h1, h2, (hb.block b0 (Array.getElem?_eq_some_iff.1 h3).1).trans h3, h4.on hb⟩
                · simp [peCons] at hc
                · have h9 := hdp _ rfl ⟨4, .data⟩ (by simp) rfl; simp [peCons] at h9
                · obtain ⟨b0, h1, h2, h3, h4⟩ := hf
                  have hne' : b0 ≠ g := by rintro rfl; rw [h3] at hh; simp at hh; subst hh; simp at hs
                  exact ⟨b0, h1, h2, (hg.block b0 (Array.getElem?_eq_some_iff.1 h3).1 (some_ne' hne')).trans h3, h4.kept hg (.inr (by rw [h1]; exact some_ne' hne'))⟩
              · exact hf
              · exact hf
              · exact hf
              · rcases hS with rfl | hb | ⟨rfl, b, hh, hg⟩ | rfl | ⟨rfl, g, cs, hh, hs, hg⟩
                · exact hf
                · exact Own.on hf hb
                · exact absurd rfl hne
                · simp [peCons] at hc
                · have h9 := hdp _ rfl ⟨7, .data⟩ (by simp) rfl; simp [peCons] at h9
              · exact hf
              · rcases hS with rfl | hb | ⟨rfl, b, hh, hg⟩ | rfl | ⟨rfl, g, cs, hh, hs, hg⟩
                · exact hf
                · obtain ⟨b0, h1, h2, h3⟩ := hf; exact ⟨b0, h1, h2, (hb.block b0 (Array.getElem?_eq_some_iff.1 h3).1).trans h3⟩
                · obtain ⟨b0, h1, h2, h3⟩ := hf; exact ⟨b0, h1, h2, (hg.block b0 (Array.getElem?_eq_some_iff.1 h3).1 (some_ne' (by rintro rfl; rw [hh] at h3; simp at h3))).trans h3⟩
                · simp [peCons] at hc
                · have h9 := hdp _ rfl ⟨7, .data⟩ (by simp) rfl; simp [peCons] at h9
              · rcases hS with rfl | hb | ⟨rfl, b, hh, hg⟩ | rfl | ⟨rfl, g, cs, hh, hs, hg⟩
                · exact hf
                · exact Own.on hf hb
                · exact own_far_empE hf hh hg (by simp <;> omega)
                · exact absurd rfl hne
                · simp [peCons] at hc
              · exact hf
              · rcases hS with rfl | hb | ⟨rfl, b, hh, hg⟩ | rfl | ⟨rfl, g, cs, hh, hs, hg⟩
                · exact hf
                · exact Own.on hf hb
                · exact own_far_empE hf hh hg (by simp <;> omega)
                · exact absurd (hwt.symm.trans (c := true) (by kernel_rfl)) (by decide)
                · exact absurd rfl hne
              · rcases hS with rfl | hb | ⟨rfl, b, hh, hg⟩ | rfl | ⟨rfl, g, cs, hh, hs, hg⟩
                · exact hf
                · exact Own.on hf hb
                · exact own_far_empE hf hh hg (by simp <;> omega)
                · exact absurd (hwt.symm.trans (c := true) (by kernel_rfl)) (by decide)
                · exact absurd (hwt.symm.trans (c := true) (by kernel_rfl)) (by decide)
            · unfold fact at *; rw [List.getD_eq_getElem?_getD, List.getElem?_eq_none (by simpa [peF] using hi)]; trivial
          case grd =>
            intro i oo d bb hi hg v w' hf
            obtain ⟨hlt1, rfl⟩ := Array.getElem?_eq_some_iff.1 hi
            have hlt' : i < 11 := hlt1
            clear hi
            obtain rfl | rfl | rfl | rfl | rfl | rfl | rfl | rfl | rfl | rfl | rfl : i = 0 ∨ i = 1 ∨ i = 2 ∨ i = 3 ∨ i = 4 ∨ i = 5 ∨ i = 6 ∨ i = 7 ∨ i = 8 ∨ i = 9 ∨ i = 10 := by omega
            all_goals simp at hg
          case cg =>
            intro i oo d bb hi hg j
            obtain ⟨hlt1, rfl⟩ := Array.getElem?_eq_some_iff.1 hi
            have hlt' : i < 11 := hlt1
            clear hi
            obtain rfl | rfl | rfl | rfl | rfl | rfl | rfl | rfl | rfl | rfl | rfl : i = 0 ∨ i = 1 ∨ i = 2 ∨ i = 3 ∨ i = 4 ∨ i = 5 ∨ i = 6 ∨ i = 7 ∨ i = 8 ∨ i = 9 ∨ i = 10 := by omega
            all_goals simp at hg
          case oo =>
            intro i oo hi qn a' wk hnn hj hb' hd
            obtain ⟨hlt1, rfl⟩ := Array.getElem?_eq_some_iff.1 hi
            have hlt' : i < 11 := hlt1
            clear hi
            obtain rfl | rfl | rfl | rfl | rfl | rfl | rfl | rfl | rfl | rfl | rfl : i = 0 ∨ i = 1 ∨ i = 2 ∨ i = 3 ∨ i = 4 ∨ i = 5 ∨ i = 6 ∨ i = 7 ∨ i = 8 ∨ i = 9 ∨ i = 10 := by omega
            · exact iv_val (v := .slice (some ⟨wk.heap.size, 0, none⟩) 0 0) (w' := wk.alloc (.cells #[] 78)) (by simp [execOp, go_sem, Result.andThen]) ⟨_, rfl, hj.alloc hj.size _, .inr (.inl ((Below.refl _ _).alloc (Nat.le_refl _) _)), (show isEmpE _ _ _ from ⟨_, rfl, hj.size, heap_alloc_new _ _, Own.made _ hj.size⟩)⟩
            · have b0 : a'.eval (.tmp 0) = .slice (some ⟨b, o, none⟩) n c := hb' 0 (by rfl); have c0 := ev_get b0
              exact iv_val (v := .slice (some ⟨b, o, none⟩) n c) (by simp [execOp, b0]) ⟨_, rfl, hj, .inl rfl, rfl⟩
            · have b6 : a'.eval (.tmp 6) = .int .i64 k := hb' 6 (by rfl); have c6 := ev_get b6
              exact iv_val (v := .int .i64 k) (by simp [execOp, b6]) ⟨_, rfl, hj, .inl rfl, rfl⟩
            · have v1 : a'.eval (.tmp 51) = .slice (some ⟨b, o, none⟩) n c := hd ⟨1, .data⟩ (by simp) rfl (by intro j _ hc; revert hc; unfold peCons; simp; try omega); have u1 := ev_get v1
              have v2 : a'.eval (.tmp 52) = .int .i64 k := hd ⟨2, .data⟩ (by simp) rfl (by intro j _ hc; revert hc; unfold peCons; simp; try omega); have u2 := ev_get v2
              exact iv_val (v := .slice (some ⟨b, o, none⟩) k c) (by simp [execOp, u1, u2, hqc, go_sem, Result.andThen]) ⟨_, rfl, hj, .inl rfl, (show isRdE W0 (xs.take k) _ wk from hfr)⟩
            · have e0 : isEmpE W0.heap.size (a'.eval (.tmp 50)) wk := hd ⟨0, .data⟩ (by simp) rfl (by intro j _ hc; revert hc; unfold peCons; simp; try omega)
              obtain ⟨b0, v0, hb0, hh0, o0⟩ := e0
              have e3 : isRdE W0 (xs.take k) (a'.eval (.tmp 53)) wk := hd ⟨3, .data⟩ (by simp) rfl (by intro j _ hc; revert hc; unfold peCons; simp; try omega)
              obtain ⟨i0, hi0, hz0, hz1, hz2⟩ := info_parts info_ent
              refine wp_cat (enc := encE) wk (.tmp 50) (.tmp 53) 72 rfl W0.heap.size 78 i0 _ 2 24 Try.underlying72 hi0 hz0 hz1 hz2 rfl (by decide) (a'.eval (.tmp 50)) (a'.eval (.tmp 53)) [] (xs.take k) rfl rfl o0 _ (Rd.below e3 hj (Nat.le_refl _)) encE_one (by have := HN.out; simp <;> omega) (by decide) hj.size ?_
              intro v' w' ho hg hg'
              rw [v0] at hg
              exact ⟨_, rfl, hj.grown hg hj.size (fun g hg1 => by simp [Value.ownBlock] at hg1; omega), .inr (.inr (.inl ⟨rfl, b0, hh0, hg⟩)), (show isOwnE _ _ _ _ from ho)⟩
            · have b3 : a'.eval (.tmp 3) = .pointer (some ⟨w.heap.size, 0, none⟩) := hb' 3 (by rfl); have c3 := ev_get b3
              obtain ⟨x0, x1, _, _⟩ := two_cells_of ((hj.block _ hlt0).trans hbox)
              exact iv_val (v := .agg #[.string e.name, .int .i64 e.print]) (by simp [execOp, c3, x0, x1, go_sem, Result.andThen]) ⟨_, rfl, hj, .inl rfl, rfl⟩
            · have v5 : a'.eval (.tmp 55) = .agg #[.string e.name, .int .i64 e.print] := hd ⟨5, .data⟩ (by simp) rfl (by intro j _ hc; revert hc; unfold peCons; simp; try omega); have u5 := ev_get v5
              exact iv_val (v := .slice (some ⟨wk.heap.size, 0, none⟩) 1 1) (w' := wk.alloc (.cells #[.string e.name, .int .i64 e.print] 78)) (by simp [execOp, u5, go_sem, Result.andThen]) ⟨_, rfl, hj.alloc hj.size _, .inr (.inl ((Below.refl _ _).alloc (Nat.le_refl _) _)), (show isLitE _ _ _ _ from ⟨_, rfl, hj.size, heap_alloc_new _ _⟩)⟩
            · have e4 : isOwnE W0.heap.size ([] ++ xs.take k) (a'.eval (.tmp 54)) wk := hd ⟨4, .data⟩ (by simp) rfl (by intro j _ hc; revert hc; unfold peCons; simp; try omega)
              have e8 : isLitE W0.heap.size e (a'.eval (.tmp 56)) wk := hd ⟨6, .data⟩ (by simp) rfl (by intro j _ hc; revert hc; unfold peCons; simp; try omega)
              obtain ⟨b8, v8, hb8, hh8⟩ := e8
              obtain ⟨i0, hi0, hz0, hz1, hz2⟩ := info_parts info_ent
              refine wp_cat (enc := encE) wk (.tmp 54) (.tmp 56) 72 rfl W0.heap.size 78 i0 _ 2 24 Try.underlying72 hi0 hz0 hz1 hz2 rfl (by decide) (a'.eval (.tmp 54)) (.slice (some ⟨b8, 0, none⟩) 1 1) ([] ++ xs.take k) [e] rfl v8 e4 _ (lit_rdE hh8) encE_one (by have := HN.out; simp <;> omega) (by decide) hj.size ?_
              intro v' w' ho hg hg'
              exact ⟨_, rfl, hj.grown hg hj.size (fun g hg1 => (Own.lt e4 g hg1).1), .inr (.inr (.inr (.inl rfl))), (show isOwnE _ _ _ _ from ho)⟩
            · have b7 : a'.eval (.tmp 7) = (.slice (some ⟨b, o + k * 2, none⟩) (n - k) (c - k)) := hb' 7 (by rfl); have c7 := ev_get b7
              exact iv_val (v := (.slice (some ⟨b, o + k * 2, none⟩) (n - k) (c - k))) (by simp [execOp, b7]) ⟨_, rfl, hj, .inl rfl, (show isRdE W0 (xs.drop k) _ wk from hbk)⟩
            · have e9 : isOwnE W0.heap.size ([] ++ xs.take k ++ [e]) (a'.eval (.tmp 57)) wk := hd ⟨7, .data⟩ (by simp) rfl (by intro j _ hc; revert hc; unfold peCons; simp; try omega)
              have e12 : isRdE W0 (xs.drop k) (a'.eval (.tmp 58)) wk := hd ⟨8, .data⟩ (by simp) rfl (by intro j _ hc; revert hc; unfold peCons; simp; try omega)
              obtain ⟨i0, hi0, hz0, hz1, hz2⟩ := info_parts info_ent
              obtain ⟨g9, cs9, hg9, hh9, hs9⟩ := own_rowE e9 (by simp)
              refine wp_cat (enc := encE) wk (.tmp 57) (.tmp 58) 72 rfl W0.heap.size 78 i0 _ 2 24 Try.underlying72 hi0 hz0 hz1 hz2 rfl (by decide) (a'.eval (.tmp 57)) (a'.eval (.tmp 58)) ([] ++ xs.take k ++ [e]) (xs.drop k) rfl rfl e9 _ (Rd.below e12 hj (Nat.le_refl _)) encE_one (by have := HN.out; simp <;> omega) (by decide) hj.size ?_
              intro v' w' ho hg hg'
              exact ⟨_, rfl, hj.grown hg hj.size (fun g hg1 => (Own.lt e9 g hg1).1), .inr (.inr (.inr (.inr ⟨rfl, g9, cs9, hh9, hs9, hg9 ▸ hg⟩))), (show isOwnE _ _ _ _ from ho)⟩
            · have e13 : isOwnE W0.heap.size ([] ++ xs.take k ++ [e] ++ (xs.drop k)) (a'.eval (.tmp 59)) wk := hd ⟨9, .data⟩ (by simp) rfl (by intro j _ hc; revert hc; unfold peCons; simp; try omega)
              exact iv_val (v := a'.eval (.tmp 59)) (by simp [execOp]) ⟨_, rfl, hj, .inl rfl, e13⟩
          case fin =>
            intro tm w4 hj hF
            have o15 : OwnE w4 W0.heap.size (tm.getD 8 undef) ([] ++ xs.take k ++ [e] ++ (xs.drop k)) := hF 10 _ rfl (fun j => by unfold peCons; simp)
            rw [List.nil_append] at o15
            clear hF
            simp only [refillL, List.setIfInBounds_toArray, List.set_cons_succ, List.set_cons_zero]
            obtain ⟨sv, hsv⟩ : ∃ sv, tm.getD 8 undef = sv := ⟨_, rfl⟩
            rw [hsv] at o15 ⊢
            rw [HPE.out] at o15
            clear hsv
            have HO15 := hid o15
            have HJ := hid hj
            clear o15 hj hfr hbk hbox
            cases hpe : entsOk (putE xs e)
            · have HO := hid (show putEnt xs e = (xs, false) by unfold putEnt; rw [HK.out, hpe]; rfl)
              have HPK := hid hpe
              clear hpe
              go_wp2_with fail
              refine (spec_EntriesValid_c _ (putE xs e) _ _ (Rd.of_own HO15.out) HPX.out HPL.out).mono ?_
              rw [HPK.out]
              rintro e' w5 ⟨rfl, z5, rfl⟩
              have d5 := bl_drewN HJ.out z5
              go_wp2_with (at_builtin; refine wpList_cat (enc := encE) (w0 := W0) rfl _ _ 72 rfl (w4.drewN z5).heap.size W0.heap.size 78 i0 _ 2 24 Try.underlying72 hi0 hz0 hz1 hz2 rfl (by decide) _ _ [] xs (Own.made _ (Nat.le_refl _)) _ ((HH.out.below d5 (Nat.le_refl _)).below ((Below.refl _ _).alloc (Nat.le_refl _) _) d5.size) (d5.alloc d5.size _) (by simp) d5.size rfl rfl encE_one (by have := HN.out; simp; omega) (by decide) ?_; intro v' w' hown' hb' hB' hg')
              go_ret2
              exact ⟨v', by rw [HO.out]; rfl, by rw [HO.out]; exact hown'.less (Nat.le_trans hB0 d5.size), bl_then d0 hb'⟩
            · have HO := hid (show putEnt xs e = (putE xs e, true) by unfold putEnt; rw [HK.out, hpe]; rfl)
              have HPK := hid hpe
              clear hpe
              go_wp2_with fail
              refine (spec_EntriesValid_c _ (putE xs e) _ _ (Rd.of_own HO15.out) HPX.out HPL.out).mono ?_
              rw [HPK.out]
              rintro e' w5 ⟨rfl, z5, rfl⟩
              go_wp2
              go_ret2
              exact ⟨sv, by rw [HO.out]; rfl, by rw [HO.out]; exact (HO15.out.less hB0).drewN z5, bl_then d0 (bl_drewN HJ.out z5)⟩
      · have hd0 : decide (k < n) = false := by simp; omega
        have HIS := hid (show isNm xs e.name k = false by
          cases hh : isNm xs e.name k
          · rfl
          · obtain ⟨y, hy, hyn⟩ := isNm_iff.1 hh
            have := (List.getElem?_eq_some_iff.1 hy).1
            have := HN.out
            omega)
        have HPE := hid (show xs.take k ++ [e] ++ xs.drop k = putE xs e by rw [putE_eq, HQ.out]; unfold behind; rw [HQ.out, HIS.out]; simp)
        obtain ⟨ra, hra⟩ : ∃ ra : Option Addr, (if c = k then a else Option.map (fun (x : Addr) => x.add (k * 2)) a) = ra := ⟨_, rfl⟩
        clear h3'
        go_wp2
        go_quiet (fail)
        go_wp2
        go_quiet (fail)
        go_wp2
        refine drew_out W1 (by first | exact ⟨_, rfl⟩ | exact ⟨_, World.drewN_drewN _ _ _⟩) ?_
        rintro W0 ⟨z0, hW0⟩
        have d0 : Below w.heap.size w W0 := by rw [hW0]; exact bl_drewN d1 _
        have hB0 : w.heap.size ≤ W0.heap.size := d0.size
        have HH : Hid (Ents W0 W0.heap.size (.slice a n c) xs) := by rw [hW0]; exact (H1.out.drewN _).more (by have := d1.size; simpa using this)
        have hbox : W0.heap[w.heap.size]? = some (.cells #[.string e.name, .int .i64 e.print] 78 (0, 0)) := by rw [hW0]; exact HBX.out
        have hlt0 := (Array.getElem?_eq_some_iff.1 hbox).1
        have hfr := HH.out.frontE HN.out (q := k) (by omega)
        have hbk := HH.out.backE HN.out (q := k) (by omega)
        rw [show (if c = k then a else (a : Option Addr).map (fun (x : Addr) => x.add ((k) * 2))) = ra by rw [← hra]] at hbk
        refine wp_region_inv3d rfl (by kernel_rfl) (by kernel_rfl) (by kernel_rfl) (by kernel_rfl) (by simp) (fun _ w' => Below W0.heap.size W0 w') (fun j w' w'' => peS j w' w'') (fact (peF W0 (.slice a n c) xs k e (xs.drop k))) peCons (Below.refl _ _).drew ?hF ?grd ?oo ?cg ?fin
        case hF =>
          intro j i v w' w'' hS hc hne hwt hdp hf
          have hi : i < 11 ∨ 11 ≤ i := by omega
          rcases hi with hi | hi
          · obtain rfl | rfl | rfl | rfl | rfl | rfl | rfl | rfl | rfl | rfl | rfl : i = 0 ∨ i = 1 ∨ i = 2 ∨ i = 3 ∨ i = 4 ∨ i = 5 ∨ i = 6 ∨ i = 7 ∨ i = 8 ∨ i = 9 ∨ i = 10 := by omega
            · rcases hS with rfl | hb | ⟨rfl, b, hh, hg⟩ | rfl | ⟨rfl, g, cs, hh, hs, hg⟩
              · exact hf
              · obtain ⟨b0, h1, h2, h3, h4⟩ := hf; exact ⟨b0, h1, h2, (hb.block b0 (Array.getElem?_eq_some_iff.1 h3).1).trans h3, h4.on hb⟩
              · simp [peCons] at hc
              · have h9 := hdp _ rfl ⟨4, .data⟩ (by simp) rfl; simp [peCons] at h9
              · obtain ⟨b0, h1, h2, h3, h4⟩ := hf
                have hne' : b0 ≠ g := by rintro rfl; rw [h3] at hh; simp at hh; subst hh; simp at hs
                exact ⟨b0, h1, h2, (hg.block b0 (Array.getElem?_eq_some_iff.1 h3).1 (some_ne' hne')).trans h3, h4.kept hg (.inr (by rw [h1]; exact some_ne' hne'))⟩
            · exact hf
            · exact hf
            · exact hf
            · rcases hS with rfl | hb | ⟨rfl, b, hh, hg⟩ | rfl | ⟨rfl, g, cs, hh, hs, hg⟩
              · exact hf
              · exact Own.on hf hb
              · exact absurd rfl hne
              · simp [peCons] at hc
              · have h9 := hdp _ rfl ⟨7, .data⟩ (by simp) rfl; simp [peCons] at h9
            · exact hf
            · rcases hS with rfl | hb | ⟨rfl, b, hh, hg⟩ | rfl | ⟨rfl, g, cs, hh, hs, hg⟩
              · exact hf
              · obtain ⟨b0, h1, h2, h3⟩ := hf; exact ⟨b0, h1, h2, (hb.block b0 (Array.getElem?_eq_some_iff.1 h3).1).trans h3⟩
              · obtain ⟨b0, h1, h2, h3⟩ := hf; exact ⟨b0, h1, h2, (hg.block b0 (Array.getElem?_eq_some_iff.1 h3).1 (some_ne' (by rintro rfl; rw [hh] at h3; simp at h3))).trans h3⟩
              · simp [peCons] at hc
              · have h9 := hdp _ rfl ⟨7, .data⟩ (by simp) rfl; simp [peCons] at h9
            · rcases hS with rfl | hb | ⟨rfl, b, hh, hg⟩ | rfl | ⟨rfl, g, cs, hh, hs, hg⟩
              · exact hf
              · exact Own.on hf hb
              · exact own_far_empE hf hh hg (by simp <;> omega)
              · exact absurd rfl hne
              · simp [peCons] at hc
            · exact hf
            · rcases hS with rfl | hb | ⟨rfl, b, hh, hg⟩ | rfl | ⟨rfl, g, cs, hh, hs, hg⟩
              · exact hf
              · exact Own.on hf hb
              · exact own_far_empE hf hh hg (by simp <;> omega)
              · exact absurd (hwt.symm.trans (c := true) (by kernel_rfl)) (by decide)
              · exact absurd rfl hne
            · rcases hS with rfl | hb | ⟨rfl, b, hh, hg⟩ | rfl | ⟨rfl, g, cs, hh, hs, hg⟩
              · exact hf
              · exact Own.on hf hb
              · exact own_far_empE hf hh hg (by simp <;> omega)
              · exact absurd (hwt.symm.trans (c := true) (by kernel_rfl)) (by decide)
              · exact absurd (hwt.symm.trans (c := true) (by kernel_rfl)) (by decide)
          · unfold fact at *; rw [List.getD_eq_getElem?_getD, List.getElem?_eq_none (by simpa [peF] using hi)]; trivial
        case grd =>
          intro i oo d bb hi hg v w' hf
          obtain ⟨hlt1, rfl⟩ := Array.getElem?_eq_some_iff.1 hi
          have hlt' : i < 11 := hlt1
          clear hi
          obtain rfl | rfl | rfl | rfl | rfl | rfl | rfl | rfl | rfl | rfl | rfl : i = 0 ∨ i = 1 ∨ i = 2 ∨ i = 3 ∨ i = 4 ∨ i = 5 ∨ i = 6 ∨ i = 7 ∨ i = 8 ∨ i = 9 ∨ i = 10 := by omega
          all_goals simp at hg
        case cg =>
          intro i oo d bb hi hg j
          obtain ⟨hlt1, rfl⟩ := Array.getElem?_eq_some_iff.1 hi
          have hlt' : i < 11 := hlt1
          clear hi
          obtain rfl | rfl | rfl | rfl | rfl | rfl | rfl | rfl | rfl | rfl | rfl : i = 0 ∨ i = 1 ∨ i = 2 ∨ i = 3 ∨ i = 4 ∨ i = 5 ∨ i = 6 ∨ i = 7 ∨ i = 8 ∨ i = 9 ∨ i = 10 := by omega
          all_goals simp at hg
        case oo =>
          intro i oo hi qn a' wk hnn hj hb' hd
          obtain ⟨hlt1, rfl⟩ := Array.getElem?_eq_some_iff.1 hi
          have hlt' : i < 11 := hlt1
          clear hi
          obtain rfl | rfl | rfl | rfl | rfl | rfl | rfl | rfl | rfl | rfl | rfl : i = 0 ∨ i = 1 ∨ i = 2 ∨ i = 3 ∨ i = 4 ∨ i = 5 ∨ i = 6 ∨ i = 7 ∨ i = 8 ∨ i = 9 ∨ i = 10 := by omega
          · exact iv_val (v := .slice (some ⟨wk.heap.size, 0, none⟩) 0 0) (w' := wk.alloc (.cells #[] 78)) (by simp [execOp, go_sem, Result.andThen]) ⟨_, rfl, hj.alloc hj.size _, .inr (.inl ((Below.refl _ _).alloc (Nat.le_refl _) _)), (show isEmpE _ _ _ from ⟨_, rfl, hj.size, heap_alloc_new _ _, Own.made _ hj.size⟩)⟩
          · have b0 : a'.eval (.tmp 0) = .slice a n c := hb' 0 (by rfl); have c0 := ev_get b0
            exact iv_val (v := .slice a n c) (by simp [execOp, b0]) ⟨_, rfl, hj, .inl rfl, rfl⟩
          · have b6 : a'.eval (.tmp 6) = .int .i64 k := hb' 6 (by rfl); have c6 := ev_get b6
            exact iv_val (v := .int .i64 k) (by simp [execOp, b6]) ⟨_, rfl, hj, .inl rfl, rfl⟩
          · have v1 : a'.eval (.tmp 51) = .slice a n c := hd ⟨1, .data⟩ (by simp) rfl (by intro j _ hc; revert hc; unfold peCons; simp; try omega); have u1 := ev_get v1
            have v2 : a'.eval (.tmp 52) = .int .i64 k := hd ⟨2, .data⟩ (by simp) rfl (by intro j _ hc; revert hc; unfold peCons; simp; try omega); have u2 := ev_get v2
            exact iv_val (v := .slice a k c) (by simp [execOp, u1, u2, hqc, go_sem, Result.andThen]) ⟨_, rfl, hj, .inl rfl, (show isRdE W0 (xs.take k) _ wk from hfr)⟩
          · have e0 : isEmpE W0.heap.size (a'.eval (.tmp 50)) wk := hd ⟨0, .data⟩ (by simp) rfl (by intro j _ hc; revert hc; unfold peCons; simp; try omega)
            obtain ⟨b0, v0, hb0, hh0, o0⟩ := e0
            have e3 : isRdE W0 (xs.take k) (a'.eval (.tmp 53)) wk := hd ⟨3, .data⟩ (by simp) rfl (by intro j _ hc; revert hc; unfold peCons; simp; try omega)
            obtain ⟨i0, hi0, hz0, hz1, hz2⟩ := info_parts info_ent
            refine wp_cat (enc := encE) wk (.tmp 50) (.tmp 53) 72 rfl W0.heap.size 78 i0 _ 2 24 Try.underlying72 hi0 hz0 hz1 hz2 rfl (by decide) (a'.eval (.tmp 50)) (a'.eval (.tmp 53)) [] (xs.take k) rfl rfl o0 _ (Rd.below e3 hj (Nat.le_refl _)) encE_one (by have := HN.out; simp <;> omega) (by decide) hj.size ?_
            intro v' w' ho hg hg'
            rw [v0] at hg
            exact ⟨_, rfl, hj.grown hg hj.size (fun g hg1 => by simp [Value.ownBlock] at hg1; omega), .inr (.inr (.inl ⟨rfl, b0, hh0, hg⟩)), (show isOwnE _ _ _ _ from ho)⟩
          · have b3 : a'.eval (.tmp 3) = .pointer (some ⟨w.heap.size, 0, none⟩) := hb' 3 (by rfl); have c3 := ev_get b3
            obtain ⟨x0, x1, _, _⟩ := two_cells_of ((hj.block _ hlt0).trans hbox)
            exact iv_val (v := .agg #[.string e.name, .int .i64 e.print]) (by simp [execOp, c3, x0, x1, go_sem, Result.andThen]) ⟨_, rfl, hj, .inl rfl, rfl⟩
          · have v5 : a'.eval (.tmp 55) = .agg #[.string e.name, .int .i64 e.print] := hd ⟨5, .data⟩ (by simp) rfl (by intro j _ hc; revert hc; unfold peCons; simp; try omega); have u5 := ev_get v5
            exact iv_val (v := .slice (some ⟨wk.heap.size, 0, none⟩) 1 1) (w' := wk.alloc (.cells #[.string e.name, .int .i64 e.print] 78)) (by simp [execOp, u5, go_sem, Result.andThen]) ⟨_, rfl, hj.alloc hj.size _, .inr (.inl ((Below.refl _ _).alloc (Nat.le_refl _) _)), (show isLitE _ _ _ _ from ⟨_, rfl, hj.size, heap_alloc_new _ _⟩)⟩
          · have e4 : isOwnE W0.heap.size ([] ++ xs.take k) (a'.eval (.tmp 54)) wk := hd ⟨4, .data⟩ (by simp) rfl (by intro j _ hc; revert hc; unfold peCons; simp; try omega)
            have e8 : isLitE W0.heap.size e (a'.eval (.tmp 56)) wk := hd ⟨6, .data⟩ (by simp) rfl (by intro j _ hc; revert hc; unfold peCons; simp; try omega)
            obtain ⟨b8, v8, hb8, hh8⟩ := e8
            obtain ⟨i0, hi0, hz0, hz1, hz2⟩ := info_parts info_ent
            refine wp_cat (enc := encE) wk (.tmp 54) (.tmp 56) 72 rfl W0.heap.size 78 i0 _ 2 24 Try.underlying72 hi0 hz0 hz1 hz2 rfl (by decide) (a'.eval (.tmp 54)) (.slice (some ⟨b8, 0, none⟩) 1 1) ([] ++ xs.take k) [e] rfl v8 e4 _ (lit_rdE hh8) encE_one (by have := HN.out; simp <;> omega) (by decide) hj.size ?_
            intro v' w' ho hg hg'
            exact ⟨_, rfl, hj.grown hg hj.size (fun g hg1 => (Own.lt e4 g hg1).1), .inr (.inr (.inr (.inl rfl))), (show isOwnE _ _ _ _ from ho)⟩
          · have b7 : a'.eval (.tmp 7) = (.slice ra (n - k) (c - k)) := hb' 7 (by rfl); have c7 := ev_get b7
            exact iv_val (v := (.slice ra (n - k) (c - k))) (by simp [execOp, b7]) ⟨_, rfl, hj, .inl rfl, (show isRdE W0 (xs.drop k) _ wk from hbk)⟩
          · have e9 : isOwnE W0.heap.size ([] ++ xs.take k ++ [e]) (a'.eval (.tmp 57)) wk := hd ⟨7, .data⟩ (by simp) rfl (by intro j _ hc; revert hc; unfold peCons; simp; try omega)
            have e12 : isRdE W0 (xs.drop k) (a'.eval (.tmp 58)) wk := hd ⟨8, .data⟩ (by simp) rfl (by intro j _ hc; revert hc; unfold peCons; simp; try omega)
            obtain ⟨i0, hi0, hz0, hz1, hz2⟩ := info_parts info_ent
            obtain ⟨g9, cs9, hg9, hh9, hs9⟩ := own_rowE e9 (by simp)
            refine wp_cat (enc := encE) wk (.tmp 57) (.tmp 58) 72 rfl W0.heap.size 78 i0 _ 2 24 Try.underlying72 hi0 hz0 hz1 hz2 rfl (by decide) (a'.eval (.tmp 57)) (a'.eval (.tmp 58)) ([] ++ xs.take k ++ [e]) (xs.drop k) rfl rfl e9 _ (Rd.below e12 hj (Nat.le_refl _)) encE_one (by have := HN.out; simp <;> omega) (by decide) hj.size ?_
            intro v' w' ho hg hg'
            exact ⟨_, rfl, hj.grown hg hj.size (fun g hg1 => (Own.lt e9 g hg1).1), .inr (.inr (.inr (.inr ⟨rfl, g9, cs9, hh9, hs9, hg9 ▸ hg⟩))), (show isOwnE _ _ _ _ from ho)⟩
          · have e13 : isOwnE W0.heap.size ([] ++ xs.take k ++ [e] ++ (xs.drop k)) (a'.eval (.tmp 59)) wk := hd ⟨9, .data⟩ (by simp) rfl (by intro j _ hc; revert hc; unfold peCons; simp; try omega)
            exact iv_val (v := a'.eval (.tmp 59)) (by simp [execOp]) ⟨_, rfl, hj, .inl rfl, e13⟩
        case fin =>
          intro tm w4 hj hF
          have o15 : OwnE w4 W0.heap.size (tm.getD 8 undef) ([] ++ xs.take k ++ [e] ++ (xs.drop k)) := hF 10 _ rfl (fun j => by unfold peCons; simp)
          rw [List.nil_append] at o15
          clear hF
          simp only [refillL, List.setIfInBounds_toArray, List.set_cons_succ, List.set_cons_zero]
          obtain ⟨sv, hsv⟩ : ∃ sv, tm.getD 8 undef = sv := ⟨_, rfl⟩
          rw [hsv] at o15 ⊢
          rw [HPE.out] at o15
          clear hsv
          have HO15 := hid o15
          have HJ := hid hj
          clear o15 hj hfr hbk hbox
          cases hpe : entsOk (putE xs e)
          · have HO := hid (show putEnt xs e = (xs, false) by unfold putEnt; rw [HK.out, hpe]; rfl)
            have HPK := hid hpe
            clear hpe
            go_wp2_with fail
            refine (spec_EntriesValid_c _ (putE xs e) _ _ (Rd.of_own HO15.out) HPX.out HPL.out).mono ?_
            rw [HPK.out]
            rintro e' w5 ⟨rfl, z5, rfl⟩
            have d5 := bl_drewN HJ.out z5
            go_wp2_with (at_builtin; refine wpList_cat (enc := encE) (w0 := W0) rfl _ _ 72 rfl (w4.drewN z5).heap.size W0.heap.size 78 i0 _ 2 24 Try.underlying72 hi0 hz0 hz1 hz2 rfl (by decide) _ _ [] xs (Own.made _ (Nat.le_refl _)) _ ((HH.out.below d5 (Nat.le_refl _)).below ((Below.refl _ _).alloc (Nat.le_refl _) _) d5.size) (d5.alloc d5.size _) (by simp) d5.size rfl rfl encE_one (by have := HN.out; simp; omega) (by decide) ?_; intro v' w' hown' hb' hB' hg')
            go_ret2
            exact ⟨v', by rw [HO.out]; rfl, by rw [HO.out]; exact hown'.less (Nat.le_trans hB0 d5.size), bl_then d0 hb'⟩
          · have HO := hid (show putEnt xs e = (putE xs e, true) by unfold putEnt; rw [HK.out, hpe]; rfl)
            have HPK := hid hpe
            clear hpe
            go_wp2_with fail
            refine (spec_EntriesValid_c _ (putE xs e) _ _ (Rd.of_own HO15.out) HPX.out HPL.out).mono ?_
            rw [HPK.out]
            rintro e' w5 ⟨rfl, z5, rfl⟩
            go_wp2
            go_ret2
            exact ⟨sv, by rw [HO.out]; rfl, by rw [HO.out]; exact (HO15.out.less hB0).drewN z5, bl_then d0 (bl_drewN HJ.out z5)⟩

end Go.Proofs.Ytfdhaigmekmboaa

/- Walks: the reference's entries of which one is dropped. -/
namespace Go.Proofs.Ytfdhaigmekmboaa
open Go.RowKit

theorem drop_succ {xs : List Ent} {nm : ByteArray} {k : Nat} {x : Ent} (h : xs[k]? = some x) : dropE (xs.take (k + 1)) nm = dropE (xs.take k) nm ++ (if x.name = nm then [] else [x]) := by
  unfold dropE
  rw [take_snoc' h, List.filter_append]
  by_cases hx : x.name = nm <;> simp [hx]
theorem str_neE {u t : ByteArray} : (u.toList != t.toList) = !decide (u = t) := by
  rw [bne, str_eqE]

set_option maxHeartbeats 2000000 in
set_option maxRecDepth 100000 in
theorem spec_DropEntry_c (v : Value) (xs : List Ent) (nm : ByteArray) (w : World) (h : Ents w w.heap.size v xs) (hx0 : ∀ x ∈ xs, x.name.size ≤ 1048576) (hl0 : xs.length ≤ 1048570) :
    Calls Try.prog 73 #[v, .string nm] w fun en w' => ∃ v', en = .returned (.tuple #[v', .bool (dropEnt xs nm).2]) ∧ OwnE w' w.heap.size v' (dropEnt xs nm).1 ∧ Below w.heap.size w w' := by
  obtain ⟨n, hn⟩ : ∃ n, xs.length = n := ⟨_, rfl⟩
  obtain ⟨a, c, rfl, hnc, hc63, h3⟩ := h.ents hn
  have HN := hid hn
  have HX := hid hx0
  have HL := hid (show xs.length ≤ 1048576 by omega)
  rw [hn] at hl0
  have HH := hid h
  have hal : Below w.heap.size w (w.alloc (.cells #[] 78)) := (Below.refl _ _).alloc (Nat.le_refl _) _
  have hown0 : OwnE (w.alloc (.cells #[] 78)) w.heap.size (.slice (some ⟨w.heap.size, 0, none⟩) 0 0) [] := Own.made _ (Nat.le_refl _)
  clear h hx0 hn
  cases hok : entsOk xs
  · have HO := hid (show dropEnt xs nm = ([], false) by unfold dropEnt; rw [hok]; rfl)
    have HK := hid hok
    have hn0 : 0 < n := by
      rcases Nat.eq_zero_or_pos n with h0 | h0
      · have := HN.out
        rw [h0] at this
        rw [List.eq_nil_of_length_eq_zero this] at hok; cases hok
      · exact h0
    have hd0 : decide ((0 : Int) < (n : Int)) = true := by simp; omega
    have hd1 : decide (0 < n) = true := by simp; omega
    have HOWN := hid hown0
    clear hok h3 hown0
    go_enter Try.func73, Try.ntmps73
    go_wp2
    go_loopw [6, 7] (fun out i wr => out = .slice (some ⟨w.heap.size, 0, none⟩) 0 0 ∧ i = .int .i64 (0 : Nat) ∧ wr = w.alloc (.cells #[] 78)) (fun _ _ _ => 0)
    case atStart => exact ⟨rfl, rfl, rfl⟩
    case round =>
      obtain ⟨rfl, rfl, rfl⟩ := hrel
      go_wp2_with fail
      refine (spec_EntriesValid_c _ xs _ _ (HH.out.below hal (Nat.le_refl _)) HX.out HL.out).mono ?_
      rw [HK.out]
      rintro e' w1 ⟨rfl, z, rfl⟩
      go_wp2_with fail
      refine (spec_EntriesValid_c _ xs _ _ ((HH.out.below hal (Nat.le_refl _)).drewN z) HX.out HL.out).mono ?_
      rw [HK.out]
      rintro e' w2 ⟨rfl, z2, rfl⟩
      go_wp2
      go_ret2
      exact ⟨_, by rw [HO.out]; rfl, by rw [HO.out]; exact HOWN.out.drewN (z + z2), bl_drewN hal (z + z2)⟩
  have HO := hid (show dropEnt xs nm = (dropE xs nm, decide ((dropE xs nm).length < xs.length)) by unfold dropEnt; rw [hok]; rfl)
  have HK := hid hok
  have HOWN := hid hown0
  clear hok hown0
  go_enter Try.func73, Try.ntmps73
  go_wp2
  go_loopw [6, 7] (fun out i wr => ∃ (k : Nat) (acc : List Ent), k ≤ n ∧ i = .int .i64 k ∧ OwnE wr w.heap.size out acc ∧ Hid (acc = dropE (xs.take k) nm) ∧ acc.length ≤ k ∧ Below w.heap.size w wr) (fun _ i _ => n - (intOf i).toNat)
  case atStart => exact ⟨0, [], Nat.zero_le _, rfl, HOWN.out, rfl, Nat.zero_le _, hal⟩
  case round =>
    obtain ⟨k, acc, hk, rfl, hown, hacc, hlen, hb⟩ := hrel
    have hB := hb.size
    clear hal
    by_cases hlt : k < n
    · obtain ⟨b, o, t, r, rfl, hbl, hx, k0, k1⟩ := h3 k hlt
      have hd0 : decide ((k : Int) < (n : Int)) = true := by simp; omega
      have hd1 : decide (k < n) = true := by simp; omega
      have j0 := (hb.cell (p := ⟨b, o + k * 2, none⟩) hbl).trans k0
      have j1 := (hb.cell (p := ⟨b, o + k * 2 + 1, none⟩) hbl).trans k1
      have hs := str_eqE (u := t) (t := nm)
      have HF := hid (drop_succ (nm := nm) hx.out)
      have hkn' : (k : Int) < n := by omega
      clear h3 k0 k1
      go_wp2_with fail
      refine (spec_EntriesValid_c _ xs _ _ (HH.out.below hb (Nat.le_refl _)) HX.out HL.out).mono ?_
      rw [HK.out]
      rintro e' w1 ⟨rfl, z, rfl⟩
      have hb1 := bl_drewN hb z
      have hown1 := hown.drewN z
      by_cases hte : t = nm
      · have hd2 : (t.toList == nm.toList) = true := by rw [hs]; exact decide_eq_true hte
        have HF2 := hid (HF.out.trans (by rw [if_pos hte, List.append_nil]))
        clear hs hte hown
        go_wp2
        go_roundw
        case rel => exact ⟨k + 1, acc, by omega, by go_num, hown1, hid (by rw [HF2.out]; exact hacc.out), by omega, hb1⟩
        case measure => simp [intOf]; omega
      · have hd2 : (t.toList == nm.toList) = false := by rw [hs]; exact decide_eq_false hte
        have HF2 := hid (HF.out.trans (congrArg (dropE (xs.take k) nm ++ ·) (if_neg hte)))
        obtain ⟨W2, hW2⟩ : ∃ W2, W2 = wr.drewN z := ⟨_, rfl⟩
        have l0 : W2.cell? ⟨b, o + k * 2, none⟩ = some (.string t) := by rw [hW2]; exact j0
        have l1 : W2.cell? ⟨b, o + k * 2 + 1, none⟩ = some (.int .i64 r) := by rw [hW2]; exact j1
        rw [← hW2] at hb1 hown1 ⊢
        clear hs hte hown j0 j1 hW2 hb
        have hB2 := hb1.size
        go_wp2_with (at_builtin; refine push_ent (w0 := w) rfl _ _ rfl w.heap.size w.heap.size _ acc ⟨t, r⟩ hown1 hb1 hB2 (Nat.le_refl _) rfl rfl (by omega) ?_; intro v' w' hown' hb' hB' hg')
        go_roundw
        case rel => exact ⟨k + 1, acc ++ [⟨t, r⟩], by omega, by go_num, hown', hid (by rw [HF2.out, ← hacc.out]), by simp; omega, hb'⟩
        case measure => simp [intOf]; omega
    · have HA := hid (show acc = dropE xs nm by rw [hacc.out, take_all HN.out (show n ≤ k by omega)])
      have hd0 : decide ((k : Int) < (n : Int)) = false := by simp; omega
      have hd1 : decide (k < n) = false := by simp; omega
      obtain ⟨m, hm⟩ : ∃ m, acc.length = m := ⟨_, rfl⟩
      have HM := hid hm
      have HDM := hid (show decide ((dropE xs nm).length < xs.length) = decide ((m : Int) < (n : Int)) by rw [← HA.out, hm, HN.out]; simp)
      obtain ⟨a0, c0, rfl, _, _, _⟩ := (Rd.of_own hown).ents hm
      clear h3 hm
      go_wp2_with fail
      refine (spec_EntriesValid_c _ xs _ _ (HH.out.below hb (Nat.le_refl _)) HX.out HL.out).mono ?_
      rw [HK.out]
      rintro e' w1 ⟨rfl, z, rfl⟩
      have hb1 := bl_drewN hb z
      have hown1 := hown.drewN z
      go_wp2
      go_ret2
      exact ⟨.slice a0 m c0, by rw [HO.out, HDM.out]; simp, by rw [HO.out]; rw [HA.out] at hown1; exact hown1, hb1⟩

end Go.Proofs.Ytfdhaigmekmboaa

/- Rows of pieces of a call's own: append, copies, insertion. -/
namespace Go.Proofs.Ytfdhaigmekmboaa
open Go.RowKit

theorem info_pcO : (Try.prog.info? 45).map (fun i => (i.zero, i.size, i.bytes)) = some (some (.agg #[.int .i64 0, .string ByteArray.empty]), 2, 24) := by kernel_rfl
abbrev OwnP := Own encP 45 2
theorem lit_rdP {w : World} {b : Nat} {r : Int} {t : ByteArray} (h : w.heap[b]? = some (.cells #[.int .i64 r, .string t] 45 (0, 0))) : Pcs w w.heap.size (.slice (some ⟨b, 0, none⟩) 1 1) [⟨r, t⟩] := by
  refine ⟨_, _, rfl, by simp, by simp [maxLen], by simp, fun _ => ⟨_, _, rfl, (Array.getElem?_eq_some_iff.1 h).1, fun j u hu => ?_⟩⟩
  rw [Nat.zero_add]
  simp only [World.cell?, h]
  simpa using hu
theorem encP_one {xs : List Pc} : ∀ y ∈ xs, ∀ u ∈ encP y, u.oneCell' = true := by
  intro y _ u hu
  simp at hu
  rcases hu with rfl | rfl <;> rfl

theorem flatP_take (xs : List Pc) (i : Nat) : (xs.take i).flatMap encP = (xs.flatMap encP).take (i * 2) := by
  induction xs generalizing i with
  | nil => simp
  | cons x r ih =>
    cases i with
    | zero => simp
    | succ i => rw [List.take_succ_cons, List.flatMap_cons, List.flatMap_cons, ih, show (i + 1) * 2 = i * 2 + 1 + 1 by omega]; rfl
theorem flatP_drop (xs : List Pc) (i : Nat) : (xs.drop i).flatMap encP = (xs.flatMap encP).drop (i * 2) := by
  induction xs generalizing i with
  | nil => simp
  | cons x r ih =>
    cases i with
    | zero => simp
    | succ i => rw [List.drop_succ_cons, List.flatMap_cons, ih, show (i + 1) * 2 = i * 2 + 1 + 1 by omega]; rfl

/-- copy on elements of k cells: all is read before anything is written. -/
theorem run_copy_rowK {P : Program} (w : World) (dT sT ty elem : TypeId) (g o dLen dCap : Nat) (a : Addr) (sLen sCap : Nat) (cur : Array Value) (t : TypeId) (cs : List Value) (k n : Nat)
    (hu : P.underlying dT = some (.slice elem)) (hs : (P.info? elem).map (·.size) = some k)
    (hg : w.heap[g]? = some (.cells cur t (0, 0))) (hm : Nat.min sLen dLen = n) (hn : cs.length = n * k)
    (hsrc : ∀ j v, cs[j]? = some v → w.cell? (a.add j) = some v) (hfit : o + cs.length ≤ cur.size) (h1 : ∀ v ∈ cs, v.oneCell' = true) :
    (Builtin.copy_ #[dT, sT] ty #[.slice (some ⟨g, o, none⟩) dLen dCap, .slice (some a) sLen sCap]).run P w =
      .ok (goInt n) (w.setRow g (cur.toList.take o ++ cs ++ cur.toList.drop (o + cs.length)).toArray) := by
  have hl := run_loadCells_list (P := P) w a cs hsrc
  have hst := run_storeCells_at P g o t cs 0 cur w hg (by simpa using hfit) h1
  cases hq : P.info? elem with
  | none => simp [hq] at hs
  | some i =>
    have hi : i.size = k := by simpa [hq] using hs
    simp [Builtin.copy_, run_underlying hu, Builtin.lenOf, Builtin.firstCells, sizeOf, typeInfo, hq, hi, hm, ← hn, hl, hst]

theorem grownBy_setRow (w : World) (g : Nat) (cs : Array Value) : w.grownBy (w.setRow g cs) (some g) :=
  ⟨rfl, rfl, rfl, by simp [World.setRow], fun k _ hk => setRow_other w g k cs (fun e => hk (by rw [e]))⟩

/-- The two copies of an insertion, in place. -/
theorem shift_list {α : Type} (cur X : List α) (i n : Nat) (hX : X.length = n) (hn : n ≤ cur.length) (hcur : cur.take n = X) (k : Nat) (e : List α) (he : e.length = k) (hk : n + k ≤ cur.length) (hi : i ≤ n) :
    (let r1 := cur.take (i + k) ++ X.drop i ++ cur.drop (i + k + (X.drop i).length)
     (r1.take i ++ e ++ r1.drop (i + e.length))).take (n + k) = X.take i ++ (e ++ X.drop i) := by
  subst hX
  simp only
  have hl : (X.drop i).length = X.length - i := by simp
  have h1 : (cur.take (i + k)).length = i + k := by simp; omega
  rw [hl, he]
  have e1 : (cur.take (i + k) ++ X.drop i ++ cur.drop (i + k + (X.length - i))).take i = X.take i := by
    rw [List.append_assoc, List.take_append_of_le_length (by omega), List.take_take, Nat.min_eq_left (by omega), ← hcur, List.take_take, Nat.min_eq_left hi]
  have e2 : (cur.take (i + k) ++ X.drop i ++ cur.drop (i + k + (X.length - i))).drop (i + k) = X.drop i ++ cur.drop (i + k + (X.length - i)) := by
    rw [List.append_assoc, List.drop_append_of_le_length (by omega), List.drop_of_length_le (by omega), List.nil_append]
  rw [e1, e2, ← List.append_assoc, ← List.append_assoc]
  rw [List.take_append_of_le_length (by simp; omega), List.take_of_length_le (by simp; omega)]

set_option maxHeartbeats 2000000 in
set_option maxRecDepth 100000 in
theorem insP_c (v : Value) (xs : List Pc) (B i vb : Nat) (r : Int) (t : ByteArray) (w : World) (h : OwnP w B v xs) (hi : i ≤ xs.length) (hB : B ≤ w.heap.size) (hvb : w.heap[vb]? = some (.cells #[.int .i64 r, .string t] 45 (0, 0))) (hne : v.ownBlock ≠ some vb) (hl : xs.length ≤ 1000000) :
    Calls Try.prog 48 #[v, .int .i64 i, .slice (some ⟨vb, 0, none⟩) 1 1] w fun e w' => ∃ v', e = .returned v' ∧ OwnP w' B v' (xs.take i ++ ⟨r, t⟩ :: xs.drop i) ∧ w.grownBy w' v.ownBlock := by
  obtain ⟨n, hn⟩ : ∃ n, xs.length = n := ⟨_, rfl⟩
  obtain ⟨i0, hi0, hz0, hz1, hz2⟩ := info_parts info_pcO
  rw [hn] at hi hl
  by_cases hin : i = n
  · subst hin
    have hap : xs.take i ++ ⟨r, t⟩ :: xs.drop i = xs ++ [⟨r, t⟩] := by rw [List.take_of_length_le (by omega), List.drop_of_length_le (by omega)]
    have HAP := hid hap
    clear hap
    have h0 := h
    rcases h.2 with ⟨rfl, h2⟩ | ⟨g, cap, cur, hv, hbg, hgh, hnc, hcm, hcs, hct⟩
    · obtain rfl : i = 0 := by omega
      go_enter Try.func48, Try.ntmps48
      go_wp2_with (at_builtin; refine wpList_cat (enc := encP) (w0 := w) rfl _ _ 23 rfl B B 45 i0 _ 2 24 Try.underlying23 hi0 hz0 hz1 hz2 rfl (by decide) _ _ xs [⟨r, t⟩] h0 _ (lit_rdP hvb) (Below.refl _ _) hB (Nat.le_refl _) rfl rfl encP_one (by simp; omega) (by decide) ?_; intro v' w' hown' hb' hB' hg')
      go_ret
      exact ⟨_, rfl, by rw [HAP.out]; exact hown', hg'.1⟩
    · rw [hn] at hv
      subst hv
      have HN := hid hn
      clear hn
      go_enter Try.func48, Try.ntmps48
      go_wp2_with (at_builtin; refine wpList_cat (enc := encP) (w0 := w) rfl _ _ 23 rfl B B 45 i0 _ 2 24 Try.underlying23 hi0 hz0 hz1 hz2 rfl (by decide) _ _ xs [⟨r, t⟩] h0 _ (lit_rdP hvb) (Below.refl _ _) hB (Nat.le_refl _) rfl rfl encP_one (by have := HN.out; simp; omega) (by decide) ?_; intro v' w' hown' hb' hB' hg')
      all_goals
        go_ret
        exact ⟨_, rfl, by rw [HAP.out]; exact hown', hg'.1⟩
  · have hlt : i < n := by omega
    rcases h.2 with ⟨rfl, h2⟩ | ⟨g, cap, cur, hv, hbg, hgh, hnc, hcm, hcs, hct⟩
    · omega
    rw [hn] at hv hnc hct
    subst hv
    have hgv : g ≠ vb := fun e => hne (by rw [e]; rfl)
    have hgw : g < w.heap.size := (Array.getElem?_eq_some_iff.1 hgh).1
    have hvw : vb < w.heap.size := (Array.getElem?_eq_some_iff.1 hvb).1
    obtain ⟨X, hX⟩ : ∃ X, X = xs.flatMap encP := ⟨_, rfl⟩
    have hXl : X.length = n * 2 := by rw [hX, flatP_len, hn]
    rw [← hX] at hct
    have hcl : cur.toList.length = cap * 2 := by simpa using hcs
    have hXa : ∀ (j : Nat) (v : Value), X[j]? = some v → cur[j]? = some v := by
      intro j v hj
      have hj' := (List.getElem?_eq_some_iff.1 hj).1
      rw [← hct, List.getElem?_take_of_lt (by omega)] at hj
      simpa using hj
    have h1X : ∀ v ∈ X, v.oneCell' = true := by
      intro v hv
      rw [hX] at hv
      obtain ⟨y, hy, hu⟩ := List.mem_flatMap.1 hv
      exact encP_one y hy v hu
    have hsz : (Try.prog.info? 45).map (·.size) = some 2 := by rw [hi0]; simp [hz1]
    have hzz : ∀ w, (Go.sizeOf 45).run Try.prog w = .ok 2 w := fun w => by simp [Go.sizeOf, typeInfo, hi0, hz1]
    obtain ⟨D, hD⟩ : ∃ D, D = X.drop (i * 2) := ⟨_, rfl⟩
    have hDl : D.length = (n - i) * 2 := by rw [hD, List.length_drop, hXl]; omega
    have hDa : ∀ (j : Nat) (v : Value), D[j]? = some v → cur[i * 2 + j]? = some v := by
      intro j v hj
      rw [hD, List.getElem?_drop] at hj
      exact hXa _ _ hj
    have h1D : ∀ v ∈ D, v.oneCell' = true := fun v hv => h1X v (List.mem_of_mem_drop (by rw [← hD]; exact hv))
    have h1E : ∀ v ∈ ([.int .i64 r, .string t] : List Value), v.oneCell' = true := by simp [Value.oneCell']
    have hout : xs.flatMap encP = X → (xs.take i ++ ⟨r, t⟩ :: xs.drop i).flatMap encP = X.take (i * 2) ++ ([.int .i64 r, .string t] ++ D) := by
      intro _
      rw [List.flatMap_append, List.flatMap_cons, hD, hX, flatP_take, flatP_drop]
    have HOUT := hid (hout hX.symm)
    have hol : (xs.take i ++ ⟨r, t⟩ :: xs.drop i).length = n + 1 := by simp; omega
    have HOL := hid hol
    clear hout hol
    by_cases hroom : n + 1 ≤ cap
    · obtain ⟨R1, hR1⟩ : ∃ R1 : Array Value, R1 = (cur.toList.take (i * 2 + 2) ++ D ++ cur.toList.drop (i * 2 + 2 + D.length)).toArray := ⟨_, rfl⟩
      obtain ⟨R2, hR2⟩ : ∃ R2 : Array Value, R2 = (R1.toList.take (i * 2) ++ ([.int .i64 r, .string t] : List Value) ++ R1.toList.drop (i * 2 + 2)).toArray := ⟨_, rfl⟩
      have hfin : R2.toList.take (n * 2 + 2) = X.take (i * 2) ++ ([.int .i64 r, .string t] ++ D) := by
        rw [hR2, hR1, hD]
        exact shift_list cur.toList X (i * 2) (n * 2) hXl (by omega) hct 2 ([.int .i64 r, .string t] : List Value) rfl (by omega) (by omega)
      have hs1 : R1.size = cap * 2 := by rw [hR1]; simp [hDl, hcs]; omega
      have hs2 : R2.size = cap * 2 := by rw [hR2]; simp [hs1]; omega
      have hov : ∀ lb cb, (callFunc 52 #[.slice (some ⟨vb, 0, none⟩) 1 1, .slice (some ⟨g, (i + 1) * 2, none⟩) lb cb]).run Try.prog w = .ok (.value (.bool false)) w := fun lb cb => by
        rw [run_callFunc_extern Try.func52 (by kernel_rfl) (by kernel_rfl) (by kernel_rfl) (e := Extern.SlicesOverlaps.overlaps #[23, 23] #[4]) (by kernel_rfl),
          Lib.run_overlaps_apart w 23 4 45 Try.underlying23 2 hzz ⟨vb, 0, none⟩ ⟨g, (i + 1) * 2, none⟩ 1 1 lb cb (Ne.symm hgv) 45 45 2 (cap * 2) (by simp [World.shape?, hvb]) (by simp [World.shape?, hgh, hcs]) (by omega) (frozen_of_row _ _ _ _ _ hvb) (frozen_of_row _ _ _ _ _ hvb)]
        rfl
      have hcp1 : ∀ ty dc sc, (Builtin.copy_ #[23, 23] ty #[.slice (some ⟨g, (i + 1) * 2, none⟩) (n - i) dc, .slice (some ⟨g, i * 2, none⟩) (n + 1 - i) sc]).run Try.prog w.drew = .ok (goInt ((n - i : Nat) : Int)) (w.drew.setRow g R1) := fun ty dc sc => by
        have := run_copy_rowK (P := Try.prog) w.drew 23 23 ty 45 g ((i + 1) * 2) (n - i) dc ⟨g, i * 2, none⟩ (n + 1 - i) sc cur 45 D 2 (n - i) Try.underlying23 hsz hgh (by simp only [Nat.min_def]; split <;> omega) hDl
          (fun j v hj => by rw [Addr.add_lit]; simp only [World.cell?, World.drew, hgh]; exact hDa j v hj) (by omega) h1D
        rw [show (i + 1) * 2 = i * 2 + 2 by omega] at this ⊢
        rw [← hR1] at this
        exact this
      have hcp2 : ∀ (W : World), W.heap[g]? = some (.cells R1 45 (0, 0)) → W.heap[vb]? = some (.cells #[.int .i64 r, .string t] 45 (0, 0)) → ∀ ty dc, (Builtin.copy_ #[23, 23] ty #[.slice (some ⟨g, i * 2, none⟩) (n + 1 - i) dc, .slice (some ⟨vb, 0, none⟩) 1 1]).run Try.prog W = .ok (goInt ((1 : Nat) : Int)) (W.setRow g R2) := fun W h1 h2 ty dc => by
        have := run_copy_rowK (P := Try.prog) W 23 23 ty 45 g (i * 2) (n + 1 - i) dc ⟨vb, 0, none⟩ 1 1 R1 45 [.int .i64 r, .string t] 2 1 Try.underlying23 hsz h1 (by simp only [Nat.min_def]; split <;> omega) rfl
          (fun j v hj => by rw [Addr.add_lit, Nat.zero_add]; simp only [World.cell?, h2]; simpa using hj) (by simp; omega) h1E
        rw [show i * 2 + ([.int .i64 r, .string t] : List Value).length = i * 2 + 2 from rfl, ← hR2] at this
        exact this
      have hci : ¬ (cap = i) := by omega
      have hci2 : ¬ (cap = i + 1) := by omega
      have hb1 : (i : Int) ≤ (n : Int) + 1 := by omega
      have hne2 : ¬ ((i : Int) = (n : Int)) := by omega
      have hw1 : IntKind.i64.wrap ((i : Int) + 1) = (i : Int) + 1 := by rw [IntKind.wrap_i64]; omega
      have hb2 : (0 : Int) ≤ (i : Int) + 1 := by omega
      have htn : ((i : Int) + 1).toNat = i + 1 := by omega
      have hb3 : (i : Int) + 1 ≤ (n : Int) + 1 := by omega
      have HF := hid (And.intro hfin (And.intro hs1 hs2))
      have HC := hid (And.intro hn (And.intro hnc hcm))
      clear hfin hs1 hs2 hn hcm hDa hXa hct hX hD hR1 hR2 h1X h1D h1E hcl hXl hDl hcs hsz
      go_enter Try.func48, Try.ntmps48
      go_wp2_with (simp only [hov])
      have hgd : w.drew.heap[g]? = some (.cells cur 45 (0, 0)) := hgh
      have hW1 : (w.drew.setRow g R1).heap[g]? = some (.cells R1 45 (0, 0)) := setRow_heap _ g cur R1 _ _ hgd
      have hW1v : (w.drew.setRow g R1).heap[vb]? = some (.cells #[.int .i64 r, .string t] 45 (0, 0)) := (setRow_other _ _ _ _ (Ne.symm hgv)).trans hvb
      go_region_law (refine step_copy_runI rfl _ _ 23 23 rfl _ _ (by simp [Act.eval, Act.put]) (by simp [Act.eval, Act.put]) (hcp1 _ _ _) ?_)
      have hcp3 := hcp2 _ hW1 hW1v
      clear hcp1 hcp2 hW1v
      go_wp2_with (simp only [hcp3])
      go_ret
      refine ⟨_, rfl, ⟨by rw [HOL.out, HOUT.out, ← HF.out.1]; simp [HF.out.2.2]; omega, .inr ⟨g, cap, R2, by rw [HOL.out]; rfl, hbg, setRow_heap _ g R1 R2 _ _ hW1, by rw [HOL.out]; omega, HC.out.2.2, HF.out.2.2, by rw [HOL.out, HOUT.out, ← HF.out.1, show (n + 1) * 2 = n * 2 + 2 by omega]⟩⟩, ?_⟩
      exact (show w.grownBy w.drew (some g) from ⟨rfl, rfl, rfl, Nat.le_refl _, fun _ _ _ => rfl⟩).trans ((grownBy_setRow _ _ _).trans (grownBy_setRow _ _ _))
    · have hcn : cap = n := by omega
      subst hcn
      obtain ⟨G, hG⟩ : ∃ G, G = grownCap w (cap + 1) cap 45 := ⟨_, rfl⟩
      obtain ⟨ROW, hROW⟩ : ∃ ROW : Array Value, ROW = (X.take (i * 2)).toArray ++ Builtin.zeroCells (Value.agg #[.int .i64 0, .string ByteArray.empty]).cells (cap + 1 - i) ++ Builtin.zeroCells (Value.agg #[.int .i64 0, .string ByteArray.empty]).cells (G - (cap + 1)) := ⟨_, rfl⟩
      have hGn : cap + 1 ≤ G := by rw [hG]; exact grownCap_ge w _ _ _
      have hGm : G ≤ maxLen := by rw [hG]; exact grownCap_le_maxLen w (cap + 1) cap 45 (by unfold maxLen; omega)
      have hold : (Builtin.firstCells i0.size i (.slice (some ⟨g, 0, none⟩) i cap)).run Try.prog w.drew = .ok (X.take (i * 2)).toArray w.drew := by
        rw [hz1]
        exact run_firstCells_some w.drew 2 i ⟨g, 0, none⟩ i cap (X.take (i * 2)) (by rw [List.length_take, hXl]; omega) (fun j v hj => by
          rw [Addr.add_lit, Nat.zero_add]
          rw [List.getElem?_take] at hj
          split at hj
          · simp only [World.cell?, World.drew, hgh]; exact hXa j v hj
          · cases hj)
      have hrz : ∀ ty, (Builtin.append_ #[23, 3] ty #[.slice (some ⟨g, 0, none⟩) i cap, .int .i64 ((cap : Int) + 1 - (i : Int))]).run Try.prog w = .ok (.slice (some ⟨w.heap.size, 0, none⟩) (cap + 1) G) (w.drew.alloc (.cells ROW 45)) := fun ty => by
        have h := Lib.run_append_grow_zeros (P := Try.prog) w 23 3 ty 45 i0 _ .i64 .i64 Try.underlying23 Try.underlying3 hi0 hz0 (some ⟨g, 0, none⟩) i cap (X.take (i * 2)) hold (cap + 1 - i) (by omega) (by rw [hz1]; decide) (by omega) (by omega) (by rw [hz2]; omega) (by rw [hz2, show i + (cap + 1 - i) = cap + 1 by omega]; exact growslice_fits (by omega) (by omega))
        rw [show i + (cap + 1 - i) = cap + 1 by omega, ← hG, ← hROW] at h
        rw [show (cap : Int) + 1 - (i : Int) = ((cap + 1 - i : Nat) : Int) by omega]
        exact h
      have hRs : ROW.size = G * 2 := by
        rw [hROW]
        simp [Builtin.zeroCells, Value.cells, hXl]
        omega
      have hRt : ROW.toList.take (i * 2) = X.take (i * 2) := by
        rw [hROW]
        simp only [Array.toList_append]
        rw [List.append_assoc, List.take_append_of_le_length (by simp [hXl]; omega), List.take_of_length_le (by simp; omega)]
      obtain ⟨R1, hR1⟩ : ∃ R1 : Array Value, R1 = (ROW.toList.take (i * 2) ++ ([.int .i64 r, .string t] : List Value) ++ ROW.toList.drop (i * 2 + 2)).toArray := ⟨_, rfl⟩
      obtain ⟨R2, hR2⟩ : ∃ R2 : Array Value, R2 = (R1.toList.take (i * 2 + 2) ++ D ++ R1.toList.drop (i * 2 + 2 + D.length)).toArray := ⟨_, rfl⟩
      have hs1 : R1.size = G * 2 := by rw [hR1]; simp [hRs]; omega
      have hs2 : R2.size = G * 2 := by rw [hR2]; simp [hs1, hDl]; omega
      have hfin : R2.toList.take (cap * 2 + 2) = X.take (i * 2) ++ ([.int .i64 r, .string t] ++ D) := by
        have e1 : R1.toList.take (i * 2 + 2) = X.take (i * 2) ++ [.int .i64 r, .string t] := by
          rw [hR1, hRt]
          simp only [List.append_assoc]
          rw [← List.append_assoc, List.take_append_of_le_length (by simp [hXl]; omega), List.take_of_length_le (by simp; omega)]
        rw [hR2, e1]
        simp only
        rw [List.take_append_of_le_length (by simp [hXl, hDl]; omega), List.take_of_length_le (by simp [hXl, hDl]; omega), List.append_assoc]
      obtain ⟨W1, hW1⟩ : ∃ W1, W1 = w.drew.alloc (.cells ROW 45) := ⟨_, rfl⟩
      have k1 : W1.heap[w.heap.size]? = some (.cells ROW 45 (0, 0)) := by rw [hW1]; exact heap_alloc_new w.drew _
      have kold : ∀ q, q < w.heap.size → W1.heap[q]? = w.heap[q]? := fun q hq => by rw [hW1]; exact ((Below.refl w.heap.size w).drew.alloc (Nat.le_refl _) _).block q hq
      have k1g : w.grownBy W1 (some g) := by rw [hW1]; exact (show w.grownBy w.drew (some g) from ⟨rfl, rfl, rfl, Nat.le_refl _, fun _ _ _ => rfl⟩).trans (World.grownBy_alloc _ _ _)
      have hcpA : ∀ ty dc, (Builtin.copy_ #[23, 23] ty #[.slice (some ⟨w.heap.size, i * 2, none⟩) (cap + 1 - i) dc, .slice (some ⟨vb, 0, none⟩) 1 1]).run Try.prog W1 = .ok (goInt ((1 : Nat) : Int)) (W1.setRow w.heap.size R1) := fun ty dc => by
        have := run_copy_rowK (P := Try.prog) W1 23 23 ty 45 w.heap.size (i * 2) (cap + 1 - i) dc ⟨vb, 0, none⟩ 1 1 ROW 45 [.int .i64 r, .string t] 2 1 Try.underlying23 hsz k1 (by simp only [Nat.min_def]; split <;> omega) rfl
          (fun j v hj => by rw [Addr.add_lit, Nat.zero_add]; simp only [World.cell?, kold vb hvw, hvb]; simpa using hj) (by simp; omega) h1E
        rw [show i * 2 + ([.int .i64 r, .string t] : List Value).length = i * 2 + 2 from rfl, ← hR1] at this
        exact this
      have hgn : w.heap.size ≠ g := by omega
      obtain ⟨W2, hW2⟩ : ∃ W2, W2 = W1.setRow w.heap.size R1 := ⟨_, rfl⟩
      have k2 : W2.heap[w.heap.size]? = some (.cells R1 45 (0, 0)) := by rw [hW2]; exact setRow_heap _ _ ROW R1 _ _ k1
      have k2g : W2.heap[g]? = some (.cells cur 45 (0, 0)) := by rw [hW2]; exact (setRow_other _ _ _ _ (Ne.symm hgn)).trans ((kold g hgw).trans hgh)
      have k2w : w.grownBy W2 (some g) := by rw [hW2]; exact ⟨k1g.os, k1g.tape, k1g.output, by have := k1g.size; simpa [World.setRow] using this, fun q hq hqn => (setRow_other _ _ _ _ (by omega)).trans (k1g.block q hq hqn)⟩
      have hcpB : ∀ ty dc sc, (Builtin.copy_ #[23, 23] ty #[.slice (some ⟨w.heap.size, (i + 1) * 2, none⟩) (cap - i) dc, .slice (some ⟨g, i * 2, none⟩) (cap - i) sc]).run Try.prog W2.drew = .ok (goInt ((cap - i : Nat) : Int)) (W2.drew.setRow w.heap.size R2) := fun ty dc sc => by
        have := run_copy_rowK (P := Try.prog) W2.drew 23 23 ty 45 w.heap.size ((i + 1) * 2) (cap - i) dc ⟨g, i * 2, none⟩ (cap - i) sc R1 45 D 2 (cap - i) Try.underlying23 hsz k2 (by simp only [Nat.min_def]; split <;> omega) hDl
          (fun j v hj => by rw [Addr.add_lit]; have k2g' : W2.drew.heap[g]? = some (.cells cur 45 (0, 0)) := k2g
                            simp only [World.cell?, k2g']; exact hDa j v hj) (by omega) h1D
        rw [show (i + 1) * 2 = i * 2 + 2 by omega] at this ⊢
        rw [← hR2] at this
        exact this
      rw [← hW1] at hrz
      rw [← hW2] at hcpA
      have k3 : (W2.drew.setRow w.heap.size R2).heap[w.heap.size]? = some (.cells R2 45 (0, 0)) := setRow_heap _ _ R1 R2 _ _ k2
      have k3w : w.grownBy (W2.drew.setRow w.heap.size R2) (some g) := ⟨k2w.os, k2w.tape, k2w.output, by have h5 := k2w.size; simp only [World.setRow, Array.size_modify]; exact h5, fun q hq hqn => (setRow_other _ _ _ _ (by omega)).trans (k2w.block q hq hqn)⟩
      have hGi : ¬ (G = i) := by omega
      have hGi1 : ¬ (G = i + 1) := by omega
      have hci : ¬ (cap = i) := by omega
      have hne2 : ¬ ((i : Int) = (cap : Int)) := by omega
      have hw1 : IntKind.i64.wrap ((i : Int) + 1) = (i : Int) + 1 := by rw [IntKind.wrap_i64]; omega
      have hb2 : (0 : Int) ≤ (i : Int) + 1 := by omega
      have htn : ((i : Int) + 1).toNat = i + 1 := by omega
      have hb3 : (i : Int) + 1 ≤ (cap : Int) + 1 := by omega
      have hb1 : (i : Int) ≤ (cap : Int) + 1 := by omega
      have hb4 : (i : Int) ≤ (cap : Int) := by omega
      have HF := hid (And.intro hfin (And.intro hs2 (And.intro hGn hGm)))
      have HK := hid (And.intro k3 k3w)
      clear hfin hs1 hs2 hn hcm hDa hXa hct hX hD hR1 hR2 h1X h1D h1E hcl hXl hDl hcs hsz hG hROW hRs hRt hGm hW1 hW2 k1 kold k1g k2 k2g k2w k3 k3w hold
      go_enter Try.func48, Try.ntmps48
      go_wp2_with (first | (at_builtin; refine Lib.wpList_append_run _ rfl _ _ _ _ rfl _ _ rfl rfl _ _ (hrz _) ?_) | (simp only [hcpA]))
      go_region_law (refine step_copy_runI rfl _ _ 23 23 rfl _ _ (by simp [Act.eval, Act.put]) (by simp [Act.eval, Act.put]) (hcpB _ _ _) ?_)
      go_wp2
      go_ret
      refine ⟨_, rfl, ⟨by rw [HOL.out, HOUT.out, ← HF.out.1]; simp [HF.out.2.1]; omega, .inr ⟨w.heap.size, G, R2, by rw [HOL.out]; rfl, hB, HK.out.1, by rw [HOL.out]; exact HF.out.2.2.1, HF.out.2.2.2, HF.out.2.1, by rw [HOL.out, HOUT.out, ← HF.out.1, show (cap + 1) * 2 = cap * 2 + 2 by omega]⟩⟩, HK.out.2⟩

end Go.Proofs.Ytfdhaigmekmboaa

/- Walks: valid stores, and the text with a print. -/
namespace Go.Proofs.Ytfdhaigmekmboaa
open Go.RowKit

theorem impl_TextValid_e (s : ByteArray) (w : World) {x : Bool} (h : textOk (bs s) = x) :
    Calls Try.prog 30 #[.string s] w fun e w' => e = .returned (.bool x) ∧ w = w' := h ▸ impl_TextValid_c s w

theorem impl_PrintOf_e (s : ByteArray) (w : World) {x : Int} (h : printOf (bs s) = x) :
    Calls Try.prog 13 #[.string s] w fun e w' => e = .returned (.int .i64 x) ∧ w = w' := h ▸ impl_PrintOf_c s w

theorem spec_TextValid_e (s : ByteArray) (w : World) {x : Bool} (hs : s.size ≤ 4611686018427387904) (h : textOk (bs s) = x) :
    Calls Try.prog 40 #[.string s] w fun e w' => e = .returned (.bool x) ∧ w = w' := h ▸ spec_TextValid_c s w hs

theorem spec_PrintOf_e (s : ByteArray) (w : World) {x : Int} (hs : s.size ≤ 4611686018427387904) (h : printOf (bs s) = x) :
    Calls Try.prog 35 #[.string s] w fun e w' => e = .returned (.int .i64 x) ∧ w = w' := h ▸ spec_PrintOf_c s w hs

theorem pcOk_no1 {r : Int} {t : ByteArray} (h : textOk (bs t) = false) (y : Bool) : (pcOk ⟨r, t⟩ && y) = false := by simp [pcOk, h]
theorem pcOk_no2 {r z : Int} {t : ByteArray} (h : printOf (bs t) = z) (hz : r ≠ z) (y : Bool) : (pcOk ⟨r, t⟩ && y) = false := by simp [pcOk, h, hz]
theorem pcOk_yes {r : Int} {t : ByteArray} (h : textOk (bs t) = true) (hz : printOf (bs t) = r) : pcOk ⟨r, t⟩ = true := by simp [pcOk, h, hz]

theorem st_step {l : List Pc} {k : Nat} {x : Pc} (h : l[k]? = some x) (h0 : stFrom (-1) (l.take k) = true) (h1 : pcOk x = true) (h2 : lastAt (-1) l k < x.print) : stFrom (-1) (l.take (k + 1)) = true := by
  rw [stFrom_succ l (-1) k _ h, h0, h1, decide_eq_true h2]; rfl
theorem st_stop {l : List Pc} {k : Nat} {x : Pc} (h : l[k]? = some x) (h2 : ¬ lastAt (-1) l k < x.print) : storeOk l = false := st_no h (by rw [decide_eq_false h2]; exact Bool.and_false _)

set_option maxHeartbeats 2000000 in
set_option maxRecDepth 100000 in
theorem impl_StoreValid_c (v : Value) (xs : List Pc) (w : World) (h : Pcs w w.heap.size v xs) :
    Calls Try.prog 11 #[v] w fun e w' => e = .returned (.bool (storeOk xs)) ∧ Below w.heap.size w w' := by
  obtain ⟨n, hn⟩ : ∃ n, xs.length = n := ⟨_, rfl⟩
  obtain ⟨a, c, rfl, h1, h2, h3⟩ := h.pcs hn
  have HN := hid hn
  clear hn h
  by_cases c1 : 40 < n
  · have HO := hid (st_long (l := xs) (by rw [HN.out]; exact c1))
    clear h3
    go_enter Try.func11, Try.ntmps11
    go_wp2
    go_ret
    exact ⟨ret_b HO.out.symm, Below.refl _ _⟩
  · go_enter Try.func11, Try.ntmps11
    go_wp2
    go_loopw [10] (fun i wr => ∃ k : Nat, k ≤ n ∧ i = .int .i64 k ∧ Hid (stFrom (-1) (xs.take k) = true) ∧ Below w.heap.size w wr) (fun i _ => n - (intOf i).toNat)
    case atStart => exact ⟨0, Nat.zero_le _, rfl, rfl, Below.refl _ _⟩
    case round =>
      obtain ⟨k, hk, rfl, hall, hb⟩ := hrel
      by_cases hlt : k < n
      · obtain ⟨b, o, r, t, rfl, hbl, hx, k0, k1⟩ := h3 k hlt
        have j0 := (hb.cell (p := ⟨b, o + k * 2, none⟩) hbl).trans k0
        have j1 := (hb.cell (p := ⟨b, o + k * 2 + 1, none⟩) hbl).trans k1
        have HAL : Hid (∀ cs q, Below w.heap.size w ((wr.alloc (.cells cs 45)).drewN q)) := fun cs q => bl_drewN (hb.alloc hb.size _) q
        clear k0 k1
        obtain ⟨z, hz⟩ : ∃ z, printOf (bs t) = z := ⟨_, rfl⟩
        have HZ := hid hz
        cases ht : textOk (bs t)
        · have HO := hid (st_no hx.out (pcOk_no1 ht _))
          have HT := hid ht
          clear h3 ht hz
          go_wp2
          go_quiet (first | (go_at_call 30; exact qsame (impl_TextValid_e _ _ HT.out)) | fail)
          go_wp2
          go_ret
          exact ⟨ret_b HO.out.symm, HAL.out _ _⟩
        · have HT := hid ht
          clear ht hz
          by_cases hrz : r = z
          · subst hrz
            have HP := hid (pcOk_yes (r := r) HT.out HZ.out)
            by_cases hk0 : k = 0
            · have hd0 : decide (0 < k) = false := by simp; omega
              have HS := hid (st_step hx.out hall.out HP.out (by rw [hk0, lastAt_zero]; have := (pcOk_pv HP.out).1; simp only at this ⊢; omega))
              clear h3 hk0
              go_wp2
              go_quiet (first | (go_at_call 30; exact qsame (impl_TextValid_e _ _ HT.out)) | (go_at_call 13; exact qsame (impl_PrintOf_e _ _ HZ.out)))
              go_wp2
              go_quiet (fail)
              go_wp2
              go_roundw
              case rel => exact ⟨k + 1, by omega, by go_num, HS.out, HAL.out _ _⟩
              case measure => simp [intOf]; omega
            · obtain ⟨j, hj⟩ : ∃ j, k = j + 1 := ⟨k - 1, by omega⟩
              obtain ⟨b', o', r', t', hbo, hbl', hx', k0', _⟩ := h3 j (by omega)
              simp only [Option.some.injEq, Addr.mk.injEq, and_true] at hbo
              obtain ⟨rfl, rfl⟩ := hbo
              have i0 := (hb.cell (p := ⟨b, o + j * 2, none⟩) hbl').trans k0'
              have i1 : (wr.alloc (.cells #[.int .i64 r, .string t] 45)).cell? ⟨b, o + j * 2, none⟩ = some (.int .i64 r') := (((Below.refl wr.heap.size wr).alloc (Nat.le_refl _) _).cell (p := ⟨b, o + j * 2, none⟩) (Nat.lt_of_lt_of_le hbl hb.size)).trans i0
              have hL := lastAt_succ (i := -1) hx'.out
              rw [← hj] at hL
              have hd0 : decide (0 < k) = true := by simp; omega
              have hkj : (k : Int) - 1 = (j : Int) := by omega
              have hw1 : IntKind.i64.wrap (j : Int) = (j : Int) := IntWalk.i64_in _ (by omega)
              have hjn : (j : Int) < n := by omega
              clear h3 k0' hk0 hj
              by_cases hlast : r' < r
              · have hd1 : decide (r ≤ r') = false := by simp; omega
                have HS := hid (st_step hx.out hall.out HP.out (by rw [hL]; exact hlast))
                clear hlast hL hx'
                go_wp2
                go_quiet (first | (go_at_call 30; exact qsame (impl_TextValid_e _ _ HT.out)) | (go_at_call 13; exact qsame (impl_PrintOf_e _ _ HZ.out)))
                go_wp2
                go_quiet (fail)
                go_wp2
                go_roundw
                case rel => exact ⟨k + 1, by omega, by go_num, HS.out, HAL.out _ _⟩
                case measure => simp [intOf]; omega
              · have hd1 : decide (r ≤ r') = true := by simp; omega
                have HO := hid (st_stop (l := xs) hx.out (by rw [hL]; exact hlast))
                clear hlast hL hx'
                go_wp2
                go_quiet (first | (go_at_call 30; exact qsame (impl_TextValid_e _ _ HT.out)) | (go_at_call 13; exact qsame (impl_PrintOf_e _ _ HZ.out)))
                go_wp2
                go_quiet (fail)
                go_wp2
                go_ret
                exact ⟨ret_b HO.out.symm, bl_drewN (HAL.out _ _) _⟩
          · have HO := hid (st_no hx.out (pcOk_no2 HZ.out hrz _))
            have hne : (r != z) = true := by simpa using hrz
            clear h3
            go_wp2
            go_quiet (first | (go_at_call 30; exact qsame (impl_TextValid_e _ _ HT.out)) | (go_at_call 13; exact qsame (impl_PrintOf_e _ _ HZ.out)))
            go_wp2
            go_ret
            exact ⟨ret_b HO.out.symm, HAL.out _ _⟩
      · have hall' := hall.out
        rw [take_all HN.out (show n ≤ k by omega)] at hall'
        have HO := hid (show storeOk xs = true by unfold storeOk; rw [hall', HN.out]; simp; omega)
        clear hall' h3
        go_wp2
        go_ret
        exact ⟨ret_b HO.out.symm, hb⟩

set_option maxHeartbeats 2000000 in
set_option maxRecDepth 100000 in
theorem spec_StoreValid_c (v : Value) (xs : List Pc) (B : Nat) (w : World) (h : Pcs w B v xs) (hx0 : ∀ x ∈ xs, x.text.size ≤ 1048576) (hl : xs.length ≤ 1048576) :
    Calls Try.prog 26 #[v] w fun e w' => e = .returned (.bool (storeOk xs)) ∧ ∃ q, w' = w.drewN q := by
  obtain ⟨n, hn⟩ : ∃ n, xs.length = n := ⟨_, rfl⟩
  obtain ⟨a, c, rfl, h1, h2, h3⟩ := h.pcs hn
  rw [hn] at hl
  have HN := hid hn
  have HX := hid hx0
  clear hn h hx0
  go_enter Try.func26, Try.ntmps26
  go_wp2
  go_loopw [3] (fun i wr => ∃ k q : Nat, k ≤ n ∧ i = .int .i64 k ∧ Hid (stFrom (-1) (xs.take k) = true) ∧ wr = w.drewN q) (fun i _ => n - (intOf i).toNat)
  case atStart => exact ⟨0, 0, Nat.zero_le _, rfl, rfl, rfl⟩
  case round =>
    obtain ⟨k, q, hk, rfl, hall, rfl⟩ := hrel
    by_cases hlt : k < n
    · obtain ⟨b, o, r, t, rfl, hbl, hx, k0, k1⟩ := h3 k hlt
      have hts : t.size ≤ 4611686018427387904 := Nat.le_trans (HX.out _ (List.mem_of_getElem? hx.out)) (by omega)
      have HTS := hid hts
      clear hts
      obtain ⟨z, hz⟩ : ∃ z, printOf (bs t) = z := ⟨_, rfl⟩
      have HZ := hid hz
      cases ht : textOk (bs t)
      · have HO := hid (st_no hx.out (pcOk_no1 ht _))
        have HT := hid ht
        clear h3 ht hz
        go_wp2
        go_quiet (first | (go_at_call 40; exact qsame (spec_TextValid_e _ _ HTS.out HT.out)) | fail)
        go_wp2
        go_ret
        exact ⟨ret_b HO.out.symm, _, World.drewN_drewN _ _ _⟩
      · have HT := hid ht
        clear ht hz
        by_cases hrz : z = r
        · subst hrz
          have HP := hid (pcOk_yes HT.out HZ.out)
          by_cases hk0 : k = 0
          · have hd0 : decide (0 < k) = false := by simp; omega
            have HS := hid (st_step hx.out hall.out HP.out (by rw [hk0, lastAt_zero]; have := (pcOk_pv HP.out).1; simp only at this ⊢; omega))
            clear h3 hk0
            go_wp2
            go_quiet (first | (go_at_call 40; exact qsame (spec_TextValid_e _ _ HTS.out HT.out)) | (go_at_call 35; exact qsame (spec_PrintOf_e _ _ HTS.out HZ.out)))
            go_wp2
            go_roundw
            case rel => exact ⟨k + 1, _, by omega, by go_num, HS.out, rfl⟩
            case measure => simp [intOf]; omega
          · obtain ⟨j, hj⟩ : ∃ j, k = j + 1 := ⟨k - 1, by omega⟩
            obtain ⟨b', o', r', t', hbo, hbl', hx', k0', _⟩ := h3 j (by omega)
            simp only [Option.some.injEq, Addr.mk.injEq, and_true] at hbo
            obtain ⟨rfl, rfl⟩ := hbo
            have hL := lastAt_succ (i := -1) hx'.out
            rw [← hj] at hL
            have hd0 : decide (0 < k) = true := by simp; omega
            have hkj : (k : Int) - 1 = (j : Int) := by omega
            have hw1 : IntKind.i64.wrap (j : Int) = (j : Int) := IntWalk.i64_in _ (by omega)
            have hjn : (j : Int) < n := by omega
            clear h3 hk0 hj
            by_cases hlast : r' < z
            · have hd1 : decide (z ≤ r') = false := by simp; omega
              have HS := hid (st_step hx.out hall.out HP.out (by rw [hL]; exact hlast))
              clear hlast hL hx'
              go_wp2
              go_quiet (first | (go_at_call 40; exact qsame (spec_TextValid_e _ _ HTS.out HT.out)) | (go_at_call 35; exact qsame (spec_PrintOf_e _ _ HTS.out HZ.out)))
              go_wp2
              go_roundw
              case rel => exact ⟨k + 1, _, by omega, by go_num, HS.out, rfl⟩
              case measure => simp [intOf]; omega
            · have hd1 : decide (z ≤ r') = true := by simp; omega
              have HO := hid (st_stop (l := xs) hx.out (by rw [hL]; exact hlast))
              clear hlast hL hx'
              go_wp2
              go_quiet (first | (go_at_call 40; exact qsame (spec_TextValid_e _ _ HTS.out HT.out)) | (go_at_call 35; exact qsame (spec_PrintOf_e _ _ HTS.out HZ.out)))
              go_wp2
              go_ret
              exact ⟨ret_b HO.out.symm, _, World.drewN_drewN _ _ _⟩
        · have HO := hid (st_no hx.out (pcOk_no2 HZ.out (Ne.symm hrz) _))
          have hne : (z != r) = true := by simpa using hrz
          clear h3
          go_wp2
          go_quiet (first | (go_at_call 40; exact qsame (spec_TextValid_e _ _ HTS.out HT.out)) | (go_at_call 35; exact qsame (spec_PrintOf_e _ _ HTS.out HZ.out)))
          go_wp2
          go_ret
          exact ⟨ret_b HO.out.symm, _, World.drewN_drewN _ _ _⟩
    · have hall' := hall.out
      rw [take_all HN.out (show n ≤ k by omega)] at hall'
      have HO := hid (show storeOk xs = decide ((n : Int) ≤ 40) by unfold storeOk; rw [hall', HN.out]; simp; omega)
      clear hall' h3
      go_wp2
      go_ret
      exact ⟨ret_b HO.out.symm, q, rfl⟩

set_option maxHeartbeats 2000000 in
set_option maxRecDepth 100000 in
theorem spec_l4Get_c (v : Value) (xs : List Pc) (y : Int) (B : Nat) (w : World) (h : Pcs w B v xs) :
    Calls Try.prog 27 #[v, .int .i64 y] w fun e w' => e = .returned (.tuple #[.string ((getP xs y).getD ByteArray.empty), .bool (hasP xs y)]) ∧ w = w' := by
  obtain ⟨n, hn⟩ : ∃ n, xs.length = n := ⟨_, rfl⟩
  obtain ⟨a, c, rfl, h1, h2, h3⟩ := h.pcs hn
  have HN := hid hn
  clear hn h
  go_enter Try.func27, Try.ntmps27
  go_wp2
  go_loop [6] (fun i => ∃ k : Nat, k ≤ n ∧ i = .int .i64 k ∧ Hid (∀ j x, j < k → xs[j]? = some x → x.print ≠ y)) (fun i => n - (intOf i).toNat)
  case atStart => exact ⟨0, Nat.zero_le _, rfl, hid (fun j x hj => absurd hj (by omega))⟩
  case round =>
    obtain ⟨k, hk, rfl, hall⟩ := hrel
    by_cases hlt : k < n
    · obtain ⟨b, o, r, t, rfl, hbl, hx, k0, k1⟩ := h3 k hlt
      clear h3
      by_cases hry : r = y
      · subst hry
        have HG := hid (getP_at hx.out (fun j x hj hg => hall.out j x hj hg))
        have HO := hid (show ((getP xs r).getD ByteArray.empty, hasP xs r) = (t, true) by unfold hasP; rw [HG.out]; rfl)
        go_wp2
        go_ret2
        exact ⟨by rw [(Prod.mk.inj HO.out).1, (Prod.mk.inj HO.out).2]; rfl, rfl⟩
      · have hne : (r == y) = false := by simpa using hry
        have HS := hid (show ∀ j x, j < k + 1 → xs[j]? = some x → x.print ≠ y by
          intro j x hj hg
          rcases Nat.lt_succ_iff_lt_or_eq.1 hj with h | rfl
          · exact hall.out j x h hg
          · rw [hx.out] at hg; rw [← Option.some.inj hg]; exact hry)
        clear hry
        go_wp2
        go_round
        case rel => exact ⟨k + 1, by omega, by go_num, HS.out⟩
        case measure => simp [intOf]; omega
    · have HG := hid (show getP xs y = none by
        refine getP_none (fun x hx => ?_)
        obtain ⟨j, hj, e⟩ := List.getElem_of_mem hx
        exact hall.out j x (by have := HN.out; omega) (by rw [List.getElem?_eq_getElem hj, e]))
      have HO := hid (show ((getP xs y).getD ByteArray.empty, hasP xs y) = (ByteArray.empty, false) by unfold hasP; rw [HG.out]; rfl)
      go_wp2
      go_ret2
      exact ⟨by rw [(Prod.mk.inj HO.out).1, (Prod.mk.inj HO.out).2]; rfl, rfl⟩

end Go.Proofs.Ytfdhaigmekmboaa
