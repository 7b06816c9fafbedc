/- Walks and plain facts, joined: Store, PutS, SetW, DropW, WalkW, Wrt2. -/
import Derived.Test.YtfdhaigmekmboaaDoorMg2
import Derived.Test.YtfdhaigmekmboaaDoorMg3
import Derived.Test.YtfdhaigmekmboaaDoorMg4
import Derived.Laws.ResultCell
import Derived.Handy
import Derived.Deep.DeepCutAuto
set_option linter.unusedVariables false

/- Walks: valid stores, and the text with a print. -/
namespace Go.Proofs.YtfdhaigmekmboaaDoor
open Go.RowKit

theorem impl_TextValid_e (s : ByteArray) (w : World) {x : Bool} (h : textOk (bs s) = x) :
    Calls Tryd.prog 32 #[.string s] w fun e w' => e = .returned (.bool x) ∧ w = w' := h ▸ impl_TextValid_c s w

theorem impl_PrintOf_e (s : ByteArray) (w : World) {x : Int} (h : printOf (bs s) = x) :
    Calls Tryd.prog 33 #[.string s] w fun e w' => e = .returned (.int .i64 x) ∧ w = w' := h ▸ impl_PrintOf_c s w

theorem spec_TextValid_e (s : ByteArray) (w : World) {x : Bool} (hs : s.size ≤ 4611686018427387904) (h : textOk (bs s) = x) :
    Calls Tryd.prog 52 #[.string s] w fun e w' => e = .returned (.bool x) ∧ w = w' := h ▸ spec_TextValid_c s w hs

theorem spec_PrintOf_e (s : ByteArray) (w : World) {x : Int} (hs : s.size ≤ 4611686018427387904) (h : printOf (bs s) = x) :
    Calls Tryd.prog 53 #[.string s] w fun e w' => e = .returned (.int .i64 x) ∧ w = w' := h ▸ spec_PrintOf_c s w hs

theorem pcOk_no1 {r : Int} {t : ByteArray} (h : textOk (bs t) = false) (y : Bool) : (pcOk ⟨r, t⟩ && y) = false := by simp [pcOk, h]
theorem pcOk_no2 {r z : Int} {t : ByteArray} (h : printOf (bs t) = z) (hz : r ≠ z) (y : Bool) : (pcOk ⟨r, t⟩ && y) = false := by simp [pcOk, h, hz]
theorem pcOk_yes {r : Int} {t : ByteArray} (h : textOk (bs t) = true) (hz : printOf (bs t) = r) : pcOk ⟨r, t⟩ = true := by simp [pcOk, h, hz]

theorem st_step {l : List Pc} {k : Nat} {x : Pc} (h : l[k]? = some x) (h0 : stFrom (-1) (l.take k) = true) (h1 : pcOk x = true) (h2 : lastAt (-1) l k < x.print) : stFrom (-1) (l.take (k + 1)) = true := by
  rw [stFrom_succ l (-1) k _ h, h0, h1, decide_eq_true h2]; rfl
theorem st_stop {l : List Pc} {k : Nat} {x : Pc} (h : l[k]? = some x) (h2 : ¬ lastAt (-1) l k < x.print) : storeOk l = false := st_no h (by rw [decide_eq_false h2]; exact Bool.and_false _)

set_option maxHeartbeats 2000000 in
set_option maxRecDepth 100000 in
theorem impl_StoreValid_c (v : Value) (xs : List Pc) (w : World) (h : Pcs w w.heap.size v xs) :
    Calls Tryd.prog 11 #[v] w fun e w' => e = .returned (.bool (storeOk xs)) ∧ Below w.heap.size w w' := by
  obtain ⟨n, hn⟩ : ∃ n, xs.length = n := ⟨_, rfl⟩
  obtain ⟨a, c, rfl, h1, h2, h3⟩ := h.pcs hn
  have HN := hid hn
  clear hn h
  by_cases c1 : 40 < n
  · have HO := hid (st_long (l := xs) (by rw [HN.out]; exact c1))
    clear h3
    go_enter Tryd.func11, Tryd.ntmps11
    go_wp2
    go_ret
    exact ⟨ret_b HO.out.symm, Below.refl _ _⟩
  · go_enter Tryd.func11, Tryd.ntmps11
    go_wp2
    go_loopw [10] (fun i wr => ∃ k : Nat, k ≤ n ∧ i = .int .i64 k ∧ Hid (stFrom (-1) (xs.take k) = true) ∧ Below w.heap.size w wr) (fun i _ => n - (intOf i).toNat)
    case atStart => exact ⟨0, Nat.zero_le _, rfl, rfl, Below.refl _ _⟩
    case round =>
      obtain ⟨k, hk, rfl, hall, hb⟩ := hrel
      by_cases hlt : k < n
      · obtain ⟨b, o, r, t, rfl, hbl, hx, k0, k1⟩ := h3 k hlt
        have j0 := (hb.cell (p := ⟨b, o + k * 2, none⟩) hbl).trans k0
        have j1 := (hb.cell (p := ⟨b, o + k * 2 + 1, none⟩) hbl).trans k1
        have HAL : Hid (∀ cs q, Below w.heap.size w ((wr.alloc (.cells cs 34)).drewN q)) := fun cs q => bl_drewN (hb.alloc hb.size _) q
        clear k0 k1
        obtain ⟨z, hz⟩ : ∃ z, printOf (bs t) = z := ⟨_, rfl⟩
        have HZ := hid hz
        cases ht : textOk (bs t)
        · have HO := hid (st_no hx.out (pcOk_no1 ht _))
          have HT := hid ht
          clear h3 ht hz
          go_wp2
          go_quiet (first | (go_at_call 32; exact qsame (impl_TextValid_e _ _ HT.out)) | fail)
          go_wp2
          go_ret
          exact ⟨ret_b HO.out.symm, HAL.out _ _⟩
        · have HT := hid ht
          clear ht hz
          by_cases hrz : r = z
          · subst hrz
            have HP := hid (pcOk_yes (r := r) HT.out HZ.out)
            by_cases hk0 : k = 0
            · have hd0 : decide (0 < k) = false := by simp; omega
              have HS := hid (st_step hx.out hall.out HP.out (by rw [hk0, lastAt_zero]; have := (pcOk_pv HP.out).1; simp only at this ⊢; omega))
              clear h3 hk0
              go_wp2
              go_quiet (first | (go_at_call 32; exact qsame (impl_TextValid_e _ _ HT.out)) | (go_at_call 33; exact qsame (impl_PrintOf_e _ _ HZ.out)))
              go_wp2
              go_quiet (fail)
              go_wp2
              go_roundw
              case rel => exact ⟨k + 1, by omega, by go_num, HS.out, HAL.out _ _⟩
              case measure => simp [intOf]; omega
            · obtain ⟨j, hj⟩ : ∃ j, k = j + 1 := ⟨k - 1, by omega⟩
              obtain ⟨b', o', r', t', hbo, hbl', hx', k0', _⟩ := h3 j (by omega)
              simp only [Option.some.injEq, Addr.mk.injEq, and_true] at hbo
              obtain ⟨rfl, rfl⟩ := hbo
              have i0 := (hb.cell (p := ⟨b, o + j * 2, none⟩) hbl').trans k0'
              have i1 : (wr.alloc (.cells #[.int .i64 r, .string t] 34)).cell? ⟨b, o + j * 2, none⟩ = some (.int .i64 r') := (((Below.refl wr.heap.size wr).alloc (Nat.le_refl _) _).cell (p := ⟨b, o + j * 2, none⟩) (Nat.lt_of_lt_of_le hbl hb.size)).trans i0
              have hL := lastAt_succ (i := -1) hx'.out
              rw [← hj] at hL
              have hd0 : decide (0 < k) = true := by simp; omega
              have hkj : (k : Int) - 1 = (j : Int) := by omega
              have hw1 : IntKind.i64.wrap (j : Int) = (j : Int) := IntWalk.i64_in _ (by omega)
              have hjn : (j : Int) < n := by omega
              clear h3 k0' hk0 hj
              by_cases hlast : r' < r
              · have hd1 : decide (r ≤ r') = false := by simp; omega
                have HS := hid (st_step hx.out hall.out HP.out (by rw [hL]; exact hlast))
                clear hlast hL hx'
                go_wp2
                go_quiet (first | (go_at_call 32; exact qsame (impl_TextValid_e _ _ HT.out)) | (go_at_call 33; exact qsame (impl_PrintOf_e _ _ HZ.out)))
                go_wp2
                go_quiet (fail)
                go_wp2
                go_roundw
                case rel => exact ⟨k + 1, by omega, by go_num, HS.out, HAL.out _ _⟩
                case measure => simp [intOf]; omega
              · have hd1 : decide (r ≤ r') = true := by simp; omega
                have HO := hid (st_stop (l := xs) hx.out (by rw [hL]; exact hlast))
                clear hlast hL hx'
                go_wp2
                go_quiet (first | (go_at_call 32; exact qsame (impl_TextValid_e _ _ HT.out)) | (go_at_call 33; exact qsame (impl_PrintOf_e _ _ HZ.out)))
                go_wp2
                go_quiet (fail)
                go_wp2
                go_ret
                exact ⟨ret_b HO.out.symm, bl_drewN (HAL.out _ _) _⟩
          · have HO := hid (st_no hx.out (pcOk_no2 HZ.out hrz _))
            have hne : (r != z) = true := by simpa using hrz
            clear h3
            go_wp2
            go_quiet (first | (go_at_call 32; exact qsame (impl_TextValid_e _ _ HT.out)) | (go_at_call 33; exact qsame (impl_PrintOf_e _ _ HZ.out)))
            go_wp2
            go_ret
            exact ⟨ret_b HO.out.symm, HAL.out _ _⟩
      · have hall' := hall.out
        rw [take_all HN.out (show n ≤ k by omega)] at hall'
        have HO := hid (show storeOk xs = true by unfold storeOk; rw [hall', HN.out]; simp; omega)
        clear hall' h3
        go_wp2
        go_ret
        exact ⟨ret_b HO.out.symm, hb⟩

set_option maxHeartbeats 2000000 in
set_option maxRecDepth 100000 in
theorem spec_StoreValid_c (v : Value) (xs : List Pc) (B : Nat) (w : World) (h : Pcs w B v xs) (hx0 : ∀ x ∈ xs, x.text.size ≤ 1048576) (hl : xs.length ≤ 1048576) :
    Calls Tryd.prog 30 #[v] w fun e w' => e = .returned (.bool (storeOk xs)) ∧ ∃ q, w' = w.drewN q := by
  obtain ⟨n, hn⟩ : ∃ n, xs.length = n := ⟨_, rfl⟩
  obtain ⟨a, c, rfl, h1, h2, h3⟩ := h.pcs hn
  rw [hn] at hl
  have HN := hid hn
  have HX := hid hx0
  clear hn h hx0
  go_enter Tryd.func30, Tryd.ntmps30
  go_wp2
  go_loopw [3] (fun i wr => ∃ k q : Nat, k ≤ n ∧ i = .int .i64 k ∧ Hid (stFrom (-1) (xs.take k) = true) ∧ wr = w.drewN q) (fun i _ => n - (intOf i).toNat)
  case atStart => exact ⟨0, 0, Nat.zero_le _, rfl, rfl, rfl⟩
  case round =>
    obtain ⟨k, q, hk, rfl, hall, rfl⟩ := hrel
    by_cases hlt : k < n
    · obtain ⟨b, o, r, t, rfl, hbl, hx, k0, k1⟩ := h3 k hlt
      have hts : t.size ≤ 4611686018427387904 := Nat.le_trans (HX.out _ (List.mem_of_getElem? hx.out)) (by omega)
      have HTS := hid hts
      clear hts
      obtain ⟨z, hz⟩ : ∃ z, printOf (bs t) = z := ⟨_, rfl⟩
      have HZ := hid hz
      cases ht : textOk (bs t)
      · have HO := hid (st_no hx.out (pcOk_no1 ht _))
        have HT := hid ht
        clear h3 ht hz
        go_wp2
        go_quiet (first | (go_at_call 52; exact qsame (spec_TextValid_e _ _ HTS.out HT.out)) | fail)
        go_wp2
        go_ret
        exact ⟨ret_b HO.out.symm, _, World.drewN_drewN _ _ _⟩
      · have HT := hid ht
        clear ht hz
        by_cases hrz : z = r
        · subst hrz
          have HP := hid (pcOk_yes HT.out HZ.out)
          by_cases hk0 : k = 0
          · have hd0 : decide (0 < k) = false := by simp; omega
            have HS := hid (st_step hx.out hall.out HP.out (by rw [hk0, lastAt_zero]; have := (pcOk_pv HP.out).1; simp only at this ⊢; omega))
            clear h3 hk0
            go_wp2
            go_quiet (first | (go_at_call 52; exact qsame (spec_TextValid_e _ _ HTS.out HT.out)) | (go_at_call 53; exact qsame (spec_PrintOf_e _ _ HTS.out HZ.out)))
            go_wp2
            go_roundw
            case rel => exact ⟨k + 1, _, by omega, by go_num, HS.out, rfl⟩
            case measure => simp [intOf]; omega
          · obtain ⟨j, hj⟩ : ∃ j, k = j + 1 := ⟨k - 1, by omega⟩
            obtain ⟨b', o', r', t', hbo, hbl', hx', k0', _⟩ := h3 j (by omega)
            simp only [Option.some.injEq, Addr.mk.injEq, and_true] at hbo
            obtain ⟨rfl, rfl⟩ := hbo
            have hL := lastAt_succ (i := -1) hx'.out
            rw [← hj] at hL
            have hd0 : decide (0 < k) = true := by simp; omega
            have hkj : (k : Int) - 1 = (j : Int) := by omega
            have hw1 : IntKind.i64.wrap (j : Int) = (j : Int) := IntWalk.i64_in _ (by omega)
            have hjn : (j : Int) < n := by omega
            clear h3 hk0 hj
            by_cases hlast : r' < z
            · have hd1 : decide (z ≤ r') = false := by simp; omega
              have HS := hid (st_step hx.out hall.out HP.out (by rw [hL]; exact hlast))
              clear hlast hL hx'
              go_wp2
              go_quiet (first | (go_at_call 52; exact qsame (spec_TextValid_e _ _ HTS.out HT.out)) | (go_at_call 53; exact qsame (spec_PrintOf_e _ _ HTS.out HZ.out)))
              go_wp2
              go_roundw
              case rel => exact ⟨k + 1, _, by omega, by go_num, HS.out, rfl⟩
              case measure => simp [intOf]; omega
            · have hd1 : decide (z ≤ r') = true := by simp; omega
              have HO := hid (st_stop (l := xs) hx.out (by rw [hL]; exact hlast))
              clear hlast hL hx'
              go_wp2
              go_quiet (first | (go_at_call 52; exact qsame (spec_TextValid_e _ _ HTS.out HT.out)) | (go_at_call 53; exact qsame (spec_PrintOf_e _ _ HTS.out HZ.out)))
              go_wp2
              go_ret
              exact ⟨ret_b HO.out.symm, _, World.drewN_drewN _ _ _⟩
        · have HO := hid (st_no hx.out (pcOk_no2 HZ.out (Ne.symm hrz) _))
          have hne : (z != r) = true := by simpa using hrz
          clear h3
          go_wp2
          go_quiet (first | (go_at_call 52; exact qsame (spec_TextValid_e _ _ HTS.out HT.out)) | (go_at_call 53; exact qsame (spec_PrintOf_e _ _ HTS.out HZ.out)))
          go_wp2
          go_ret
          exact ⟨ret_b HO.out.symm, _, World.drewN_drewN _ _ _⟩
    · have hall' := hall.out
      rw [take_all HN.out (show n ≤ k by omega)] at hall'
      have HO := hid (show storeOk xs = decide ((n : Int) ≤ 40) by unfold storeOk; rw [hall', HN.out]; simp; omega)
      clear hall' h3
      go_wp2
      go_ret
      exact ⟨ret_b HO.out.symm, q, rfl⟩

set_option maxHeartbeats 2000000 in
set_option maxRecDepth 100000 in
theorem spec_l4Get_c (v : Value) (xs : List Pc) (y : Int) (B : Nat) (w : World) (h : Pcs w B v xs) :
    Calls Tryd.prog 40 #[v, .int .i64 y] w fun e w' => e = .returned (.tuple #[.string ((getP xs y).getD ByteArray.empty), .bool (hasP xs y)]) ∧ w = w' := by
  obtain ⟨n, hn⟩ : ∃ n, xs.length = n := ⟨_, rfl⟩
  obtain ⟨a, c, rfl, h1, h2, h3⟩ := h.pcs hn
  have HN := hid hn
  clear hn h
  go_enter Tryd.func40, Tryd.ntmps40
  go_wp2
  go_loop [6] (fun i => ∃ k : Nat, k ≤ n ∧ i = .int .i64 k ∧ Hid (∀ j x, j < k → xs[j]? = some x → x.print ≠ y)) (fun i => n - (intOf i).toNat)
  case atStart => exact ⟨0, Nat.zero_le _, rfl, hid (fun j x hj => absurd hj (by omega))⟩
  case round =>
    obtain ⟨k, hk, rfl, hall⟩ := hrel
    by_cases hlt : k < n
    · obtain ⟨b, o, r, t, rfl, hbl, hx, k0, k1⟩ := h3 k hlt
      clear h3
      by_cases hry : r = y
      · subst hry
        have HG := hid (getP_at hx.out (fun j x hj hg => hall.out j x hj hg))
        have HO := hid (show ((getP xs r).getD ByteArray.empty, hasP xs r) = (t, true) by unfold hasP; rw [HG.out]; rfl)
        go_wp2
        go_ret2
        exact ⟨by rw [(Prod.mk.inj HO.out).1, (Prod.mk.inj HO.out).2]; rfl, rfl⟩
      · have hne : (r == y) = false := by simpa using hry
        have HS := hid (show ∀ j x, j < k + 1 → xs[j]? = some x → x.print ≠ y by
          intro j x hj hg
          rcases Nat.lt_succ_iff_lt_or_eq.1 hj with h | rfl
          · exact hall.out j x h hg
          · rw [hx.out] at hg; rw [← Option.some.inj hg]; exact hry)
        clear hry
        go_wp2
        go_round
        case rel => exact ⟨k + 1, by omega, by go_num, HS.out⟩
        case measure => simp [intOf]; omega
    · have HG := hid (show getP xs y = none by
        refine getP_none (fun x hx => ?_)
        obtain ⟨j, hj, e⟩ := List.getElem_of_mem hx
        exact hall.out j x (by have := HN.out; omega) (by rw [List.getElem?_eq_getElem hj, e]))
      have HO := hid (show ((getP xs y).getD ByteArray.empty, hasP xs y) = (ByteArray.empty, false) by unfold hasP; rw [HG.out]; rfl)
      go_wp2
      go_ret2
      exact ⟨by rw [(Prod.mk.inj HO.out).1, (Prod.mk.inj HO.out).2]; rfl, rfl⟩

end Go.Proofs.YtfdhaigmekmboaaDoor

/- Walks: the reference's text that is put. -/
namespace Go.Proofs.YtfdhaigmekmboaaDoor
open Go.RowKit

theorem str_neS {u t : ByteArray} (h : u ≠ t) : (u.toList == t.toList) = false := by
  rw [beq_eq_false_iff_ne]
  intro e
  rw [ByteArray.toList_eq, ByteArray.toList_eq] at e
  exact h (Go.WideShapes.bytes_inj e)
theorem some_neS {a b : Nat} (h : a ≠ b) : some a ≠ some b := fun e => h (Option.some.inj e)
def isEmpP (B : Nat) : Value → World → Prop := fun v w => ∃ b, v = .slice (some ⟨b, 0, none⟩) 0 0 ∧ B ≤ b ∧ w.heap[b]? = some (.cells #[] 34 (0, 0)) ∧ OwnP w B v []
def isOwnP (B : Nat) (xs : List Pc) : Value → World → Prop := fun v w => OwnP w B v xs
def isLitP (B : Nat) (p : Int) (t : ByteArray) : Value → World → Prop := fun v w => ∃ b, v = .slice (some ⟨b, 0, none⟩) 1 1 ∧ B ≤ b ∧ w.heap[b]? = some (.cells #[.int .i64 p, .string t] 34 (0, 0))
def isRdP (W0 : World) (xs : List Pc) : Value → World → Prop := fun v _ => Pcs W0 W0.heap.size v xs
def paF (W0 : World) (sl : Value) (xs : List Pc) (q : Nat) (p : Int) (t : ByteArray) : List (Value → World → Prop) :=
  [isEmpP W0.heap.size, isV sl, isV (.int .i64 q), isRdP W0 (xs.take q), isOwnP W0.heap.size ([] ++ xs.take q), isV (.int .i64 p), isV (.string t), isV (.agg #[.int .i64 p, .string t]), isLitP W0.heap.size p t,
   isOwnP W0.heap.size ([] ++ xs.take q ++ [⟨p, t⟩]), isV sl, isV (.int .i64 q), isRdP W0 (xs.drop q), isOwnP W0.heap.size ([] ++ xs.take q ++ [⟨p, t⟩] ++ xs.drop q), isV (.int .i64 p), isOwnP W0.heap.size ([] ++ xs.take q ++ [⟨p, t⟩] ++ xs.drop q), isV (.int .i64 p), isV (.bool true)]
/-- The appends use up what they append to, and the literal. -/
def paCons (j i : Nat) : Bool := (j == 4 && i == 0) || (j == 9 && (i == 4 || i == 8)) || (j == 13 && i == 9)
def paS (j : Nat) (w w' : World) : Prop := w = w' ∨ Below w.heap.size w w' ∨ (j = 4 ∧ ∃ b, w.heap[b]? = some (.cells #[] 34 (0, 0)) ∧ w.grownBy w' (Value.ownBlock (.slice (some ⟨b, 0, none⟩) 0 0))) ∨ j = 9 ∨
  (j = 13 ∧ ∃ (g : Nat) (cs : Array Value), w.heap[g]? = some (.cells cs 34 (0, 0)) ∧ 0 < cs.size ∧ w.grownBy w' (some g))
theorem own_row {w : World} {B : Nat} {v : Value} {xs : List Pc} (h : OwnP w B v xs) (h0 : 0 < xs.length) : ∃ (g : Nat) (cs : Array Value), v.ownBlock = some g ∧ w.heap[g]? = some (.cells cs 34 (0, 0)) ∧ 0 < cs.size := by
  rcases h.2 with ⟨_, h2⟩ | ⟨g, cap, cur, rfl, hb, hg, hnc, hcm, hcs, ht⟩
  · omega
  · exact ⟨g, cur, rfl, hg, by omega⟩
theorem own_far_emp {w w' : World} {B b : Nat} {v : Value} {xs : List Pc} (h : OwnP w B v xs) (hh : w.heap[b]? = some (.cells #[] 34 (0, 0))) (hg : w.grownBy w' (Value.ownBlock (.slice (some ⟨b, 0, none⟩) 0 0))) (h0 : 0 < xs.length) : OwnP w' B v xs := by
  obtain ⟨g, cs, hv, h1, h2⟩ := own_row h h0
  refine h.kept hg (.inr ?_)
  rw [hv]
  intro e
  have e2 : g = b := Option.some.inj e
  subst e2
  rw [hh] at h1
  simp at h1
  subst h1
  simp at h2

/-- The first so many of a row, and the rest. -/
theorem Rd.frontP {w : World} {B n c q : Nat} {a : Option Addr} {xs : List Pc} (h : Pcs w B (.slice a n c) xs) (hn : xs.length = n) (hq : q ≤ n) : Pcs w B (.slice a q c) (xs.take q) := by
  obtain ⟨a', c', hv, h1, h2, h3, h4⟩ := h
  simp only [Value.slice.injEq] at hv
  obtain ⟨rfl, rfl, rfl⟩ := hv
  refine ⟨a, c, by rw [List.length_take, Nat.min_eq_left hq], by rw [List.length_take]; omega, h2, by rw [flatP_take, List.length_take, h3, List.length_take, Nat.min_eq_left (by omega), Nat.min_eq_left hq], fun h0 => ?_⟩
  rw [List.length_take] at h0
  obtain ⟨b, o, rfl, hb, hat⟩ := h4 (by omega)
  refine ⟨b, o, rfl, hb, fun j u hu => hat j u ?_⟩
  rw [flatP_take, List.getElem?_take] at hu
  split at hu
  · exact hu
  · cases hu
theorem Rd.backP {w : World} {B n c q : Nat} {a : Option Addr} {xs : List Pc} (h : Pcs w B (.slice a n c) xs) (hn : xs.length = n) (hq : q ≤ n) : Pcs w B (.slice (if c = q then a else a.map (fun (x : Addr) => x.add (q * 2))) (n - q) (c - q)) (xs.drop q) := by
  obtain ⟨a', c', hv, h1, h2, h3, h4⟩ := h
  simp only [Value.slice.injEq] at hv
  obtain ⟨rfl, rfl, rfl⟩ := hv
  refine ⟨_, c - q, by rw [List.length_drop], by rw [List.length_drop]; omega, Nat.le_trans (Nat.sub_le _ _) h2, by rw [flatP_drop, List.length_drop, h3, List.length_drop, Nat.sub_mul], fun h0 => ?_⟩
  rw [List.length_drop] at h0
  obtain ⟨b, o, rfl, hb, hat⟩ := h4 (by omega)
  have hadd : (⟨b, o, none⟩ : Addr).add (q * 2) = ⟨b, o + q * 2, none⟩ := by unfold Addr.add; split <;> simp_all
  refine ⟨b, o + q * 2, by rw [if_neg (by omega)]; simp [hadd], hb, fun j u hu => ?_⟩
  rw [flatP_drop, List.getElem?_drop] at hu
  have := hat (q * 2 + j) u hu
  rwa [← Nat.add_assoc] at this

set_option maxHeartbeats 2000000 in
set_option maxRecDepth 100000 in
theorem spec_PutText_c (v : Value) (xs : List Pc) (t : ByteArray) (w : World) (h : Pcs w w.heap.size v xs) (hx0 : ∀ x ∈ xs, x.text.size ≤ 1048576) (hl0 : xs.length ≤ 1048576) (hts : t.size ≤ 4611686018427387904) :
    Calls Tryd.prog 75 #[v, .string t] w fun e w' => ∃ v', e = .returned (.tuple #[v', .int .i64 (putS xs t).2.1, .bool (putS xs t).2.2]) ∧ OwnP w' w.heap.size v' (putS xs t).1 ∧ Below w.heap.size w w' := by
  obtain ⟨n, hn⟩ : ∃ n, xs.length = n := ⟨_, rfl⟩
  obtain ⟨a, c, rfl, hnc, hc63, h3⟩ := h.pcs hn
  have HN := hid hn
  have HTS := hid hts
  clear hts
  cases hok : storeOk xs
  · have HO := hid (put_off (t := t) hok)
    clear h3 hn
    rw [HO.out]
    go_enter Tryd.func75, Tryd.ntmps75
    go_wp2_with fail
    refine (spec_StoreValid_c _ xs _ _ h hx0 hl0).mono ?_
    rw [hok]
    rintro e w1 ⟨rfl, z, rfl⟩
    go_wp2
    go_ret3
    exact ⟨_, rfl, Own.made _ (Nat.le_refl _), (bl_drewN (Below.refl _ _) z).alloc (Nat.le_refl _) _⟩
  have HK := hid hok
  have h40 := (st_in hok).1
  rw [hn] at h40
  obtain ⟨p, hp⟩ : ∃ p, printOf (bs t) = p := ⟨_, rfl⟩
  have HZ := hid hp
  obtain ⟨q, hq⟩ : ∃ q, findAt xs p = q := ⟨_, rfl⟩
  have HQ := hid hq
  have hqn := findAt_le xs p
  rw [hq, hn] at hqn
  obtain ⟨i0, hi0, hz0, hz1, hz2⟩ := info_parts info_pcO
  go_enter Tryd.func75, Tryd.ntmps75
  go_wp2_with fail
  refine (spec_StoreValid_c _ xs _ _ h hx0 hl0).mono ?_
  rw [HK.out]
  rintro e w1 ⟨rfl, z, rfl⟩
  obtain ⟨W0, hW0⟩ : ∃ W0, W0 = w.drewN z := ⟨_, rfl⟩
  have h' : Pcs W0 W0.heap.size (.slice a n c) xs := by rw [hW0]; exact h.drewN z
  have d0 : Below w.heap.size w W0 := by rw [hW0]; exact bl_drewN (Below.refl _ _) z
  have hB0 : w.heap.size ≤ W0.heap.size := d0.size
  obtain ⟨a', c', hv0, _, _, h3'⟩ := h'.pcs hn
  simp only [Value.slice.injEq] at hv0
  obtain ⟨e1, _, e2⟩ := hv0
  subst e1
  subst e2
  have hfr := h'.frontP hn hqn
  have hbk := h'.backP hn hqn
  have HH := hid h'
  have hal : Below W0.heap.size W0 (W0.alloc (.cells #[] 34)) := (Below.refl _ _).alloc (Nat.le_refl _) _
  rw [← hW0]
  clear hW0 h3 h h' hx0 hl0 hok hp hq
  go_wp2_with fail
  refine (spec_PrintOf_e _ _ HTS.out HZ.out).mono ?_
  rintro e w2 ⟨rfl, rfl⟩
  go_wp2
  go_loop [8] (fun i => ∃ k : Nat, k ≤ q ∧ i = .int .i64 k) (fun i => n - (intOf i).toNat)
  case atStart => exact ⟨0, Nat.zero_le _, rfl⟩
  case round =>
    obtain ⟨k, hk, rfl⟩ := hrel
    by_cases hlt : k < q
    · obtain ⟨b, o, r, u, rfl, hbl, hx, k0, k1⟩ := h3' k (by omega)
      have hrp := findAt_below (l := xs) (n := p) (by rw [HQ.out]; exact hlt) hx.out
      simp only at hrp
      have hkn : (k : Int) < n := by omega
      clear h3' hfr hbk hal
      go_wp2
      go_round
      case rel => exact ⟨k + 1, by omega, by go_num⟩
      case measure => simp [intOf]; omega
    · obtain rfl : k = q := by omega
      by_cases hkn : k < n
      · obtain ⟨b, o, r, u, rfl, hbl, hx, k0, k1⟩ := h3' k hkn
        have hrp := findAt_at (l := xs) (n := p) (by rw [HQ.out]; exact hx.out)
        simp only at hrp
        have hkn' : (k : Int) < n := by omega
        have hyr : hasP xs p = (r == p) := by
          rw [Bool.eq_iff_iff, beq_iff_eq]
          constructor
          · intro hh
            obtain ⟨x, hx1, _, hx3⟩ := st_find HK.out hh
            rw [HQ.out, hx.out] at hx1
            have := Option.some.inj hx1
            subst this
            exact hx3
          · intro e; exact hasP_iff.2 ⟨_, List.mem_of_getElem? hx.out, e⟩
        clear h3'
        cases hry : (r == p)
        · have HY := hid (hyr.trans hry)
          clear hyr
          cases ht : textOk (bs t)
          · have HO := hid (put_bad HK.out ht)
            have hp1 : p = -1 := by have := HZ.out; unfold printOf at this; rw [ht] at this; simpa using this.symm
            have hpd : decide (p < 0) = true := by simp; omega
            clear ht hp1
            go_wp2_with (at_builtin; refine wpList_cat (enc := encP) (w0 := W0.alloc (.cells #[] 34)) rfl _ _ 23 rfl W0.heap.size W0.heap.size 34 i0 _ 2 24 Tryd.underlying23 hi0 hz0 hz1 hz2 rfl (by decide) _ _ [] xs (Own.made W0 (Nat.le_refl _)) _ (HH.out.below hal (Nat.le_refl _)) (Below.refl _ _) (by simp) (Nat.le_refl _) rfl rfl encP_one (by have := HN.out; simp; omega) (by decide) ?_; intro v' w' hown' hb' hB' hg')
            go_ret3
            exact ⟨v', (congrArg (fun z : List Pc × Int × Bool => Ending.returned (.tuple #[v', .int .i64 z.2.1, .bool z.2.2])) HO.out.symm), by rw [HO.out]; exact hown'.less hB0, bl_then d0 (hal.trans hb')⟩
          · have hpp : 0 ≤ p := by have := printOf_in ht; rw [HZ.out] at this; exact (pv_iff.1 this).1
            have hpd : decide (p < 0) = false := by simp; omega
            have hgn : getP xs p = none := by have := HY.out; unfold hasP at this; simpa using this
            by_cases hfull : n = 40
            · have HO := hid (put_full HK.out ht (by rw [HZ.out]; exact hgn) (by rw [HN.out]; exact hfull))
              have hfi : ((n : Int) == 40) = true := by rw [hfull]; rfl
              clear ht hgn hfull
              go_wp2_with (at_builtin; refine wpList_cat (enc := encP) (w0 := W0.alloc (.cells #[] 34)) rfl _ _ 23 rfl W0.heap.size W0.heap.size 34 i0 _ 2 24 Tryd.underlying23 hi0 hz0 hz1 hz2 rfl (by decide) _ _ [] xs (Own.made W0 (Nat.le_refl _)) _ (HH.out.below hal (Nat.le_refl _)) (Below.refl _ _) (by simp) (Nat.le_refl _) rfl rfl encP_one (by have := HN.out; simp; omega) (by decide) ?_; intro v' w' hown' hb' hB' hg')
              go_ret3
              exact ⟨v', (congrArg (fun z : List Pc × Int × Bool => Ending.returned (.tuple #[v', .int .i64 z.2.1, .bool z.2.2])) HO.out.symm), by rw [HO.out]; exact hown'.less hB0, bl_then d0 (hal.trans hb')⟩
            · have HO := hid ((put_new HK.out ht (by rw [HZ.out]; exact hgn) (by rw [HN.out]; exact hfull)).trans (by rw [HZ.out]))
              have hfi : ((n : Int) == 40) = false := by simp; omega
              have HI := hid (show insP xs p t = xs.take k ++ ([⟨p, t⟩] ++ xs.drop k) by unfold insP; rw [HQ.out]; rfl)
              clear ht hgn hfull
              go_wp2
              have hq0 : (k : Int) ≤ n := by omega
              have hqc : (k : Int) ≤ c := by omega
              refine wp_region_inv3d rfl (by kernel_rfl) (by kernel_rfl) (by kernel_rfl) (by kernel_rfl) (by simp) (fun _ w' => Below W0.heap.size W0 w') (fun j w' w'' => paS j w' w'') (fact (paF W0 (.slice (some ⟨b, o, none⟩) n c) xs k p t)) paCons (Below.refl _ _).drew ?hF ?grd ?oo ?cg ?fin
              case hF =>
                intro j i v w' w'' hS hc hne hwt hdp hf
                have hi : i < 18 ∨ 18 ≤ i := by omega
                rcases hi with hi | hi
                · obtain rfl | rfl | rfl | rfl | rfl | rfl | rfl | rfl | rfl | rfl | rfl | rfl | rfl | rfl | rfl | rfl | rfl | rfl : i = 0 ∨ i = 1 ∨ i = 2 ∨ i = 3 ∨ i = 4 ∨ i = 5 ∨ i = 6 ∨ i = 7 ∨ i = 8 ∨ i = 9 ∨ i = 10 ∨ i = 11 ∨ i = 12 ∨ i = 13 ∨ i = 14 ∨ i = 15 ∨ i = 16 ∨ i = 17 := by omega
                  · rcases hS with rfl | hb | ⟨rfl, b, hh, hg⟩ | rfl | ⟨rfl, g, cs, hh, hs, hg⟩
                    · exact hf
                    · obtain ⟨b0, h1, h2, h3, h4⟩ := hf; exact ⟨b0, h1, h2, (hb.block b0 (Array.getElem?_eq_some_iff.1 h3).1).trans h3, h4.on hb⟩
                    · simp [paCons] at hc
                    · have h9 := hdp _ rfl ⟨4, .data⟩ (by simp) rfl; simp [paCons] at h9
                    · obtain ⟨b0, h1, h2, h3, h4⟩ := hf
                      have hne' : b0 ≠ g := by rintro rfl; rw [h3] at hh; simp at hh; subst hh; simp at hs
                      exact ⟨b0, h1, h2, (hg.block b0 (Array.getElem?_eq_some_iff.1 h3).1 (some_neS hne')).trans h3, h4.kept hg (.inr (by rw [h1]; exact some_neS hne'))⟩
                  · exact hf
                  · exact hf
                  · exact hf
                  · rcases hS with rfl | hb | ⟨rfl, b, hh, hg⟩ | rfl | ⟨rfl, g, cs, hh, hs, hg⟩
                    · exact hf
                    · exact Own.on hf hb
                    · exact absurd rfl hne
                    · simp [paCons] at hc
                    · have h9 := hdp _ rfl ⟨9, .data⟩ (by simp) rfl; simp [paCons] at h9
                  · exact hf
                  · exact hf
                  · exact hf
                  · rcases hS with rfl | hb | ⟨rfl, b, hh, hg⟩ | rfl | ⟨rfl, g, cs, hh, hs, hg⟩
                    · exact hf
                    · obtain ⟨b0, h1, h2, h3⟩ := hf; exact ⟨b0, h1, h2, (hb.block b0 (Array.getElem?_eq_some_iff.1 h3).1).trans h3⟩
                    · obtain ⟨b0, h1, h2, h3⟩ := hf; exact ⟨b0, h1, h2, (hg.block b0 (Array.getElem?_eq_some_iff.1 h3).1 (some_neS (by rintro rfl; rw [hh] at h3; simp at h3))).trans h3⟩
                    · simp [paCons] at hc
                    · have h9 := hdp _ rfl ⟨9, .data⟩ (by simp) rfl; simp [paCons] at h9
                  · rcases hS with rfl | hb | ⟨rfl, b, hh, hg⟩ | rfl | ⟨rfl, g, cs, hh, hs, hg⟩
                    · exact hf
                    · exact Own.on hf hb
                    · exact own_far_emp hf hh hg (by simp <;> omega)
                    · exact absurd rfl hne
                    · simp [paCons] at hc
                  · exact hf
                  · exact hf
                  · exact hf
                  · rcases hS with rfl | hb | ⟨rfl, b, hh, hg⟩ | rfl | ⟨rfl, g, cs, hh, hs, hg⟩
                    · exact hf
                    · exact Own.on hf hb
                    · exact own_far_emp hf hh hg (by simp <;> omega)
                    · exact absurd (hwt.symm.trans (c := true) (by kernel_rfl)) (by decide)
                    · exact absurd rfl hne
                  · exact hf
                  · rcases hS with rfl | hb | ⟨rfl, b, hh, hg⟩ | rfl | ⟨rfl, g, cs, hh, hs, hg⟩
                    · exact hf
                    · exact Own.on hf hb
                    · exact own_far_emp hf hh hg (by simp <;> omega)
                    · exact absurd (hwt.symm.trans (c := true) (by kernel_rfl)) (by decide)
                    · exact absurd (hwt.symm.trans (c := true) (by kernel_rfl)) (by decide)
                  · exact hf
                  · exact hf
                · unfold fact at *; rw [List.getD_eq_getElem?_getD, List.getElem?_eq_none (by simpa [paF] using hi)]; trivial
              case grd =>
                intro i oo d bb hi hg v w' hf
                obtain ⟨hlt1, rfl⟩ := Array.getElem?_eq_some_iff.1 hi
                have hlt' : i < 18 := hlt1
                clear hi
                obtain rfl | rfl | rfl | rfl | rfl | rfl | rfl | rfl | rfl | rfl | rfl | rfl | rfl | rfl | rfl | rfl | rfl | rfl : i = 0 ∨ i = 1 ∨ i = 2 ∨ i = 3 ∨ i = 4 ∨ i = 5 ∨ i = 6 ∨ i = 7 ∨ i = 8 ∨ i = 9 ∨ i = 10 ∨ i = 11 ∨ i = 12 ∨ i = 13 ∨ i = 14 ∨ i = 15 ∨ i = 16 ∨ i = 17 := by omega
                all_goals simp at hg
              case cg =>
                intro i oo d bb hi hg j
                obtain ⟨hlt1, rfl⟩ := Array.getElem?_eq_some_iff.1 hi
                have hlt' : i < 18 := hlt1
                clear hi
                obtain rfl | rfl | rfl | rfl | rfl | rfl | rfl | rfl | rfl | rfl | rfl | rfl | rfl | rfl | rfl | rfl | rfl | rfl : i = 0 ∨ i = 1 ∨ i = 2 ∨ i = 3 ∨ i = 4 ∨ i = 5 ∨ i = 6 ∨ i = 7 ∨ i = 8 ∨ i = 9 ∨ i = 10 ∨ i = 11 ∨ i = 12 ∨ i = 13 ∨ i = 14 ∨ i = 15 ∨ i = 16 ∨ i = 17 := by omega
                all_goals simp at hg
              case oo =>
                intro i oo hi qn a' wk hnn hj hb' hd
                obtain ⟨hlt1, rfl⟩ := Array.getElem?_eq_some_iff.1 hi
                have hlt' : i < 18 := hlt1
                clear hi
                obtain rfl | rfl | rfl | rfl | rfl | rfl | rfl | rfl | rfl | rfl | rfl | rfl | rfl | rfl | rfl | rfl | rfl | rfl : i = 0 ∨ i = 1 ∨ i = 2 ∨ i = 3 ∨ i = 4 ∨ i = 5 ∨ i = 6 ∨ i = 7 ∨ i = 8 ∨ i = 9 ∨ i = 10 ∨ i = 11 ∨ i = 12 ∨ i = 13 ∨ i = 14 ∨ i = 15 ∨ i = 16 ∨ i = 17 := by omega
                · exact iv_val (v := .slice (some ⟨wk.heap.size, 0, none⟩) 0 0) (w' := wk.alloc (.cells #[] 34)) (by simp [execOp, go_sem, Result.andThen]) ⟨_, rfl, hj.alloc hj.size _, .inr (.inl ((Below.refl _ _).alloc (Nat.le_refl _) _)), (show isEmpP _ _ _ from ⟨_, rfl, hj.size, heap_alloc_new _ _, Own.made _ hj.size⟩)⟩
                · have b0 : a'.eval (.tmp 0) = .slice (some ⟨b, o, none⟩) n c := hb' 0 (by rfl); have c0 := ev_get b0
                  exact iv_val (v := .slice (some ⟨b, o, none⟩) n c) (by simp [execOp, b0]) ⟨_, rfl, hj, .inl rfl, rfl⟩
                · have b8 : a'.eval (.tmp 8) = .int .i64 k := hb' 8 (by rfl); have c8 := ev_get b8
                  exact iv_val (v := .int .i64 k) (by simp [execOp, b8]) ⟨_, rfl, hj, .inl rfl, rfl⟩
                · have v1 : a'.eval (.tmp 78) = .slice (some ⟨b, o, none⟩) n c := hd ⟨1, .data⟩ (by simp) rfl (by intro j _ hc; revert hc; unfold paCons; simp; try omega); have u1 := ev_get v1
                  have v2 : a'.eval (.tmp 79) = .int .i64 k := hd ⟨2, .data⟩ (by simp) rfl (by intro j _ hc; revert hc; unfold paCons; simp; try omega); have u2 := ev_get v2
                  exact iv_val (v := .slice (some ⟨b, o, none⟩) k c) (by simp [execOp, u1, u2, hqc, go_sem, Result.andThen]) ⟨_, rfl, hj, .inl rfl, (show isRdP W0 (xs.take k) _ wk from hfr)⟩
                · have e0 : isEmpP W0.heap.size (a'.eval (.tmp 77)) wk := hd ⟨0, .data⟩ (by simp) rfl (by intro j _ hc; revert hc; unfold paCons; simp; try omega)
                  obtain ⟨b0, v0, hb0, hh0, o0⟩ := e0
                  have e3 : isRdP W0 (xs.take k) (a'.eval (.tmp 80)) wk := hd ⟨3, .data⟩ (by simp) rfl (by intro j _ hc; revert hc; unfold paCons; simp; try omega)
                  obtain ⟨i0, hi0, hz0, hz1, hz2⟩ := info_parts info_pcO
                  refine wp_cat (enc := encP) wk (.tmp 77) (.tmp 80) 23 rfl W0.heap.size 34 i0 _ 2 24 Tryd.underlying23 hi0 hz0 hz1 hz2 rfl (by decide) (a'.eval (.tmp 77)) (a'.eval (.tmp 80)) [] (xs.take k) rfl rfl o0 _ (Rd.below e3 hj (Nat.le_refl _)) encP_one (by simp; omega) (by decide) hj.size ?_
                  intro v' w' ho hg hg'
                  rw [v0] at hg
                  exact ⟨_, rfl, hj.grown hg hj.size (fun g hg1 => by simp [Value.ownBlock] at hg1; omega), .inr (.inr (.inl ⟨rfl, b0, hh0, hg⟩)), (show isOwnP _ _ _ _ from ho)⟩
                · have b7 : a'.eval (.tmp 7) = .int .i64 p := hb' 7 (by rfl); have c7 := ev_get b7
                  exact iv_val (v := .int .i64 p) (by simp [execOp, b7]) ⟨_, rfl, hj, .inl rfl, rfl⟩
                · have b1 : a'.eval (.tmp 1) = .string t := hb' 1 (by rfl); have c1 := ev_get b1
                  exact iv_val (v := .string t) (by simp [execOp, b1]) ⟨_, rfl, hj, .inl rfl, rfl⟩
                · have v5 : a'.eval (.tmp 82) = .int .i64 p := hd ⟨5, .data⟩ (by simp) rfl (by intro j _ hc; revert hc; unfold paCons; simp; try omega); have u5 := ev_get v5
                  have v6 : a'.eval (.tmp 83) = .string t := hd ⟨6, .data⟩ (by simp) rfl (by intro j _ hc; revert hc; unfold paCons; simp; try omega); have u6 := ev_get v6
                  exact iv_val (v := .agg #[.int .i64 p, .string t]) (by simp [execOp, u5, u6, go_sem, Result.andThen]) ⟨_, rfl, hj, .inl rfl, rfl⟩
                · have v7 : a'.eval (.tmp 84) = .agg #[.int .i64 p, .string t] := hd ⟨7, .data⟩ (by simp) rfl (by intro j _ hc; revert hc; unfold paCons; simp; try omega); have u7 := ev_get v7
                  exact iv_val (v := .slice (some ⟨wk.heap.size, 0, none⟩) 1 1) (w' := wk.alloc (.cells #[.int .i64 p, .string t] 34)) (by simp [execOp, u7, go_sem, Result.andThen]) ⟨_, rfl, hj.alloc hj.size _, .inr (.inl ((Below.refl _ _).alloc (Nat.le_refl _) _)), (show isLitP _ _ _ _ _ from ⟨_, rfl, hj.size, heap_alloc_new _ _⟩)⟩
                · have e4 : isOwnP W0.heap.size ([] ++ xs.take k) (a'.eval (.tmp 81)) wk := hd ⟨4, .data⟩ (by simp) rfl (by intro j _ hc; revert hc; unfold paCons; simp; try omega)
                  have e8 : isLitP W0.heap.size p t (a'.eval (.tmp 85)) wk := hd ⟨8, .data⟩ (by simp) rfl (by intro j _ hc; revert hc; unfold paCons; simp; try omega)
                  obtain ⟨b8, v8, hb8, hh8⟩ := e8
                  obtain ⟨i0, hi0, hz0, hz1, hz2⟩ := info_parts info_pcO
                  refine wp_cat (enc := encP) wk (.tmp 81) (.tmp 85) 23 rfl W0.heap.size 34 i0 _ 2 24 Tryd.underlying23 hi0 hz0 hz1 hz2 rfl (by decide) (a'.eval (.tmp 81)) (.slice (some ⟨b8, 0, none⟩) 1 1) ([] ++ xs.take k) [(⟨p, t⟩ : Pc)] rfl v8 e4 _ (lit_rdP hh8) encP_one (by simp; omega) (by decide) hj.size ?_
                  intro v' w' ho hg hg'
                  exact ⟨_, rfl, hj.grown hg hj.size (fun g hg1 => (Own.lt e4 g hg1).1), .inr (.inr (.inr (.inl rfl))), (show isOwnP _ _ _ _ from ho)⟩
                · have b0 : a'.eval (.tmp 0) = .slice (some ⟨b, o, none⟩) n c := hb' 0 (by rfl); have c0 := ev_get b0
                  exact iv_val (v := .slice (some ⟨b, o, none⟩) n c) (by simp [execOp, b0]) ⟨_, rfl, hj, .inl rfl, rfl⟩
                · have b8 : a'.eval (.tmp 8) = .int .i64 k := hb' 8 (by rfl); have c8 := ev_get b8
                  exact iv_val (v := .int .i64 k) (by simp [execOp, b8]) ⟨_, rfl, hj, .inl rfl, rfl⟩
                · have v10 : a'.eval (.tmp 87) = .slice (some ⟨b, o, none⟩) n c := hd ⟨10, .data⟩ (by simp) rfl (by intro j _ hc; revert hc; unfold paCons; simp; try omega); have u10 := ev_get v10
                  have v11 : a'.eval (.tmp 88) = .int .i64 k := hd ⟨11, .data⟩ (by simp) rfl (by intro j _ hc; revert hc; unfold paCons; simp; try omega); have u11 := ev_get v11
                  refine iv_val (v := .slice (if c = k then (some ⟨b, o, none⟩) else Option.map (fun (x : Addr) => x.add (k * 2)) (some ⟨b, o, none⟩)) (n - k) (c - k)) ?_ ⟨_, rfl, hj, .inl rfl, (show isRdP W0 (xs.drop k) _ wk from hbk)⟩
                  simp [execOp, u10, u11, hq0, go_sem, Result.andThen]
                · have e9 : isOwnP W0.heap.size ([] ++ xs.take k ++ [(⟨p, t⟩ : Pc)]) (a'.eval (.tmp 86)) wk := hd ⟨9, .data⟩ (by simp) rfl (by intro j _ hc; revert hc; unfold paCons; simp; try omega)
                  have e12 : isRdP W0 (xs.drop k) (a'.eval (.tmp 89)) wk := hd ⟨12, .data⟩ (by simp) rfl (by intro j _ hc; revert hc; unfold paCons; simp; try omega)
                  obtain ⟨i0, hi0, hz0, hz1, hz2⟩ := info_parts info_pcO
                  obtain ⟨g9, cs9, hg9, hh9, hs9⟩ := own_row e9 (by simp)
                  refine wp_cat (enc := encP) wk (.tmp 86) (.tmp 89) 23 rfl W0.heap.size 34 i0 _ 2 24 Tryd.underlying23 hi0 hz0 hz1 hz2 rfl (by decide) (a'.eval (.tmp 86)) (a'.eval (.tmp 89)) ([] ++ xs.take k ++ [(⟨p, t⟩ : Pc)]) (xs.drop k) rfl rfl e9 _ (Rd.below e12 hj (Nat.le_refl _)) encP_one (by simp; omega) (by decide) hj.size ?_
                  intro v' w' ho hg hg'
                  exact ⟨_, rfl, hj.grown hg hj.size (fun g hg1 => (Own.lt e9 g hg1).1), .inr (.inr (.inr (.inr ⟨rfl, g9, cs9, hh9, hs9, hg9 ▸ hg⟩))), (show isOwnP _ _ _ _ from ho)⟩
                · have b7 : a'.eval (.tmp 7) = .int .i64 p := hb' 7 (by rfl); have c7 := ev_get b7
                  exact iv_val (v := .int .i64 p) (by simp [execOp, b7]) ⟨_, rfl, hj, .inl rfl, rfl⟩
                · have e13 : isOwnP W0.heap.size ([] ++ xs.take k ++ [(⟨p, t⟩ : Pc)] ++ xs.drop k) (a'.eval (.tmp 90)) wk := hd ⟨13, .data⟩ (by simp) rfl (by intro j _ hc; revert hc; unfold paCons; simp; try omega)
                  exact iv_val (v := a'.eval (.tmp 90)) (by simp [execOp]) ⟨_, rfl, hj, .inl rfl, e13⟩
                · have v14 : a'.eval (.tmp 91) = .int .i64 p := hd ⟨14, .data⟩ (by simp) rfl (by intro j _ hc; revert hc; unfold paCons; simp; try omega); have u14 := ev_get v14
                  exact iv_val (v := .int .i64 p) (by simp [execOp, v14]) ⟨_, rfl, hj, .inl rfl, rfl⟩
                · exact iv_val (v := .bool true) (by simp [execOp, Act.eval]) ⟨_, rfl, hj, .inl rfl, rfl⟩
              case fin =>
                intro tm w4 hj hF
                have o15 : OwnP w4 W0.heap.size (tm.getD 4 undef) ([] ++ xs.take k ++ [(⟨p, t⟩ : Pc)] ++ xs.drop k) := hF 15 _ rfl (fun j => by unfold paCons; simp)
                have q16 : tm.getD 5 undef = .int .i64 p := hF 16 _ rfl (fun j => by unfold paCons; simp)
                have q17 : tm.getD 6 undef = .bool true := hF 17 _ rfl (fun j => by unfold paCons; simp)
                rw [List.nil_append, List.append_assoc] at o15
                clear hF
                simp only [refillL, List.setIfInBounds_toArray, List.set_cons_succ, List.set_cons_zero]
                obtain ⟨sv, hsv⟩ : ∃ sv, tm.getD 4 undef = sv := ⟨_, rfl⟩
                rw [hsv] at o15 ⊢
                rw [q16, q17]
                go_wp2
                go_ret3
                exact ⟨sv, (congrArg (fun z : List Pc × Int × Bool => Ending.returned (.tuple #[sv, .int .i64 z.2.1, .bool z.2.2])) HO.out.symm), by rw [HO.out, HI.out]; exact o15.less hB0, bl_then d0 hj⟩
        · have hrp2 : r = p := by simpa using hry
          subst hrp2
          have hgt := find_has (l := xs) (n := r) (x := ⟨r, u⟩) (st_asc HK.out) (by rw [HQ.out]; exact hx.out) rfl
          simp only at hgt
          have hpk := (pcOk_pv (st_all HK.out (List.mem_of_getElem? hx.out))).1
          simp only at hpk
          have hpd : decide (r < 0) = false := by simp; omega
          have ht : textOk (bs t) = true := by
            cases ht : textOk (bs t)
            · have := HZ.out; unfold printOf at this; rw [ht] at this; simp at this; omega
            · rfl
          by_cases hut : u = t
          · subst hut
            have HO := hid ((put_there HK.out ht (by rw [HZ.out]; exact hgt)).trans (by rw [HZ.out]))
            clear ht hgt hyr
            go_wp2_with (at_builtin; refine wpList_cat (enc := encP) (w0 := W0.alloc (.cells #[] 34)) rfl _ _ 23 rfl W0.heap.size W0.heap.size 34 i0 _ 2 24 Tryd.underlying23 hi0 hz0 hz1 hz2 rfl (by decide) _ _ [] xs (Own.made W0 (Nat.le_refl _)) _ (HH.out.below hal (Nat.le_refl _)) (Below.refl _ _) (by simp) (Nat.le_refl _) rfl rfl encP_one (by have := HN.out; simp; omega) (by decide) ?_; intro v' w' hown' hb' hB' hg')
            go_ret3
            exact ⟨v', (congrArg (fun z : List Pc × Int × Bool => Ending.returned (.tuple #[v', .int .i64 z.2.1, .bool z.2.2])) HO.out.symm), by rw [HO.out]; exact hown'.less hB0, bl_then d0 (hal.trans hb')⟩
          · have HO := hid (put_other HK.out ht (by rw [HZ.out]; exact hgt) hut)
            have hsn := str_neS hut
            clear ht hgt hyr hut
            go_wp2_with (at_builtin; refine wpList_cat (enc := encP) (w0 := W0.alloc (.cells #[] 34)) rfl _ _ 23 rfl W0.heap.size W0.heap.size 34 i0 _ 2 24 Tryd.underlying23 hi0 hz0 hz1 hz2 rfl (by decide) _ _ [] xs (Own.made W0 (Nat.le_refl _)) _ (HH.out.below hal (Nat.le_refl _)) (Below.refl _ _) (by simp) (Nat.le_refl _) rfl rfl encP_one (by have := HN.out; simp; omega) (by decide) ?_; intro v' w' hown' hb' hB' hg')
            go_ret3
            exact ⟨v', (congrArg (fun z : List Pc × Int × Bool => Ending.returned (.tuple #[v', .int .i64 z.2.1, .bool z.2.2])) HO.out.symm), by rw [HO.out]; exact hown'.less hB0, bl_then d0 (hal.trans hb')⟩
      · have HY := hid (show hasP xs p = false by
          rw [Bool.eq_false_iff]
          intro hh
          obtain ⟨x, hx1, _, _⟩ := st_find HK.out hh
          rw [HQ.out] at hx1
          have := (List.getElem?_eq_some_iff.1 hx1).1
          have := HN.out
          omega)
        cases ht : textOk (bs t)
        · have HO := hid (put_bad HK.out ht)
          have hp1 : p = -1 := by have := HZ.out; unfold printOf at this; rw [ht] at this; simpa using this.symm
          have hpd : decide (p < 0) = true := by simp; omega
          clear ht hp1
          go_wp2_with (at_builtin; refine wpList_cat (enc := encP) (w0 := W0.alloc (.cells #[] 34)) rfl _ _ 23 rfl W0.heap.size W0.heap.size 34 i0 _ 2 24 Tryd.underlying23 hi0 hz0 hz1 hz2 rfl (by decide) _ _ [] xs (Own.made W0 (Nat.le_refl _)) _ (HH.out.below hal (Nat.le_refl _)) (Below.refl _ _) (by simp) (Nat.le_refl _) rfl rfl encP_one (by have := HN.out; simp; omega) (by decide) ?_; intro v' w' hown' hb' hB' hg')
          go_ret3
          exact ⟨v', (congrArg (fun z : List Pc × Int × Bool => Ending.returned (.tuple #[v', .int .i64 z.2.1, .bool z.2.2])) HO.out.symm), by rw [HO.out]; exact hown'.less hB0, bl_then d0 (hal.trans hb')⟩
        · have hpp : 0 ≤ p := by have := printOf_in ht; rw [HZ.out] at this; exact (pv_iff.1 this).1
          have hpd : decide (p < 0) = false := by simp; omega
          have hgn : getP xs p = none := by have := HY.out; unfold hasP at this; simpa using this
          by_cases hfull : n = 40
          · have HO := hid (put_full HK.out ht (by rw [HZ.out]; exact hgn) (by rw [HN.out]; exact hfull))
            have hfi : ((n : Int) == 40) = true := by rw [hfull]; rfl
            clear ht hgn hfull
            go_wp2_with (at_builtin; refine wpList_cat (enc := encP) (w0 := W0.alloc (.cells #[] 34)) rfl _ _ 23 rfl W0.heap.size W0.heap.size 34 i0 _ 2 24 Tryd.underlying23 hi0 hz0 hz1 hz2 rfl (by decide) _ _ [] xs (Own.made W0 (Nat.le_refl _)) _ (HH.out.below hal (Nat.le_refl _)) (Below.refl _ _) (by simp) (Nat.le_refl _) rfl rfl encP_one (by have := HN.out; simp; omega) (by decide) ?_; intro v' w' hown' hb' hB' hg')
            go_ret3
            exact ⟨v', (congrArg (fun z : List Pc × Int × Bool => Ending.returned (.tuple #[v', .int .i64 z.2.1, .bool z.2.2])) HO.out.symm), by rw [HO.out]; exact hown'.less hB0, bl_then d0 (hal.trans hb')⟩
          · have HO := hid ((put_new HK.out ht (by rw [HZ.out]; exact hgn) (by rw [HN.out]; exact hfull)).trans (by rw [HZ.out]))
            have hfi : ((n : Int) == 40) = false := by simp; omega
            have HI := hid (show insP xs p t = xs.take k ++ ([⟨p, t⟩] ++ xs.drop k) by unfold insP; rw [HQ.out]; rfl)
            clear ht hgn hfull
            go_wp2
            have hq0 : (k : Int) ≤ n := by omega
            have hqc : (k : Int) ≤ c := by omega
            refine wp_region_inv3d rfl (by kernel_rfl) (by kernel_rfl) (by kernel_rfl) (by kernel_rfl) (by simp) (fun _ w' => Below W0.heap.size W0 w') (fun j w' w'' => paS j w' w'') (fact (paF W0 (.slice a n c) xs k p t)) paCons (Below.refl _ _).drew ?hF ?grd ?oo ?cg ?fin
            case hF =>
              intro j i v w' w'' hS hc hne hwt hdp hf
              have hi : i < 18 ∨ 18 ≤ i := by omega
              rcases hi with hi | hi
              · obtain rfl | rfl | rfl | rfl | rfl | rfl | rfl | rfl | rfl | rfl | rfl | rfl | rfl | rfl | rfl | rfl | rfl | rfl : i = 0 ∨ i = 1 ∨ i = 2 ∨ i = 3 ∨ i = 4 ∨ i = 5 ∨ i = 6 ∨ i = 7 ∨ i = 8 ∨ i = 9 ∨ i = 10 ∨ i = 11 ∨ i = 12 ∨ i = 13 ∨ i = 14 ∨ i = 15 ∨ i = 16 ∨ i = 17 := by omega
                · rcases hS with rfl | hb | ⟨rfl, b, hh, hg⟩ | rfl | ⟨rfl, g, cs, hh, hs, hg⟩
                  · exact hf
                  · obtain ⟨b0, h1, h2, h3, h4⟩ := hf; exact ⟨b0, h1, h2, (hb.block b0 (Array.getElem?_eq_some_iff.1 h3).1).trans h3, h4.on hb⟩
                  · simp [paCons] at hc
                  · have h9 := hdp _ rfl ⟨4, .data⟩ (by simp) rfl; simp [paCons] at h9
                  · obtain ⟨b0, h1, h2, h3, h4⟩ := hf
                    have hne' : b0 ≠ g := by rintro rfl; rw [h3] at hh; simp at hh; subst hh; simp at hs
                    exact ⟨b0, h1, h2, (hg.block b0 (Array.getElem?_eq_some_iff.1 h3).1 (some_neS hne')).trans h3, h4.kept hg (.inr (by rw [h1]; exact some_neS hne'))⟩
                · exact hf
                · exact hf
                · exact hf
                · rcases hS with rfl | hb | ⟨rfl, b, hh, hg⟩ | rfl | ⟨rfl, g, cs, hh, hs, hg⟩
                  · exact hf
                  · exact Own.on hf hb
                  · exact absurd rfl hne
                  · simp [paCons] at hc
                  · have h9 := hdp _ rfl ⟨9, .data⟩ (by simp) rfl; simp [paCons] at h9
                · exact hf
                · exact hf
                · exact hf
                · rcases hS with rfl | hb | ⟨rfl, b, hh, hg⟩ | rfl | ⟨rfl, g, cs, hh, hs, hg⟩
                  · exact hf
                  · obtain ⟨b0, h1, h2, h3⟩ := hf; exact ⟨b0, h1, h2, (hb.block b0 (Array.getElem?_eq_some_iff.1 h3).1).trans h3⟩
                  · obtain ⟨b0, h1, h2, h3⟩ := hf; exact ⟨b0, h1, h2, (hg.block b0 (Array.getElem?_eq_some_iff.1 h3).1 (some_neS (by rintro rfl; rw [hh] at h3; simp at h3))).trans h3⟩
                  · simp [paCons] at hc
                  · have h9 := hdp _ rfl ⟨9, .data⟩ (by simp) rfl; simp [paCons] at h9
                · rcases hS with rfl | hb | ⟨rfl, b, hh, hg⟩ | rfl | ⟨rfl, g, cs, hh, hs, hg⟩
                  · exact hf
                  · exact Own.on hf hb
                  · exact own_far_emp hf hh hg (by simp <;> omega)
                  · exact absurd rfl hne
                  · simp [paCons] at hc
                · exact hf
                · exact hf
                · exact hf
                · rcases hS with rfl | hb | ⟨rfl, b, hh, hg⟩ | rfl | ⟨rfl, g, cs, hh, hs, hg⟩
                  · exact hf
                  · exact Own.on hf hb
                  · exact own_far_emp hf hh hg (by simp <;> omega)
                  · exact absurd (hwt.symm.trans (c := true) (by kernel_rfl)) (by decide)
                  · exact absurd rfl hne
                · exact hf
                · rcases hS with rfl | hb | ⟨rfl, b, hh, hg⟩ | rfl | ⟨rfl, g, cs, hh, hs, hg⟩
                  · exact hf
                  · exact Own.on hf hb
                  · exact own_far_emp hf hh hg (by simp <;> omega)
                  · exact absurd (hwt.symm.trans (c := true) (by kernel_rfl)) (by decide)
                  · exact absurd (hwt.symm.trans (c := true) (by kernel_rfl)) (by decide)
                · exact hf
                · exact hf
              · unfold fact at *; rw [List.getD_eq_getElem?_getD, List.getElem?_eq_none (by simpa [paF] using hi)]; trivial
            case grd =>
              intro i oo d bb hi hg v w' hf
              obtain ⟨hlt1, rfl⟩ := Array.getElem?_eq_some_iff.1 hi
              have hlt' : i < 18 := hlt1
              clear hi
              obtain rfl | rfl | rfl | rfl | rfl | rfl | rfl | rfl | rfl | rfl | rfl | rfl | rfl | rfl | rfl | rfl | rfl | rfl : i = 0 ∨ i = 1 ∨ i = 2 ∨ i = 3 ∨ i = 4 ∨ i = 5 ∨ i = 6 ∨ i = 7 ∨ i = 8 ∨ i = 9 ∨ i = 10 ∨ i = 11 ∨ i = 12 ∨ i = 13 ∨ i = 14 ∨ i = 15 ∨ i = 16 ∨ i = 17 := by omega
              all_goals simp at hg
            case cg =>
              intro i oo d bb hi hg j
              obtain ⟨hlt1, rfl⟩ := Array.getElem?_eq_some_iff.1 hi
              have hlt' : i < 18 := hlt1
              clear hi
              obtain rfl | rfl | rfl | rfl | rfl | rfl | rfl | rfl | rfl | rfl | rfl | rfl | rfl | rfl | rfl | rfl | rfl | rfl : i = 0 ∨ i = 1 ∨ i = 2 ∨ i = 3 ∨ i = 4 ∨ i = 5 ∨ i = 6 ∨ i = 7 ∨ i = 8 ∨ i = 9 ∨ i = 10 ∨ i = 11 ∨ i = 12 ∨ i = 13 ∨ i = 14 ∨ i = 15 ∨ i = 16 ∨ i = 17 := by omega
              all_goals simp at hg
            case oo =>
              intro i oo hi qn a' wk hnn hj hb' hd
              obtain ⟨hlt1, rfl⟩ := Array.getElem?_eq_some_iff.1 hi
              have hlt' : i < 18 := hlt1
              clear hi
              obtain rfl | rfl | rfl | rfl | rfl | rfl | rfl | rfl | rfl | rfl | rfl | rfl | rfl | rfl | rfl | rfl | rfl | rfl : i = 0 ∨ i = 1 ∨ i = 2 ∨ i = 3 ∨ i = 4 ∨ i = 5 ∨ i = 6 ∨ i = 7 ∨ i = 8 ∨ i = 9 ∨ i = 10 ∨ i = 11 ∨ i = 12 ∨ i = 13 ∨ i = 14 ∨ i = 15 ∨ i = 16 ∨ i = 17 := by omega
              · exact iv_val (v := .slice (some ⟨wk.heap.size, 0, none⟩) 0 0) (w' := wk.alloc (.cells #[] 34)) (by simp [execOp, go_sem, Result.andThen]) ⟨_, rfl, hj.alloc hj.size _, .inr (.inl ((Below.refl _ _).alloc (Nat.le_refl _) _)), (show isEmpP _ _ _ from ⟨_, rfl, hj.size, heap_alloc_new _ _, Own.made _ hj.size⟩)⟩
              · have b0 : a'.eval (.tmp 0) = .slice a n c := hb' 0 (by rfl); have c0 := ev_get b0
                exact iv_val (v := .slice a n c) (by simp [execOp, b0]) ⟨_, rfl, hj, .inl rfl, rfl⟩
              · have b8 : a'.eval (.tmp 8) = .int .i64 k := hb' 8 (by rfl); have c8 := ev_get b8
                exact iv_val (v := .int .i64 k) (by simp [execOp, b8]) ⟨_, rfl, hj, .inl rfl, rfl⟩
              · have v1 : a'.eval (.tmp 78) = .slice a n c := hd ⟨1, .data⟩ (by simp) rfl (by intro j _ hc; revert hc; unfold paCons; simp; try omega); have u1 := ev_get v1
                have v2 : a'.eval (.tmp 79) = .int .i64 k := hd ⟨2, .data⟩ (by simp) rfl (by intro j _ hc; revert hc; unfold paCons; simp; try omega); have u2 := ev_get v2
                exact iv_val (v := .slice a k c) (by simp [execOp, u1, u2, hqc, go_sem, Result.andThen]) ⟨_, rfl, hj, .inl rfl, (show isRdP W0 (xs.take k) _ wk from hfr)⟩
              · have e0 : isEmpP W0.heap.size (a'.eval (.tmp 77)) wk := hd ⟨0, .data⟩ (by simp) rfl (by intro j _ hc; revert hc; unfold paCons; simp; try omega)
                obtain ⟨b0, v0, hb0, hh0, o0⟩ := e0
                have e3 : isRdP W0 (xs.take k) (a'.eval (.tmp 80)) wk := hd ⟨3, .data⟩ (by simp) rfl (by intro j _ hc; revert hc; unfold paCons; simp; try omega)
                obtain ⟨i0, hi0, hz0, hz1, hz2⟩ := info_parts info_pcO
                refine wp_cat (enc := encP) wk (.tmp 77) (.tmp 80) 23 rfl W0.heap.size 34 i0 _ 2 24 Tryd.underlying23 hi0 hz0 hz1 hz2 rfl (by decide) (a'.eval (.tmp 77)) (a'.eval (.tmp 80)) [] (xs.take k) rfl rfl o0 _ (Rd.below e3 hj (Nat.le_refl _)) encP_one (by simp; omega) (by decide) hj.size ?_
                intro v' w' ho hg hg'
                rw [v0] at hg
                exact ⟨_, rfl, hj.grown hg hj.size (fun g hg1 => by simp [Value.ownBlock] at hg1; omega), .inr (.inr (.inl ⟨rfl, b0, hh0, hg⟩)), (show isOwnP _ _ _ _ from ho)⟩
              · have b7 : a'.eval (.tmp 7) = .int .i64 p := hb' 7 (by rfl); have c7 := ev_get b7
                exact iv_val (v := .int .i64 p) (by simp [execOp, b7]) ⟨_, rfl, hj, .inl rfl, rfl⟩
              · have b1 : a'.eval (.tmp 1) = .string t := hb' 1 (by rfl); have c1 := ev_get b1
                exact iv_val (v := .string t) (by simp [execOp, b1]) ⟨_, rfl, hj, .inl rfl, rfl⟩
              · have v5 : a'.eval (.tmp 82) = .int .i64 p := hd ⟨5, .data⟩ (by simp) rfl (by intro j _ hc; revert hc; unfold paCons; simp; try omega); have u5 := ev_get v5
                have v6 : a'.eval (.tmp 83) = .string t := hd ⟨6, .data⟩ (by simp) rfl (by intro j _ hc; revert hc; unfold paCons; simp; try omega); have u6 := ev_get v6
                exact iv_val (v := .agg #[.int .i64 p, .string t]) (by simp [execOp, u5, u6, go_sem, Result.andThen]) ⟨_, rfl, hj, .inl rfl, rfl⟩
              · have v7 : a'.eval (.tmp 84) = .agg #[.int .i64 p, .string t] := hd ⟨7, .data⟩ (by simp) rfl (by intro j _ hc; revert hc; unfold paCons; simp; try omega); have u7 := ev_get v7
                exact iv_val (v := .slice (some ⟨wk.heap.size, 0, none⟩) 1 1) (w' := wk.alloc (.cells #[.int .i64 p, .string t] 34)) (by simp [execOp, u7, go_sem, Result.andThen]) ⟨_, rfl, hj.alloc hj.size _, .inr (.inl ((Below.refl _ _).alloc (Nat.le_refl _) _)), (show isLitP _ _ _ _ _ from ⟨_, rfl, hj.size, heap_alloc_new _ _⟩)⟩
              · have e4 : isOwnP W0.heap.size ([] ++ xs.take k) (a'.eval (.tmp 81)) wk := hd ⟨4, .data⟩ (by simp) rfl (by intro j _ hc; revert hc; unfold paCons; simp; try omega)
                have e8 : isLitP W0.heap.size p t (a'.eval (.tmp 85)) wk := hd ⟨8, .data⟩ (by simp) rfl (by intro j _ hc; revert hc; unfold paCons; simp; try omega)
                obtain ⟨b8, v8, hb8, hh8⟩ := e8
                obtain ⟨i0, hi0, hz0, hz1, hz2⟩ := info_parts info_pcO
                refine wp_cat (enc := encP) wk (.tmp 81) (.tmp 85) 23 rfl W0.heap.size 34 i0 _ 2 24 Tryd.underlying23 hi0 hz0 hz1 hz2 rfl (by decide) (a'.eval (.tmp 81)) (.slice (some ⟨b8, 0, none⟩) 1 1) ([] ++ xs.take k) [(⟨p, t⟩ : Pc)] rfl v8 e4 _ (lit_rdP hh8) encP_one (by simp; omega) (by decide) hj.size ?_
                intro v' w' ho hg hg'
                exact ⟨_, rfl, hj.grown hg hj.size (fun g hg1 => (Own.lt e4 g hg1).1), .inr (.inr (.inr (.inl rfl))), (show isOwnP _ _ _ _ from ho)⟩
              · have b0 : a'.eval (.tmp 0) = .slice a n c := hb' 0 (by rfl); have c0 := ev_get b0
                exact iv_val (v := .slice a n c) (by simp [execOp, b0]) ⟨_, rfl, hj, .inl rfl, rfl⟩
              · have b8 : a'.eval (.tmp 8) = .int .i64 k := hb' 8 (by rfl); have c8 := ev_get b8
                exact iv_val (v := .int .i64 k) (by simp [execOp, b8]) ⟨_, rfl, hj, .inl rfl, rfl⟩
              · have v10 : a'.eval (.tmp 87) = .slice a n c := hd ⟨10, .data⟩ (by simp) rfl (by intro j _ hc; revert hc; unfold paCons; simp; try omega); have u10 := ev_get v10
                have v11 : a'.eval (.tmp 88) = .int .i64 k := hd ⟨11, .data⟩ (by simp) rfl (by intro j _ hc; revert hc; unfold paCons; simp; try omega); have u11 := ev_get v11
                refine iv_val (v := .slice (if c = k then a else Option.map (fun (x : Addr) => x.add (k * 2)) a) (n - k) (c - k)) ?_ ⟨_, rfl, hj, .inl rfl, (show isRdP W0 (xs.drop k) _ wk from hbk)⟩
                cases a <;> simp [execOp, u10, u11, hq0, go_sem, Result.andThen]
              · have e9 : isOwnP W0.heap.size ([] ++ xs.take k ++ [(⟨p, t⟩ : Pc)]) (a'.eval (.tmp 86)) wk := hd ⟨9, .data⟩ (by simp) rfl (by intro j _ hc; revert hc; unfold paCons; simp; try omega)
                have e12 : isRdP W0 (xs.drop k) (a'.eval (.tmp 89)) wk := hd ⟨12, .data⟩ (by simp) rfl (by intro j _ hc; revert hc; unfold paCons; simp; try omega)
                obtain ⟨i0, hi0, hz0, hz1, hz2⟩ := info_parts info_pcO
                obtain ⟨g9, cs9, hg9, hh9, hs9⟩ := own_row e9 (by simp)
                refine wp_cat (enc := encP) wk (.tmp 86) (.tmp 89) 23 rfl W0.heap.size 34 i0 _ 2 24 Tryd.underlying23 hi0 hz0 hz1 hz2 rfl (by decide) (a'.eval (.tmp 86)) (a'.eval (.tmp 89)) ([] ++ xs.take k ++ [(⟨p, t⟩ : Pc)]) (xs.drop k) rfl rfl e9 _ (Rd.below e12 hj (Nat.le_refl _)) encP_one (by simp; omega) (by decide) hj.size ?_
                intro v' w' ho hg hg'
                exact ⟨_, rfl, hj.grown hg hj.size (fun g hg1 => (Own.lt e9 g hg1).1), .inr (.inr (.inr (.inr ⟨rfl, g9, cs9, hh9, hs9, hg9 ▸ hg⟩))), (show isOwnP _ _ _ _ from ho)⟩
              · have b7 : a'.eval (.tmp 7) = .int .i64 p := hb' 7 (by rfl); have c7 := ev_get b7
                exact iv_val (v := .int .i64 p) (by simp [execOp, b7]) ⟨_, rfl, hj, .inl rfl, rfl⟩
              · have e13 : isOwnP W0.heap.size ([] ++ xs.take k ++ [(⟨p, t⟩ : Pc)] ++ xs.drop k) (a'.eval (.tmp 90)) wk := hd ⟨13, .data⟩ (by simp) rfl (by intro j _ hc; revert hc; unfold paCons; simp; try omega)
                exact iv_val (v := a'.eval (.tmp 90)) (by simp [execOp]) ⟨_, rfl, hj, .inl rfl, e13⟩
              · have v14 : a'.eval (.tmp 91) = .int .i64 p := hd ⟨14, .data⟩ (by simp) rfl (by intro j _ hc; revert hc; unfold paCons; simp; try omega); have u14 := ev_get v14
                exact iv_val (v := .int .i64 p) (by simp [execOp, v14]) ⟨_, rfl, hj, .inl rfl, rfl⟩
              · exact iv_val (v := .bool true) (by simp [execOp, Act.eval]) ⟨_, rfl, hj, .inl rfl, rfl⟩
            case fin =>
              intro tm w4 hj hF
              have o15 : OwnP w4 W0.heap.size (tm.getD 4 undef) ([] ++ xs.take k ++ [(⟨p, t⟩ : Pc)] ++ xs.drop k) := hF 15 _ rfl (fun j => by unfold paCons; simp)
              have q16 : tm.getD 5 undef = .int .i64 p := hF 16 _ rfl (fun j => by unfold paCons; simp)
              have q17 : tm.getD 6 undef = .bool true := hF 17 _ rfl (fun j => by unfold paCons; simp)
              rw [List.nil_append, List.append_assoc] at o15
              clear hF
              simp only [refillL, List.setIfInBounds_toArray, List.set_cons_succ, List.set_cons_zero]
              obtain ⟨sv, hsv⟩ : ∃ sv, tm.getD 4 undef = sv := ⟨_, rfl⟩
              rw [hsv] at o15 ⊢
              rw [q16, q17]
              go_wp2
              go_ret3
              exact ⟨sv, (congrArg (fun z : List Pc × Int × Bool => Ending.returned (.tuple #[sv, .int .i64 z.2.1, .bool z.2.2])) HO.out.symm), by rw [HO.out, HI.out]; exact o15.less hB0, bl_then d0 hj⟩
end Go.Proofs.YtfdhaigmekmboaaDoor

/- Walks: the reference's way of setting a print at names. -/
namespace Go.Proofs.YtfdhaigmekmboaaDoor
open Go.RowKit

/-! ### The rest of a row -/
theorem flat_drop {α : Type} {enc : α → List Value} {k : Nat} (hk : ∀ x : α, (enc x).length = k) : ∀ (xs : List α) (i : Nat), (xs.drop i).flatMap enc = (xs.flatMap enc).drop (i * k)
  | [], i => by simp
  | x :: r, 0 => by simp
  | x :: r, i + 1 => by
    rw [List.drop_succ_cons, List.flatMap_cons, flat_drop hk r i, show (i + 1) * k = (enc x).length + i * k by rw [hk, Nat.succ_mul]; omega, ← List.drop_drop, List.drop_left]
theorem Rd.backG {α : Type} {enc : α → List Value} {k : Nat} (hk : ∀ x : α, (enc x).length = k) {w : World} {B n c q : Nat} {a : Option Addr} {xs : List α} (h : Rd enc k w B (.slice a n c) xs) (hn : xs.length = n) (hq : q ≤ n) :
    Rd enc k w B (.slice (if c = q then a else a.map (fun (x : Addr) => x.add (q * k))) (n - q) (c - q)) (xs.drop q) := by
  obtain ⟨a', c', hv, h1, h2, h3, h4⟩ := h
  simp only [Value.slice.injEq] at hv
  obtain ⟨rfl, rfl, rfl⟩ := hv
  refine ⟨_, c - q, by rw [List.length_drop], by rw [List.length_drop]; omega, Nat.le_trans (Nat.sub_le _ _) h2, by rw [flat_drop hk, List.length_drop, h3, List.length_drop, Nat.sub_mul], fun h0 => ?_⟩
  rw [List.length_drop] at h0
  obtain ⟨b, o, rfl, hb, hat⟩ := h4 (by omega)
  have hadd : (⟨b, o, none⟩ : Addr).add (q * k) = ⟨b, o + q * k, none⟩ := by unfold Addr.add; split <;> simp_all
  refine ⟨b, o + q * k, by rw [if_neg (by omega)]; simp [hadd], hb, fun j u hu => ?_⟩
  rw [flat_drop hk, List.getElem?_drop] at hu
  have := hat (q * k + j) u hu
  rwa [← Nat.add_assoc] at this
/-- The rest behind the first element. -/
theorem Rd.tailS {w : World} {B b o n c : Nat} {x : ByteArray} {xs : List ByteArray} {ra : Option Addr} (h : Strs w B (.slice (some ⟨b, o, none⟩) n c) (x :: xs)) (hn : (x :: xs).length = n) (hra : (if c = 1 then (some ⟨b, o, none⟩ : Option Addr) else some ⟨b, o + 1, none⟩) = ra) : Strs w B (.slice ra (n - 1) (c - 1)) xs := by
  have := Rd.backG (enc := encS) (k := 1) (fun _ => rfl) h hn (q := 1) (by simp at hn; omega)
  rw [show (if c = 1 then (some ⟨b, o, none⟩ : Option Addr) else (some ⟨b, o, none⟩ : Option Addr).map (fun (x : Addr) => x.add (1 * 1))) = ra by rw [← hra]; (split <;> simp [Addr.add])] at this
  exact this

/-! ### Plain facts -/
theorem child_succ {es : List Ent} {nm : ByteArray} {k : Nat} {x : Ent} (h : es[k]? = some x) : childOf (es.take (k + 1)) nm = if x.name = nm then x.print else childOf (es.take k) nm := foldl_succ _ _ h
theorem text_small {xs : List Pc} (hs : storeOk xs = true) (y : Int) : ((getP xs y).getD ByteArray.empty).size ≤ 60 := by
  cases hg : getP xs y with
  | none => simp
  | some t => exact (getP_text hs hg).2.2
noncomputable def openAt (s : List Pc) (pr : Int) : Option (List Ent) := if 0 ≤ pr then readFolder (textAt s pr) else some []
theorem openAt_ok {s : List Pc} {pr : Int} {es : List Ent} (h : openAt s pr = some es) : entsOk es = true := by
  unfold openAt at h
  split at h
  · exact (readFolder_some h).1
  · obtain rfl := Option.some.inj h; rfl
theorem set_none {s : List Pc} {pr leaf : Int} {nm : ByteArray} {rest : List ByteArray} (h : openAt s pr = none) : setAt s pr (nm :: rest) leaf = (s, -1, false) := by unfold openAt at h; unfold setAt; rw [h]
theorem set_some {s : List Pc} {pr leaf : Int} {nm : ByteArray} {rest : List ByteArray} {es : List Ent} (h : openAt s pr = some es) : setAt s pr (nm :: rest) leaf =
      if rest = [] ∧ 0 ≤ childOf es nm ∧ badLeaf s (childOf es nm) = true then (s, -1, false)
      else if (setAt s (childOf es nm) rest leaf).2.2 = false then ((setAt s (childOf es nm) rest leaf).1, -1, false)
      else if (putEnt es ⟨nm, (setAt s (childOf es nm) rest leaf).2.1⟩).2 = false then ((setAt s (childOf es nm) rest leaf).1, -1, false)
      else putS (setAt s (childOf es nm) rest leaf).1 (strL (folderText (putEnt es ⟨nm, (setAt s (childOf es nm) rest leaf).2.1⟩).1)) := by
  unfold openAt at h
  conv => lhs; unfold setAt
  rw [h]
def SetPost (w : World) (R : List Pc × Int × Bool) : Ending → World → Prop := fun e w' => ∃ v', e = .returned (.tuple #[v', .int .i64 R.2.1, .bool R.2.2]) ∧ Pcs w' w'.heap.size v' R.1 ∧ Below w.heap.size w w'

set_option maxHeartbeats 2000000 in
set_option maxRecDepth 100000 in
theorem spec_l10Set_c (parts : List ByteArray) : ∀ (v pv : Value) (xs : List Pc) (pr leaf : Int) (w : World) (R : List Pc × Int × Bool), setAt xs pr parts leaf = R → Pcs w w.heap.size v xs → storeOk xs = true → Strs w w.heap.size pv parts → (∀ x ∈ parts, x.size ≤ 1000) → parts.length ≤ 1000 →
    Calls Tryd.prog 91 #[v, .int .i64 pr, pv, .int .i64 leaf] w (SetPost w R) := by
  induction parts with
  | nil =>
    intro v pv xs pr leaf w R hR h hs hp hx hl
    obtain ⟨a, c, rfl, _, _, _⟩ := hp.strs (n := 0) rfl
    have hR' : R = (xs, leaf, true) := by rw [← hR]; rfl
    subst hR'
    have HH := hid h
    clear h hp hs hR
    go_enter Tryd.func91, Tryd.ntmps91
    go_wp2
    go_ret3
    exact ⟨_, rfl, HH.out, Below.refl _ _⟩
  | cons nm rest ih =>
    intro v pv xs pr leaf w R hR h hs hp hx hl
    obtain ⟨m, hm⟩ : ∃ m, (nm :: rest).length = m := ⟨_, rfl⟩
    obtain ⟨pa, pc, rfl, hpc, hpc63, hp3⟩ := hp.strs hm
    have hm1 : 1 ≤ m := by simp at hm; omega
    obtain ⟨bp, op, t0, rfl, hbp, hx0, kp⟩ := hp3 0 (by omega)
    obtain rfl : nm = t0 := by have := hx0.out; simp at this; exact this
    rw [Nat.add_zero] at kp
    have HIH := hid ih
    have HM := hid hm
    have HS := hid hs
    have HP := hid hp
    have HX := hid hx
    have HH := hid h
    have HR := hid hR
    have HL := hid hl
    have HT := hid (text_small hs pr)
    have hm9 : m ≤ 1000 := by omega
    clear hm hs hp hx h hR hp3 hx0 ih hl
    cases hE : openAt xs pr with
    | none =>
      have HE := hid hE
      obtain rfl : R = (xs, -1, false) := by rw [← HR.out]; exact set_none hE
      have hpr : 0 ≤ pr := by
        rcases Int.lt_or_le pr 0 with h | h
        · unfold openAt at hE; rw [if_neg (by omega)] at hE; cases hE
        · exact h
      have HF := hid (show (readFolder (bs ((getP xs pr).getD ByteArray.empty))).isSome = false by
        have := hE; unfold openAt at this; rw [if_pos hpr] at this; unfold textAt at this; rw [this]; rfl)
      clear hE
      go_enter Tryd.func91, Tryd.ntmps91
      go_wp2_with fail
      refine (spec_l4Get_c _ xs pr _ _ (HH.out.below ((Below.refl _ _).alloc (Nat.le_refl _) _) (Nat.le_refl _))).mono ?_
      rintro e w1 ⟨rfl, rfl⟩
      go_wp2_with fail
      refine (spec_ReadFolder_c _ _ (Nat.le_trans HT.out (by omega))).mono ?_
      rw [HF.out]
      rintro e w2 ⟨lv, rfl, o2, b2⟩
      have d2 : Below w.heap.size w w2 := ((Below.refl w.heap.size w).alloc (Nat.le_refl _) _).trans (b2.mono (by simp))
      have h2 := HH.out.on d2
      have H2 := hid h2
      clear o2 b2 h2
      go_wp2
      go_ret3
      exact ⟨_, rfl, H2.out, d2⟩
    | some es =>
      have HE := hid hE
      have HO := hid (openAt_ok hE)
      have H3 := hid ((ents_in HO.out).1)
      have HRS := hid (HR.out.symm.trans (set_some hE))
      clear hE HR
      obtain ⟨n, hn⟩ : ∃ n, es.length = n := ⟨_, rfl⟩
      have HN := hid hn
      have hn3 : n ≤ 3 := by rw [← hn]; exact H3.out
      clear hn
      have hal : Below w.heap.size w (w.alloc (.cells #[] 37)) := (Below.refl _ _).alloc (Nat.le_refl _) _
      go_enter Tryd.func91, Tryd.ntmps91
      have hm0 : ((m : Int) == 0) = false := by simp; omega
      go_upto_if 30 with fail
      go_cut [11, 12, 13, 14, 15] (fun lv _ _ _ _ wx => Ents wx wx.heap.size lv es ∧ Below w.heap.size w wx)
      case first =>
        by_cases hpr : 0 ≤ pr
        · have HF := hid (show (readFolder (bs ((getP xs pr).getD ByteArray.empty))).isSome = true ∧ entsOf (bs ((getP xs pr).getD ByteArray.empty)) = es by
            have := HE.out; unfold openAt at this; rw [if_pos hpr] at this; unfold textAt at this; unfold entsOf; rw [this]; exact ⟨rfl, rfl⟩)
          go_wp2_with fail
          refine (spec_l4Get_c _ xs pr _ _ (HH.out.below hal (Nat.le_refl _))).mono ?_
          rintro e w1 ⟨rfl, rfl⟩
          go_wp2_with fail
          refine (spec_ReadFolder_c _ _ (Nat.le_trans HT.out (by omega))).mono ?_
          rw [HF.out.1, HF.out.2]
          rintro e w2 ⟨lv, rfl, o2, b2⟩
          have d2 : Below w.heap.size w w2 := hal.trans (b2.mono (by simp))
          have r2 := hid (Rd.of_own o2)
          clear o2 b2
          go_wp2
          go_meet
          exact ⟨r2.out, d2⟩
        · have he : es = [] := by
            have := HE.out; unfold openAt at this; rw [if_neg hpr] at this; exact (Option.some.inj this).symm
          have r2 := hid (Rd.of_own (Own.made w (Nat.le_refl _) : OwnE (w.alloc (.cells #[] 37)) w.heap.size (.slice (some ⟨w.heap.size, 0, none⟩) 0 0) []))
          rw [← he] at r2
          clear he
          go_wp2
          go_meet
          exact ⟨r2.out, hal⟩
      case rest =>
        obtain ⟨hl, hb⟩ := hcut
        obtain ⟨la, lc, rfl, _, _, hl3⟩ := hl.ents HN.out
        have HL2 := hid hl
        have kpc := (hb.cell (p := ⟨bp, op, none⟩) hbp).trans kp
        have HK := hid kp
        obtain ⟨ch, hch⟩ : ∃ ch, childOf es nm = ch := ⟨_, rfl⟩
        have HCH := hid hch
        clear hl kp hch hal
        go_wp2
        go_loopw [16, 17] (fun cv i wr => ∃ k z : Nat, k ≤ n ∧ i = .int .i64 k ∧ cv = .int .i64 (childOf (es.take k) nm) ∧ wr = wc.drewN z) (fun _ i _ => n - (intOf i).toNat)
        case atStart => exact ⟨0, 0, Nat.zero_le _, rfl, rfl, rfl⟩
        case round =>
          obtain ⟨k, z, hk, rfl, rfl, rfl⟩ := hrel
          by_cases hlt : k < n
          · obtain ⟨b, o, t, r, rfl, hbl, hx, k0, k1⟩ := hl3 k hlt
            have HC := hid (child_succ (nm := nm) hx.out)
            have hkn : (k : Int) < n := by omega
            have hmz : (0 : Int) < m := by omega
            have hse := str_eqE (u := t) (t := nm)
            clear hl3
            by_cases hte : t = nm
            · have hd1 : (t.toList == nm.toList) = true := by rw [hse]; exact decide_eq_true hte
              have HC2 := hid (HC.out.trans (if_pos hte))
              clear hse hte
              go_wp2
              go_quiet (fail)
              go_wp2
              go_roundw
              case rel => exact ⟨k + 1, _, by omega, by go_num, by rw [HC2.out], rfl⟩
              case measure => simp [intOf]; omega
            · have hd1 : (t.toList == nm.toList) = false := by rw [hse]; exact decide_eq_false hte
              have HC2 := hid (HC.out.trans (if_neg hte))
              clear hse hte
              go_wp2
              go_quiet (fail)
              go_wp2
              go_roundw
              case rel => exact ⟨k + 1, _, by omega, by go_num, by rw [HC2.out], rfl⟩
              case measure => simp [intOf]; omega
          · have hce : childOf (es.take k) nm = ch := by rw [take_all HN.out (show n ≤ k by omega)]; exact HCH.out
            rw [hce]
            obtain ⟨wd, hwd⟩ : ∃ wd, wd = wc.drewN z := ⟨_, rfl⟩
            have hbd : Below w.heap.size w wd := by rw [hwd]; exact bl_drewN hb z
            have hld : Hid (Ents wd wd.heap.size (.slice la n lc) es) := by rw [hwd]; exact HL2.out.drewN z
            have kpd : wd.cell? ⟨bp, op, none⟩ = some (.string nm) := by rw [hwd]; exact kpc
            rw [← hwd]
            clear hce hwd hl3 kpc HL2 hb
            have HTC := hid (text_small HS.out ch)
            go_wp2_with fail
            refine (spec_l4Get_c _ xs ch _ _ (HH.out.below hbd (Nat.le_refl _))).mono ?_
            rintro e w1 ⟨rfl, rfl⟩
            obtain ⟨bad, hbad⟩ : ∃ bad : Bool, bad = decide (rest = [] ∧ 0 ≤ ch ∧ badLeaf xs ch = true) := ⟨_, rfl⟩
            have HB := hid hbad
            clear hbad
            go_upto_region 17 with fail
            go_cut [19, 87] (fun _ tv wx => tv = .bool bad ∧ Below wd.heap.size wd wx)
            case first =>
              by_cases hr0 : rest = []
              · have hm1' : m = 1 := by have := HM.out; rw [hr0] at this; simpa using this.symm
                have hmd : ((m : Int) == 1) = true := by rw [hm1']; rfl
                clear hm1'
                by_cases hc0 : 0 ≤ ch
                · have hcd : decide (0 ≤ ch) = true := by simp; omega
                  cases hp : hasP xs ch
                  · have HB2 := hid (show bad = true by rw [HB.out]; unfold badLeaf; rw [hp]; simp [hr0, hc0])
                    clear hr0 hp
                    go_wp2
                    go_meet
                    exact ⟨by rw [HB2.out], Below.refl _ _⟩
                  · obtain ⟨kd, hkd⟩ : ∃ kd, kindOf (textAt xs ch) = kd := ⟨_, rfl⟩
                    have HKD := hid (show kindOf (bs ((getP xs ch).getD ByteArray.empty)) = kd from hkd)
                    have HB2 := hid (show bad = decide (kd ≠ 1) by rw [HB.out]; unfold badLeaf; rw [hp, hkd]; simp [hr0, hc0])
                    clear hr0 hkd
                    go_wp2_with (go_at_call 102; refine (spec_TextKind_c _ _ (Nat.le_trans HTC.out (by omega))).mono ?_; rw [HKD.out]; rintro e w3 ⟨rfl, b3⟩)
                    go_meet
                    exact ⟨congrArg Value.bool (by rw [HB2.out]; by_cases h : kd = 1 <;> simp [h]), b3⟩
                · have HB2 := hid (show bad = false by rw [HB.out]; simp [hc0])
                  have hcd : decide (0 ≤ ch) = false := by simp; omega
                  clear hr0
                  go_wp2
                  go_meet
                  exact ⟨by rw [HB2.out], Below.refl _ _⟩
              · have HB2 := hid (show bad = false by rw [HB.out]; simp [hr0])
                have hmd : ((m : Int) == 1) = false := by
                  have := HM.out
                  cases rest with
                  | nil => exact absurd rfl hr0
                  | cons x r => simp at this ⊢; omega
                clear hr0
                go_wp2
                go_meet
                exact ⟨by rw [HB2.out], Below.refl _ _⟩
            case rest =>
              obtain ⟨rfl, hbw0⟩ := hcut
              have hbw := bl_then hbd hbw0
              have HLW := hid (hld.out.on hbw0)
              clear kpd hbw0
              have HRS2 := hid (show R = if bad = true then (xs, -1, false) else if (setAt xs ch rest leaf).2.2 = false then ((setAt xs ch rest leaf).1, -1, false)
                  else if (putEnt es ⟨nm, (setAt xs ch rest leaf).2.1⟩).2 = false then ((setAt xs ch rest leaf).1, -1, false)
                  else putS (setAt xs ch rest leaf).1 (strL (folderText (putEnt es ⟨nm, (setAt xs ch rest leaf).2.1⟩).1)) by
                rw [HRS.out, HCH.out, HB.out]; simp only [decide_eq_true_eq])
              clear HRS HB
              cases bad
              · have hra : ∃ ra : Option Addr, (if pc = 1 then (some ⟨bp, op, none⟩ : Option Addr) else some ⟨bp, op + 1, none⟩) = ra := ⟨_, rfl⟩
                obtain ⟨ra, hra⟩ := hra
                have HTL := hid (Rd.tailS HP.out HM.out hra)
                have h1m : (1 : Int) ≤ m := by omega
                have h1c : (1 : Int) ≤ pc := by omega
                obtain ⟨⟨xs1, ch1, ok⟩, hR1⟩ : ∃ R1, setAt xs ch rest leaf = R1 := ⟨_, rfl⟩
                have HR1 := hid hR1
                have HS1 := hid (show storeOk xs1 = true by have := set_ok rest xs ch leaf HS.out; rw [hR1] at this; exact this)
                rw [hR1] at HRS2
                clear hR1
                go_wp2_with fail
                refine (HIH.out _ _ xs ch leaf _ (xs1, ch1, ok) HR1.out (HH.out.on hbw) HS.out (HTL.out.on hbw) (fun x hx => HX.out x (by simp [hx])) (by have := HL.out; simp at this; omega)).mono ?_
                rintro e w5 ⟨sv, rfl, s5, b5⟩
                have d5 := bl_then hbw b5
                clear hra h1m h1c
                cases ok
                · have HO9 := hid (show R = (xs1, -1, false) by rw [HRS2.out]; rfl)
                  obtain rfl := HO9.out
                  have S5 := hid s5
                  clear s5 b5
                  go_wp2
                  go_ret3
                  exact ⟨_, rfl, S5.out, d5⟩
                · obtain ⟨⟨es1, ok1⟩, hpe⟩ : ∃ P, putEnt es ⟨nm, ch1⟩ = P := ⟨_, rfl⟩
                  have HPE := hid hpe
                  have HRS3 := hid (show R = if ok1 = false then (xs1, -1, false) else putS xs1 (strL (folderText es1)) by rw [HRS2.out]; simp only [hpe]; rfl)
                  have kp5 := (d5.cell (p := ⟨bp, op, none⟩) hbp).trans HK.out
                  have hmz : (0 : Int) < m := by omega
                  have hel := hid (HLW.out.on b5)
                  have HXN := hid (show ∀ x ∈ es, x.name.size ≤ 1048576 from fun x hx => by have := name_len (ents_all HO.out hx); omega)
                  have S5 := hid s5
                  have HNM := hid (show nm.size ≤ 1048576 by have := HX.out nm (by simp); omega)
                  have HNL := hid (show es.length ≤ 1048570 by have := H3.out; omega)
                  clear hpe HRS2 s5 b5
                  go_wp2_with fail
                  refine (spec_PutEntry_c _ es ⟨nm, ch1⟩ _ hel.out HXN.out HNL.out HNM.out).mono ?_
                  rw [HPE.out]
                  rintro e w6 ⟨mv, rfl, o6, b6⟩
                  have d6 := bl_then d5 b6
                  have h6 := hid (S5.out.on b6)
                  clear S5 hel kp5 d5 b6
                  cases ok1
                  · have HO9 := hid (show R = (xs1, -1, false) by rw [HRS3.out]; rfl)
                    obtain rfl := HO9.out
                    clear o6
                    go_wp2
                    go_ret3
                    exact ⟨_, rfl, h6.out, d6⟩
                  · have hok1 : entsOk es1 = true ∧ es1.length ≤ 3 := by
                      have h1 := HPE.out
                      have h2 := putEnt_ok (es := es) (e := ⟨nm, ch1⟩) (by rw [h1])
                      rw [h1] at h2
                      have h3 : es1 = putE es ⟨nm, ch1⟩ := h2.2.2
                      rw [h3]
                      exact ⟨h2.2.1, (ents_in h2.2.1).1⟩
                    have HX1 := hid (show ∀ x ∈ es1, x.name.size ≤ 1048576 from fun x hx => by have := name_len (ents_all hok1.1 hx); omega)
                    have HL1 := hid (show es1.length ≤ 1048576 by omega)
                    have HFT := hid (show (strL (folderText es1)).size ≤ 4611686018427387904 by rw [strL_size]; have := folder_len hok1.1; omega)
                    obtain ⟨⟨xs2, p2, ok2⟩, hq⟩ : ∃ P, putS xs1 (strL (folderText es1)) = P := ⟨_, rfl⟩
                    have HQ := hid hq
                    have HO9 := hid (show R = (xs2, p2, ok2) by rw [HRS3.out, hq]; rfl)
                    obtain rfl := HO9.out
                    have HT1 := hid (fun (x : Pc) (hx : x ∈ xs1) => show x.text.size ≤ 1048576 by have := st_text HS1.out hx; omega)
                    have HN1 := hid (show xs1.length ≤ 1048576 by have := (st_in HS1.out).1; omega)
                    have O6 := hid (Rd.of_own o6)
                    clear hok1 hq o6 HRS3
                    go_wp2_with fail
                    refine (spec_FolderText_c _ es1 _ _ O6.out HX1.out HL1.out).mono ?_
                    rintro e w7 ⟨rfl, z7, rfl⟩
                    have d7 := bl_drewN d6 z7
                    have h7 := hid (h6.out.drewN z7)
                    go_wp2_with fail
                    refine (spec_PutText_c _ xs1 _ _ h7.out HT1.out HN1.out HFT.out).mono ?_
                    rw [HQ.out]
                    rintro e w8 ⟨fv, rfl, o8, b8⟩
                    have d8 := bl_then d7 b8
                    have O8 := hid (Rd.of_own o8)
                    clear o8 b8 d6 d7
                    go_wp2
                    go_ret3
                    exact ⟨_, rfl, O8.out, d8⟩
              · have HO9 := hid (show R = (xs, -1, false) by rw [HRS2.out]; rfl)
                obtain rfl := HO9.out
                have h9 := hid (HH.out.on hbw)
                go_wp2
                go_ret3
                exact ⟨_, rfl, h9.out, hbw⟩

end Go.Proofs.YtfdhaigmekmboaaDoor

/- Walks: the reference's way of taking a name away. -/
namespace Go.Proofs.YtfdhaigmekmboaaDoor
open Go.RowKit

theorem leftE_ok {es : List Ent} (h : entsOk es = true) (nm : ByteArray) (l : Int) : entsOk (leftE es nm l) = true := by
  unfold leftE
  split
  · unfold putEnt
    rw [if_pos h]
    split
    · assumption
    · exact h
  · rw [dropEnt_on h]; exact dropE_ok h nm
theorem drop_neg {s : List Pc} {pr : Int} {nm : ByteArray} {rest : List ByteArray} (h : childOf (entsOf (textAt s pr)) nm < 0) : dropIn s pr (nm :: rest) = (s, -1, false) := by unfold dropIn; rw [if_pos h]
theorem drop_one {s : List Pc} {pr : Int} {nm : ByteArray} (h : ¬ childOf (entsOf (textAt s pr)) nm < 0) : dropIn s pr [nm] = dropEnd s (leftE (entsOf (textAt s pr)) nm (-1)) := by unfold dropIn; rw [if_neg h, if_pos rfl]
theorem drop_fail {s : List Pc} {pr : Int} {nm : ByteArray} {rest : List ByteArray} (h : ¬ childOf (entsOf (textAt s pr)) nm < 0) (h0 : rest ≠ []) (hf : (dropIn s (childOf (entsOf (textAt s pr)) nm) rest).2.2 = false) : dropIn s pr (nm :: rest) = (s, -1, false) := by
  conv => lhs; unfold dropIn
  rw [if_neg h, if_neg h0, if_pos hf]
theorem drop_more {s s1 : List Pc} {pr l1 : Int} {nm : ByteArray} {rest : List ByteArray} (h : ¬ childOf (entsOf (textAt s pr)) nm < 0) (h0 : rest ≠ []) (hf : dropIn s (childOf (entsOf (textAt s pr)) nm) rest = (s1, l1, true)) : dropIn s pr (nm :: rest) = dropEnd s1 (leftE (entsOf (textAt s pr)) nm l1) := by
  conv => lhs; unfold dropIn
  rw [if_neg h, if_neg h0, hf]; simp
theorem entsOf_none' {l : List UInt8} (h : (readFolder l).isSome = false) : entsOf l = [] := by
  unfold entsOf
  cases hr : readFolder l with
  | none => rfl
  | some x => rw [hr] at h; cases h

set_option maxHeartbeats 2000000 in
set_option maxRecDepth 100000 in
theorem spec_l10Drop_c (parts : List ByteArray) : ∀ (v pv : Value) (xs : List Pc) (pr : Int) (w : World) (R : List Pc × Int × Bool), parts ≠ [] → dropIn xs pr parts = R → Pcs w w.heap.size v xs → storeOk xs = true → Strs w w.heap.size pv parts → (∀ x ∈ parts, x.size ≤ 1000) → parts.length ≤ 1000 →
    Calls Tryd.prog 89 #[v, .int .i64 pr, pv] w (SetPost w R) := by
  induction parts with
  | nil => intro v pv xs pr w R h0; exact absurd rfl h0
  | cons nm rest ih =>
    intro v pv xs pr w R _ hR h hs hp hx hl
    obtain ⟨m, hm⟩ : ∃ m, (nm :: rest).length = m := ⟨_, rfl⟩
    obtain ⟨pa, pc, rfl, hpc, hpc63, hp3⟩ := hp.strs hm
    have hm1 : 1 ≤ m := by simp at hm; omega
    obtain ⟨bp, op, t0, rfl, hbp, hx0, kp⟩ := hp3 0 (by omega)
    obtain rfl : nm = t0 := by have := hx0.out; simp at this; exact this
    rw [Nat.add_zero] at kp
    have HIH := hid ih
    have HM := hid hm
    have HS := hid hs
    have HP := hid hp
    have HX := hid hx
    have HH := hid h
    have HR := hid hR
    have HL := hid hl
    have HT := hid (text_small hs pr)
    have HKP := hid kp
    have hm9 : m ≤ 1000 := by omega
    clear hm hs hp hx h hR hp3 hx0 ih hl
    obtain ⟨fo, hfo⟩ : ∃ fo, (readFolder (bs ((getP xs pr).getD ByteArray.empty))).isSome = fo := ⟨_, rfl⟩
    obtain ⟨es, hes⟩ : ∃ es, entsOf (bs ((getP xs pr).getD ByteArray.empty)) = es := ⟨_, rfl⟩
    have HFO := hid hfo
    have HES := hid hes
    have HEA := hid (show entsOf (textAt xs pr) = es from hes)
    have HOK := hid (show entsOk es = true by rw [← hes]; exact entsOf_ok _)
    obtain ⟨n, hn⟩ : ∃ n, es.length = n := ⟨_, rfl⟩
    have HN := hid hn
    have hn3 : n ≤ 3 := by rw [← hn]; exact (ents_in HOK.out).1
    have hfn : 0 < n → fo = true := by
      intro h0
      cases fo
      · have := entsOf_none' hfo; rw [hes] at this; rw [this] at hn; simp at hn; omega
      · rfl
    have HFN := hid hfn
    obtain ⟨ch, hch⟩ : ∃ ch, childOf es nm = ch := ⟨_, rfl⟩
    have HCH := hid hch
    have HMZ := hid (show (0 : Int) < m by omega)
    clear hfo hes hn hfn hch kp
    cases fo
    · have h00 : n = 0 := by
        rcases Nat.eq_zero_or_pos n with h | h
        · exact h
        · have := HFN.out h; cases this
      have he0 : es = [] := List.eq_nil_of_length_eq_zero (HN.out.trans h00)
      have HES' := hid (show entsOf (bs ((getP xs pr).getD ByteArray.empty)) = [] by rw [HES.out, he0])
      obtain rfl : R = (xs, -1, false) := by rw [← HR.out]; exact drop_neg (by rw [HEA.out, he0]; show (-1 : Int) < 0; omega)
      clear h00 he0
      go_enter Tryd.func89, Tryd.ntmps89
      go_wp2_with fail
      refine (spec_l4Get_c _ xs pr _ _ HH.out).mono ?_
      rintro e w1 ⟨rfl, rfl⟩
      go_wp2_with fail
      refine (spec_ReadFolder_c _ _ (Nat.le_trans HT.out (by omega))).mono ?_
      rw [HFO.out, HES'.out]
      rintro e wc ⟨lv, rfl, o2, hb⟩
      obtain ⟨la, lc, rfl, _, _, _⟩ := (Rd.of_own o2).ents (n := 0) rfl
      have h9 := hid (HH.out.on hb)
      clear o2
      go_wp2
      go_loop [13, 14] (fun cv i => i = .int .i64 (0 : Nat) ∧ cv = .int .i64 (-1)) (fun _ _ => 0)
      case atStart => exact ⟨rfl, rfl⟩
      case round =>
        obtain ⟨rfl, rfl⟩ := hrel
        go_wp2
        go_ret3
        exact ⟨_, rfl, h9.out, hb⟩
    clear HFN
    go_enter Tryd.func89, Tryd.ntmps89
    go_wp2_with fail
    refine (spec_l4Get_c _ xs pr _ _ HH.out).mono ?_
    rintro e w1 ⟨rfl, rfl⟩
    go_wp2_with fail
    refine (spec_ReadFolder_c _ _ (Nat.le_trans HT.out (by omega))).mono ?_
    rw [HFO.out, HES.out]
    rintro e wc ⟨lv, rfl, o2, hb⟩
    obtain ⟨la, lc, rfl, _, _, hl3⟩ := (Rd.of_own o2).ents HN.out
    have HL2 := hid (Rd.of_own o2)
    have kpc := (hb.cell (p := ⟨bp, op, none⟩) hbp).trans HKP.out
    clear o2
    go_wp2
    go_loopw [13, 14] (fun cv i wr => ∃ k z : Nat, k ≤ n ∧ i = .int .i64 k ∧ cv = .int .i64 (childOf (es.take k) nm) ∧ wr = wc.drewN z) (fun _ i _ => n - (intOf i).toNat)
    case atStart => exact ⟨0, 0, Nat.zero_le _, rfl, rfl, rfl⟩
    case round =>
      obtain ⟨k, z, hk, rfl, rfl, rfl⟩ := hrel
      by_cases hlt : k < n
      · obtain ⟨b, o, t, r, rfl, hbl, hx, k0, k1⟩ := hl3 k hlt
        have HC := hid (child_succ (nm := nm) hx.out)
        have hkn : (k : Int) < n := by omega
        have hmz := HMZ.out
        have hse := str_eqE (u := t) (t := nm)
        clear hl3
        by_cases hte : t = nm
        · have hd1 : (t.toList == nm.toList) = true := by rw [hse]; exact decide_eq_true hte
          have HC2 := hid (HC.out.trans (if_pos hte))
          clear hse hte
          go_wp2
          go_quiet (fail)
          go_wp2
          go_roundw
          case rel => exact ⟨k + 1, _, by omega, by go_num, by rw [HC2.out], rfl⟩
          case measure => simp [intOf]; omega
        · have hd1 : (t.toList == nm.toList) = false := by rw [hse]; exact decide_eq_false hte
          have HC2 := hid (HC.out.trans (if_neg hte))
          clear hse hte
          go_wp2
          go_quiet (fail)
          go_wp2
          go_roundw
          case rel => exact ⟨k + 1, _, by omega, by go_num, by rw [HC2.out], rfl⟩
          case measure => simp [intOf]; omega
      · have hce : childOf (es.take k) nm = ch := by rw [take_all HN.out (show n ≤ k by omega)]; exact HCH.out
        rw [hce]
        obtain ⟨wd, hwd⟩ : ∃ wd, wd = wc.drewN z := ⟨_, rfl⟩
        have hbd : Below w.heap.size w wd := by rw [hwd]; exact bl_drewN hb z
        have hld : Hid (Ents wd wd.heap.size (.slice la n lc) es) := by rw [hwd]; exact HL2.out.drewN z
        rw [← hwd]
        clear hce hwd hl3 kpc HL2 hb
        by_cases hc0 : ch < 0
        · obtain rfl : R = (xs, -1, false) := by rw [← HR.out]; exact drop_neg (by rw [HEA.out, HCH.out]; exact hc0)
          have h9 := hid (HH.out.on hbd)
          go_wp2
          go_ret3
          exact ⟨_, rfl, h9.out, hbd⟩
        have HC0 := hid (show 0 ≤ childOf (entsOf (textAt xs pr)) nm by rw [HEA.out, HCH.out]; omega)
        have HEC := hid (show childOf (entsOf (textAt xs pr)) nm = ch by rw [HEA.out, HCH.out])
        go_upto_if 60 with fail
        go_cut [0, 15, 16, 17, 18] (fun sv lv _ _ _ wx => ∃ (xs1 : List Pc) (l1 : Int), Pcs wx wx.heap.size sv xs1 ∧ lv = .int .i64 l1 ∧ Below wd.heap.size wd wx ∧ Hid (storeOk xs1 = true) ∧ Hid (R = dropEnd xs1 (leftE es nm l1)))
        case first =>
          by_cases hr0 : rest = []
          · have hmd : decide ((1 : Int) < (m : Int)) = false := by have := HM.out; rw [hr0] at this; simp at this ⊢; omega
            have hmp : (m : Int) ≤ 1 := by have := HM.out; rw [hr0] at this; simp at this; omega
            have HO9 := hid (show R = dropEnd xs (leftE es nm (-1)) by rw [← HR.out, hr0, drop_one (Int.not_lt.2 HC0.out), HEA.out])
            have h9 := hid (HH.out.on hbd)
            clear hr0
            go_wp2
            go_meet
            exact ⟨xs, -1, h9.out, rfl, Below.refl _ _, HS, HO9⟩
          · have hmd : decide ((1 : Int) < (m : Int)) = true := by
              have := HM.out
              cases rest with
              | nil => exact absurd rfl hr0
              | cons x r => simp at this ⊢; omega
            have hmp : (1 : Int) < m := by simp at hmd; omega
            have HR0 := hid hr0
            have HTL := hid (Rd.tailS HP.out HM.out (if_neg (by omega) : (if pc = 1 then (some ⟨bp, op, none⟩ : Option Addr) else some ⟨bp, op + 1, none⟩) = some ⟨bp, op + 1, none⟩))
            have h1m : (1 : Int) ≤ m := by omega
            have h1c : (1 : Int) ≤ pc := by omega
            obtain ⟨⟨xs1, l1, ok⟩, hR1⟩ : ∃ R1, dropIn xs ch rest = R1 := ⟨_, rfl⟩
            have HR1 := hid hR1
            have HS1 := hid (show storeOk xs1 = true by have := dropIn_ok rest xs ch HS.out; rw [hR1] at this; exact this)
            clear hr0 hR1
            go_wp2_with fail
            refine (HIH.out _ _ xs ch _ (xs1, l1, ok) HR0.out HR1.out (HH.out.on hbd) HS.out (HTL.out.on hbd) (fun x hx => HX.out x (by simp [hx])) (by have := HL.out; simp at this; omega)).mono ?_
            rintro e w5 ⟨sv, rfl, s5, b5⟩
            have d5 := bl_then hbd b5
            have S5 := hid s5
            clear h1m h1c s5
            cases ok
            · obtain rfl : R = (xs, -1, false) := by rw [← HR.out]; exact drop_fail (Int.not_lt.2 HC0.out) HR0.out (by rw [HEC.out, HR1.out])
              have h9 := hid (HH.out.on d5)
              clear b5
              go_wp2
              go_ret3
              exact ⟨_, rfl, h9.out, d5⟩
            · have HO9 := hid (show R = dropEnd xs1 (leftE es nm l1) by rw [← HR.out, drop_more (Int.not_lt.2 HC0.out) HR0.out (by rw [HEC.out, HR1.out]), HEA.out])
              go_wp2
              go_meet
              exact ⟨xs1, l1, S5.out, rfl, b5, HS1, HO9⟩
        case rest =>
          obtain ⟨xs1, l1, s5, rfl, hb5, HS1, HO9⟩ := hcut
          have S5 := hid s5
          have L5 := hid (hld.out.on hb5)
          have d5 := bl_then hbd hb5
          have kp5 := (d5.cell (p := ⟨bp, op, none⟩) hbp).trans HKP.out
          have hmz := HMZ.out
          have HXN := hid (show ∀ x ∈ es, x.name.size ≤ 1048576 from fun x hx => by have := name_len (ents_all HOK.out hx); omega)
          have HNM := hid (show nm.size ≤ 1048576 by have := HX.out nm (by simp); omega)
          have HNL := hid (show es.length ≤ 1048570 by have := HN.out; omega)
          clear s5 hb5 hbd hld
          go_wp2_with fail
          refine (spec_DropEntry_c _ es nm _ L5.out HXN.out HNL.out).mono ?_
          rintro e w6 ⟨rv, rfl, o6, b6⟩
          have d6 := bl_then d5 b6
          have S6 := hid (S5.out.on b6)
          have L6 := hid (L5.out.on b6)
          have kp6 := (d6.cell (p := ⟨bp, op, none⟩) hbp).trans HKP.out
          have O6 := hid (Rd.of_own o6)
          clear o6 b6 d5 S5 L5 kp5
          go_upto_if 84 with fail
          go_cut [19] (fun rw_ wx => Ents wx wx.heap.size rw_ (leftE es nm l1) ∧ Below w6.heap.size w6 wx)
          case first =>
            by_cases hl0 : 0 ≤ l1
            · have hd : decide (0 ≤ l1) = true := by simp; omega
              have HLE := hid (show leftE es nm l1 = (putEnt es ⟨nm, l1⟩).1 by unfold leftE; rw [if_pos hl0])
              go_wp2_with fail
              refine (spec_PutEntry_c _ es ⟨nm, l1⟩ _ L6.out HXN.out HNL.out HNM.out).mono ?_
              rintro e w7 ⟨mv, rfl, o7, b7⟩
              have O7 := hid (Rd.of_own o7)
              clear o7
              go_wp2
              go_meet
              exact ⟨by rw [HLE.out]; exact O7.out, b7⟩
            · have hd : decide (0 ≤ l1) = false := by simp; omega
              have HLE := hid (show leftE es nm l1 = (dropEnt es nm).1 by unfold leftE; rw [if_neg hl0])
              go_wp2
              go_meet
              exact ⟨by rw [HLE.out]; exact O6.out, Below.refl _ _⟩
          case rest =>
            obtain ⟨hr7, hb7⟩ := hcut
            have d7 := bl_then d6 hb7
            have S7 := hid (S6.out.on hb7)
            have R7 := hid hr7
            clear hb7 kp6
            obtain ⟨fs, hfs⟩ : ∃ fs, leftE es nm l1 = fs := ⟨_, rfl⟩
            have HFS := hid (show entsOk fs = true by rw [← hfs]; exact leftE_ok HOK.out nm l1)
            rw [hfs] at R7 HO9 hr7
            obtain ⟨q, hq⟩ : ∃ q, fs.length = q := ⟨_, rfl⟩
            obtain ⟨fa, fc, rfl, _, _, _⟩ := hr7.ents hq
            have HQ := hid hq
            clear hfs hr7 hq
            by_cases hq0 : q = 0
            · have hqd : ((q : Int) == 0) = true := by rw [hq0]; rfl
              obtain rfl : R = (xs1, -1, true) := by
                rw [HO9.out]; unfold dropEnd
                rw [if_pos (List.eq_nil_of_length_eq_zero (HQ.out.trans hq0))]
              clear hq0
              go_wp2
              go_ret3
              exact ⟨_, rfl, S7.out, d7⟩
            · have hqd : ((q : Int) == 0) = false := by simp; omega
              have HX1 := hid (show ∀ x ∈ fs, x.name.size ≤ 1048576 from fun x hx => by have := name_len (ents_all HFS.out hx); omega)
              have HL1 := hid (show fs.length ≤ 1048576 by have := (ents_in HFS.out).1; omega)
              have HFT := hid (show (strL (folderText fs)).size ≤ 4611686018427387904 by rw [strL_size]; have := folder_len HFS.out; omega)
              obtain ⟨⟨xs2, p2, ok2⟩, hpq⟩ : ∃ P, putS xs1 (strL (folderText fs)) = P := ⟨_, rfl⟩
              have HPQ := hid hpq
              obtain rfl : R = (xs2, p2, ok2) := by
                rw [HO9.out]; unfold dropEnd
                rw [if_neg (fun e => hq0 (by rw [← HQ.out, e]; rfl)), hpq]
              have HT1 := hid (fun (x : Pc) (hx : x ∈ xs1) => show x.text.size ≤ 1048576 by have := st_text HS1.out hx; omega)
              have HN1 := hid (show xs1.length ≤ 1048576 by have := (st_in HS1.out).1; omega)
              clear hpq hq0
              go_wp2_with fail
              refine (spec_FolderText_c _ fs _ _ R7.out HX1.out HL1.out).mono ?_
              rintro e w7 ⟨rfl, z7, rfl⟩
              have d8 := bl_drewN d7 z7
              have h8 := hid (S7.out.drewN z7)
              go_wp2_with fail
              refine (spec_PutText_c _ xs1 _ _ h8.out HT1.out HN1.out HFT.out).mono ?_
              rw [HPQ.out]
              rintro e w8 ⟨fv, rfl, o8, b8⟩
              have d9 := bl_then d8 b8
              have O8 := hid (Rd.of_own o8)
              clear o8 b8 d8
              go_wp2
              go_ret3
              exact ⟨_, rfl, O8.out, d9⟩

end Go.Proofs.YtfdhaigmekmboaaDoor

/- Walks: the reference's way through folders. -/
namespace Go.Proofs.YtfdhaigmekmboaaDoor
open Go.RowKit

theorem first_at {es : List Ent} {nm : ByteArray} {j : Nat} {x : Ent} (hx : es[j]? = some x) (hn : x.name = nm) (h : ∀ i y, i < j → es[i]? = some y → y.name ≠ nm) : firstOf es nm = some x.print := by
  unfold firstOf
  have : es.find? (fun e => decide (e.name = nm)) = some x := by
    induction es generalizing j with
    | nil => simp at hx
    | cons e r ih =>
      rw [List.find?_cons]
      cases j with
      | zero => simp at hx; subst hx; simp [hn]
      | succ j =>
        have h0 := h 0 e (by omega) (by simp)
        simp only [h0, decide_false]
        exact ih (by simpa using hx) (fun i y hi hy => h (i + 1) y (by omega) (by simpa using hy))
  rw [this]; rfl
theorem first_none {es : List Ent} {nm : ByteArray} (h : ∀ (i : Nat) (y : Ent), es[i]? = some y → y.name ≠ nm) : firstOf es nm = none := by
  unfold firstOf
  rw [Option.map_eq_none_iff, List.find?_eq_none]
  intro x hx
  obtain ⟨i, hi, e⟩ := List.getElem_of_mem hx
  have := h i x (by rw [List.getElem?_eq_getElem hi, e])
  simpa using this
theorem walk_some {s : List Pc} {pr ch : Int} {nm : ByteArray} {rest : List ByteArray} (h : firstOf (entsOf (textAt s pr)) nm = some ch) : walkAt s pr (nm :: rest) = walkAt s ch rest := by conv => lhs; unfold walkAt; rw [h]
theorem walk_no {s : List Pc} {pr : Int} {nm : ByteArray} {rest : List ByteArray} (h : firstOf (entsOf (textAt s pr)) nm = none) : walkAt s pr (nm :: rest) = (-1, false) := by unfold walkAt; rw [h]
theorem drop_cons {α : Type} {l : List α} {k : Nat} {x : α} (h : l[k]? = some x) : l.drop k = x :: l.drop (k + 1) := by
  obtain ⟨hk, rfl⟩ := List.getElem?_eq_some_iff.1 h
  exact List.drop_eq_getElem_cons hk

set_option maxHeartbeats 2000000 in
set_option maxRecDepth 100000 in
theorem spec_l9Walk_c (v pv : Value) (xs : List Pc) (pr : Int) (parts : List ByteArray) (w : World) (R : Int × Bool) (hR : walkAt xs pr parts = R) (h : Pcs w w.heap.size v xs) (hs : storeOk xs = true) (hp : Strs w w.heap.size pv parts) :
    Calls Tryd.prog 88 #[v, .int .i64 pr, pv] w fun e w' => e = .returned (.tuple #[.int .i64 R.1, .bool R.2]) ∧ Below w.heap.size w w' := by
  obtain ⟨m, hm⟩ : ∃ m, parts.length = m := ⟨_, rfl⟩
  obtain ⟨pa, pc, rfl, hpc, hpc63, hp3⟩ := hp.strs hm
  have HM := hid hm
  have HS := hid hs
  have HH := hid h
  have HR := hid hR
  clear hm hs h hR hp
  go_enter Tryd.func88, Tryd.ntmps88
  go_wp2
  go_loopw [1, 8] (fun q i wr => ∃ (k : Nat) (y : Int), k ≤ m ∧ i = .int .i64 k ∧ q = .int .i64 y ∧ Hid (walkAt xs y (parts.drop k) = R) ∧ Below w.heap.size w wr) (fun _ i _ => m - (intOf i).toNat)
  case atStart => exact ⟨0, pr, Nat.zero_le _, rfl, rfl, hid (by simpa using HR.out), Below.refl _ _⟩
  case round =>
    obtain ⟨k, y, hk, rfl, rfl, hw, hb⟩ := hrel
    by_cases hlt : k < m
    · obtain ⟨bp, op, nm, rfl, hbp, hx, kp⟩ := hp3 k hlt
      have HT := hid (text_small HS.out y)
      have HW := hid (show walkAt xs y (nm :: parts.drop (k + 1)) = R by rw [← drop_cons hx.out]; exact hw.out)
      have HKP := hid kp
      obtain ⟨fo, hfo⟩ : ∃ fo, (readFolder (bs ((getP xs y).getD ByteArray.empty))).isSome = fo := ⟨_, rfl⟩
      obtain ⟨es, hes⟩ : ∃ es, entsOf (bs ((getP xs y).getD ByteArray.empty)) = es := ⟨_, rfl⟩
      have HFO := hid hfo
      have HES := hid hes
      have HEA := hid (show entsOf (textAt xs y) = es from hes)
      obtain ⟨n, hn⟩ : ∃ n, es.length = n := ⟨_, rfl⟩
      have HN := hid hn
      have hn3 : n ≤ 3 := by rw [← hn, ← hes]; exact (ents_in (entsOf_ok _)).1
      have hfn : fo = false → n = 0 := by
        rintro rfl
        have := entsOf_none' hfo; rw [hes] at this; rw [this] at hn; simpa using hn.symm
      have HFN := hid hfn
      clear hfo hes hn hfn kp hp3 hw
      cases fo
      · have h00 : n = 0 := HFN.out rfl
        have he0 : es = [] := List.eq_nil_of_length_eq_zero (HN.out.trans h00)
        have HES' := hid (show entsOf (bs ((getP xs y).getD ByteArray.empty)) = [] by rw [HES.out, he0])
        obtain rfl : R = (-1, false) := by rw [← HW.out]; exact walk_no (by rw [HEA.out, he0]; rfl)
        clear h00 he0
        go_wp2_with fail
        refine (spec_l4Get_c _ xs y _ _ (HH.out.on hb)).mono ?_
        rintro e w1 ⟨rfl, rfl⟩
        go_wp2_with fail
        refine (spec_ReadFolder_c _ _ (Nat.le_trans HT.out (by omega))).mono ?_
        rw [HFO.out, HES'.out]
        rintro e wc ⟨lv, rfl, o2, hb2⟩
        obtain ⟨la, lc, rfl, _, _, _⟩ := (Rd.of_own o2).ents (n := 0) rfl
        have hbc := bl_then hb hb2
        clear o2 hb2
        go_wp2
        go_loop [1, 13, 14] (fun qv fv i => i = .int .i64 (0 : Nat) ∧ fv = .bool false) (fun _ _ _ => 0)
        case atStart => exact ⟨rfl, rfl⟩
        case round =>
          obtain ⟨rfl, rfl⟩ := hrel
          go_wp2
          go_ret2
          exact ⟨rfl, hbc⟩
      clear HFN
      go_wp2_with fail
      refine (spec_l4Get_c _ xs y _ _ (HH.out.on hb)).mono ?_
      rintro e w1 ⟨rfl, rfl⟩
      go_wp2_with fail
      refine (spec_ReadFolder_c _ _ (Nat.le_trans HT.out (by omega))).mono ?_
      rw [HFO.out, HES.out]
      rintro e wc ⟨lv, rfl, o2, hb2⟩
      obtain ⟨la, lc, rfl, _, _, hl3⟩ := (Rd.of_own o2).ents HN.out
      have hbc := bl_then hb hb2
      have kpc := (hbc.cell (p := ⟨bp, op + k, none⟩) hbp).trans HKP.out
      clear o2 hb2 hb
      go_wp2
      go_loopw [1, 13, 14] (fun qv fv i wr => ∃ j z : Nat, j ≤ n ∧ i = .int .i64 j ∧ qv = .int .i64 y ∧ fv = .bool false ∧ Hid (∀ i x, i < j → es[i]? = some x → x.name ≠ nm) ∧ wr = wc.drewN z) (fun _ _ i _ => n - (intOf i).toNat)
      case atStart => exact ⟨0, 0, Nat.zero_le _, rfl, rfl, rfl, hid (fun i x hi => absurd hi (by omega)), rfl⟩
      case round =>
        obtain ⟨j, z, hj, rfl, rfl, rfl, hno, rfl⟩ := hrel
        by_cases hjn : j < n
        · obtain ⟨b, o, t, r, rfl, hbl, hx2, k0, k1⟩ := hl3 j hjn
          have hkn : (j : Int) < n := by omega
          have hkm : (k : Int) < m := by omega
          have hse := str_eqE (u := t) (t := nm)
          clear hl3
          by_cases hte : t = nm
          · have hd1 : (t.toList == nm.toList) = true := by rw [hse]; exact decide_eq_true hte
            have HF := hid (show walkAt xs r (parts.drop (k + 1)) = R by rw [← HW.out, walk_some (by rw [HEA.out]; exact first_at hx2.out hte hno.out)])
            clear hse hte
            go_wp2
            go_quiet (fail)
            go_wp2
            go_roundw
            case rel => exact ⟨k + 1, r, by omega, by go_num, rfl, HF, bl_drewN hbc _⟩
            case measure => simp [intOf]; omega
          · have hd1 : (t.toList == nm.toList) = false := by rw [hse]; exact decide_eq_false hte
            have HF := hid (show ∀ i x, i < j + 1 → es[i]? = some x → x.name ≠ nm from fun i x hi hx' => by
              rcases Nat.lt_succ_iff_lt_or_eq.1 hi with h | h
              · exact hno.out i x h hx'
              · rw [h, hx2.out] at hx'
                rw [← Option.some.inj hx']; exact hte)
            clear hse hte
            go_wp2
            go_quiet (fail)
            go_wp2
            go_roundw
            case rel => exact ⟨j + 1, _, by omega, by go_num, rfl, rfl, HF, rfl⟩
            case measure => simp [intOf]; omega
        · obtain rfl : R = (-1, false) := by
            rw [← HW.out]
            exact walk_no (by rw [HEA.out]; exact first_none (fun i x hx' => hno.out i x (by have := (List.getElem?_eq_some_iff.1 hx').1; have := HN.out; omega) hx'))
          clear hl3
          go_wp2
          go_ret2
          exact ⟨rfl, bl_drewN hbc _⟩
    · have HF := hid (show walkAt xs y [] = R by rw [← hw.out, List.drop_of_length_le (by have := HM.out; omega)])
      clear hp3
      cases hp : hasP xs y
      · obtain rfl : R = (-1, false) := by rw [← HF.out]; unfold walkAt; rw [hp]; rfl
        have HP := hid hp
        clear hp
        go_wp2_with fail
        refine (spec_l4Get_c _ xs y _ _ (HH.out.on hb)).mono ?_
        rw [HP.out]
        rintro e w1 ⟨rfl, rfl⟩
        go_wp2
        go_ret2
        exact ⟨rfl, hb⟩
      · obtain rfl : R = (y, true) := by rw [← HF.out]; unfold walkAt; rw [hp]; rfl
        have HP := hid hp
        clear hp
        go_wp2_with fail
        refine (spec_l4Get_c _ xs y _ _ (HH.out.on hb)).mono ?_
        rw [HP.out]
        rintro e w1 ⟨rfl, rfl⟩
        go_wp2
        go_ret2
        exact ⟨rfl, hb⟩

end Go.Proofs.YtfdhaigmekmboaaDoor

/- Walks: a path's words, the reference's way. -/
namespace Go.Proofs.YtfdhaigmekmboaaDoor
open Go.RowKit

theorem split_succ {l : List UInt8} {k : Nat} {c : UInt8} (h : l[k]? = some c) : (l.take (k + 1)).foldl splitStep [] = splitStep ((l.take k).foldl splitStep []) c := foldl_succ _ _ h
theorem split_slash (acc : List (List UInt8)) : splitStep acc 47 = acc ++ [[]] := by unfold splitStep; rw [if_pos rfl]
theorem split_none {c : UInt8} (h : c ≠ 47) : splitStep [] c = [] := by unfold splitStep; rw [if_neg h, if_pos rfl]
theorem split_more {c : UInt8} (h : c ≠ 47) (L : List (List UInt8)) (x : List UInt8) : splitStep (L ++ [x]) c = L ++ [x ++ [c]] := by
  unfold splitStep
  rw [if_neg h, if_neg (by simp)]
  simp
theorem nil_or_snoc' {α : Type} (l : List α) : l = [] ∨ ∃ (t : List α) (i : α), l = t ++ [i] := by
  rcases List.eq_nil_or_concat l with h | ⟨t, x, h⟩
  · exact .inl h
  · exact .inr ⟨t, x, by simpa using h⟩
theorem strs_bs (l : List (List UInt8)) : (l.map strL).map bs = l := by
  rw [List.map_map]
  conv => rhs; rw [← List.map_id l]
  refine List.map_congr_left (fun x _ => ?_)
  simp [bs_strL]

set_option maxHeartbeats 2000000 in
set_option maxRecDepth 100000 in
theorem spec_PathParts_c (s : ByteArray) (w : World) (hs : s.size ≤ 900) :
    Calls Tryd.prog 87 #[.string s] w fun e w' => ∃ v', e = .returned (.tuple #[v', .bool (pathParts (bs s)).isSome]) ∧ OwnS w' w.heap.size v' (((pathParts (bs s)).getD []).map strL) ∧ Below w.heap.size w w' := by
  have hal : Below w.heap.size w (w.alloc (.cells #[] 9)) := (Below.refl _ _).alloc (Nat.le_refl _) _
  have hown0 : OwnS (w.alloc (.cells #[] 9)) w.heap.size (.slice (some ⟨w.heap.size, 0, none⟩) 0 0) [] := Own.made _ (Nat.le_refl _)
  have hb1 := str_beq' s [47]
  rw [show (strL [47]).toList = [47] by rw [ByteArray.toList_eq]; rfl] at hb1
  by_cases h1 : bs s = [47]
  · have HO := hid (show pathParts (bs s) = some [] by unfold pathParts; rw [if_pos h1])
    have hq : (s.toList == [47]) = true := by rw [hb1]; exact decide_eq_true h1
    clear hb1 h1
    go_enter Tryd.func87, Tryd.ntmps87
    go_wp2
    go_ret2
    exact ⟨_, by rw [HO.out]; rfl, by rw [HO.out]; exact hown0, hal⟩
  · have hq : (s.toList == [47]) = false := by rw [hb1]; exact decide_eq_false h1
    have H1 := hid h1
    clear hb1 h1
    go_enter Tryd.func87, Tryd.ntmps87
    go_wp2
    go_loopw [4, 5] (fun out iv wr => ∃ (k : Nat) (acc : List (List UInt8)), k ≤ s.size ∧ iv = .int .i64 k ∧ OwnS wr w.heap.size out (acc.map strL) ∧ Hid (acc = ((bs s).take k).foldl splitStep []) ∧ acc.length ≤ k ∧ Hid (∀ x ∈ acc, x.length ≤ k) ∧ Below w.heap.size w wr) (fun _ iv _ => s.size - (intOf iv).toNat)
    case atStart => exact ⟨0, [], Nat.zero_le _, rfl, hown0, rfl, Nat.zero_le _, hid (by simp), hal⟩
    case round =>
      obtain ⟨k, acc, hk, rfl, hown, hacc, hlen, hsz, hb⟩ := hrel
      clear hown0 hal
      by_cases hlt : k < s.size
      · have hx := bs_get s hlt
        have hB := hb.size
        by_cases hc : s[k] = 47
        · have HF := hid ((split_succ hx).trans (by rw [hc, ← hacc.out, split_slash]))
          have hd0 : (s[k].toNat : Int) = 47 := by rw [hc]; rfl
          clear hx hc
          go_wp2_with (at_builtin; refine push_str (w0 := w) rfl _ _ rfl w.heap.size w.heap.size _ (acc.map strL) ⟨#[]⟩ hown hb hB (Nat.le_refl _) rfl rfl (by simp; omega) ?_; intro v' w' hown' hb' hB' hg')
          go_roundw
          case rel => exact ⟨k + 1, acc ++ [[]], by omega, by go_num, by rw [List.map_append]; exact hown', hid HF.out.symm, by simp; omega, hid (fun x hx' => by
            rcases List.mem_append.1 hx' with h | h
            · have := hsz.out x h; omega
            · obtain rfl : x = [] := by simpa using h
              simp), hb'⟩
          case measure => simp [intOf]; omega
        · have hd0 : ¬ (s[k].toNat : Int) = 47 := by
            intro e
            have : s[k].toNat = 47 := by omega
            exact hc (UInt8.toNat_inj.1 this)
          have HC := hid hc
          have HX := hid hx
          clear hx hc
          rcases nil_or_snoc' acc with rfl | ⟨L, x, rfl⟩
          · have HF := hid ((split_succ HX.out).trans (by rw [← hacc.out, split_none HC.out]))
            obtain ⟨a0, c0, rfl, _, _, _⟩ := (Rd.of_own hown).strs (n := 0) rfl
            go_wp2
            go_roundw
            case rel => exact ⟨k + 1, [], by omega, by go_num, hown, hid HF.out.symm, by simp, hid (by simp), hb⟩
            case measure => simp [intOf]; omega
          · have HF := hid ((split_succ HX.out).trans (by rw [← hacc.out, split_more HC.out]))
            obtain ⟨m, hm⟩ : ∃ m, L.length = m := ⟨_, rfl⟩
            have hln : ((L ++ [x]).map strL).length = m + 1 := by simp [hm]
            have hxl := hsz.out x (by simp)
            rcases hown.2 with ⟨_, h00⟩ | ⟨g, cap, cur, hv, hge, hh, hnc, hcm, hcs, htk⟩
            · omega
            rw [hln] at hv
            subst hv
            have hR : wr.ownsRow w.heap.size 9 1 (.slice (some ⟨g, 0, none⟩) (m + 1) cap) (m + 1) ((L.map strL).flatMap encS ++ [.string (strL x)]) := by
              have := hown
              unfold OwnS Own at this
              rw [hln] at this
              simpa [encS] using this
            have hfl : ((L.map strL).flatMap encS).length = m := by rw [← List.map_eq_flatMap]; simp [hm]
            have d0 : wr.cell? ⟨g, m, none⟩ = some (.string (strL x)) := (hR.cellAt m (by omega)).trans (by rw [List.getElem?_append_right (by omega), hfl]; simp)
            have f0 : wr.frozen? ⟨g, m, none⟩ = false := hR.frozenAt m
            have hxe : s.extract k (k + 1) = strL [s[k]] := by
              rw [ext_strL, take_snoc' HX.out, List.drop_append, List.drop_of_length_le (by simp; omega), show k - ((bs s).take k).length = 0 by simp; omega]
              rfl
            have hcat : strL x ++ s.extract k (k + 1) = strL (x ++ [s[k]]) := by rw [hxe, strL_append]
            have hs1 := strL_size x
            have hq1 : (strL x).size + (s.extract k (k + 1)).size ≤ 9223372036854775807 := by rw [hxe, strL_size, strL_size]; simp; omega
            have HST := hid (hR.stored m (.string (strL x ++ s.extract k (k + 1))))
            have HCAT := hid hcat
            have HFL := hid hfl
            have hkk : (k : Int) + 1 ≤ s.size := by omega
            have hmk : m + 1 ≤ k := by simp at hlen; omega
            have hw1 : IntKind.i64.wrap (m : Int) = (m : Int) := IntWalk.i64_in _ (by omega)
            have hw2 : wrap64 (m : Int) = (m : Int) := by unfold wrap64; omega
            have HM := hid hm
            have HGE := hid hge
            clear hh hnc hcm hcs htk hR hfl hxe hcat hm hown hln hge
            go_wp2
            refine wp_region_early (n := 17) _ rfl rfl (by kernel_rfl) (by kernel_rfl) (fun _ _ _ _ h => h) ?_
            simp only [List.take_succ_cons, List.take_zero, List.drop_succ_cons, List.drop_zero, Act.put, Act.eval, List.setIfInBounds_toArray, List.set_cons_succ, List.set_cons_zero]
            repeat (go_big_quiet_step (fail))
            refine wpQuiet_nil ?_
            intro q6
            go_wp2
            go_roundw
            case rel =>
              refine ⟨k + 1, L ++ [x ++ [s[k]]], by omega, by go_num, ?_, hid HF.out.symm, by simp at hlen ⊢; omega, hid (fun y hy => ?_), (hb.trans (bl_drewN (Below.refl _ _) q6)).setCell HGE.out _⟩
              · have h1 := HST.out.1
                rw [HCAT.out, List.set_append_right _ _ (by rw [HFL.out]; omega), HFL.out, Nat.sub_self] at h1
                unfold OwnS Own
                rw [show ((L ++ [x ++ [s[k]]]).map strL).length = m + 1 by simp [HM.out]]
                have h2 : ((L ++ [x ++ [s[k]]]).map strL).flatMap encS = (L.map strL).flatMap encS ++ [.string (strL (x ++ [s[k]]))] := by simp [encS]
                rw [h2]
                rw [HCAT.out]
                exact h1
              · rcases List.mem_append.1 hy with h | h
                · have := hsz.out y (by simp [h]); omega
                · obtain rfl : y = x ++ [s[k]] := by simpa using h
                  simp; omega
            case measure => simp [intOf]; omega
      · have HF := hid (show acc = splitP (bs s) by rw [hacc.out, take_all (bs_len s) (show s.size ≤ k by omega)]; rfl)
        by_cases hs0 : 0 < s.size
        · have hem : s.toList.isEmpty = false := by
            rw [← strL_bs s]
            exact strL_nem (by intro e; have := bs_len s; rw [e] at this; simp at this; omega)
          have hne : bs s ≠ [] := by intro e; have := bs_len s; rw [e] at this; simp at this; omega
          have HNE := hid hne
          have hjl : (acc.map strL).length ≤ 1000 := by simp; omega
          have hjs : ∀ x ∈ acc.map strL, x.size ≤ 1000 := fun x hx => by
            obtain ⟨y, hy, rfl⟩ := List.mem_map.1 hx
            have := hsz.out y hy
            rw [strL_size]; omega
          have HJL := hid hjl
          have HJS := hid hjs
          have hbq := str_beq s (joinP acc)
          have HJ := hid (show joinP ((acc.map strL).map bs) = joinP acc by rw [strs_bs])
          clear hne hjl hjs
          by_cases hj : joinP acc = bs s
          · have HO := hid (show pathParts (bs s) = some acc by unfold pathParts; rw [if_neg H1.out, ← HF.out, if_pos ⟨HNE.out, hj⟩])
            have hbt : ((strL (joinP acc)).toList == s.toList) = true := by rw [hbq]; exact decide_eq_true hj
            clear hbq hj
            go_wp2_with (go_at_call 99; refine (spec_JoinPath_c _ _ _ (Rd.of_own hown) HJS.out HJL.out).mono ?_; rw [HJ.out]; rintro e w' ⟨rfl, rfl⟩)
            go_ret2
            exact ⟨_, by rw [HO.out]; rfl, by rw [HO.out]; exact hown, hb⟩
          · have HO := hid (show pathParts (bs s) = none by unfold pathParts; rw [if_neg H1.out, ← HF.out, if_neg (fun h => hj h.2)])
            have hbt : ((strL (joinP acc)).toList == s.toList) = false := by rw [hbq]; exact decide_eq_false hj
            have hal2 := hid (hb.alloc hb.size (.cells #[] 9))
            have hown2 : Hid (OwnS (wr.alloc (.cells #[] 9)) w.heap.size (.slice (some ⟨wr.heap.size, 0, none⟩) 0 0) []) := hid (Own.made _ hb.size)
            clear hbq hj
            go_wp2_with (go_at_call 99; refine (spec_JoinPath_c _ _ _ (Rd.of_own hown) HJS.out HJL.out).mono ?_; rw [HJ.out]; rintro e w' ⟨rfl, rfl⟩)
            go_ret2
            exact ⟨_, by rw [HO.out]; rfl, by rw [HO.out]; exact hown2.out, hal2.out⟩
        · have hem : s.toList.isEmpty = true := by
            have : bs s = [] := List.length_eq_zero_iff.1 (by rw [bs_len]; omega)
            rw [← strL_bs s, this]
            exact strL_emp
          have HO := hid (show pathParts (bs s) = none by
            have : bs s = [] := List.length_eq_zero_iff.1 (by rw [bs_len]; omega)
            unfold pathParts; rw [if_neg H1.out, if_neg (fun h => h.1 this)])
          have hal2 := hid (hb.alloc hb.size (.cells #[] 9))
          have hown2 : Hid (OwnS (wr.alloc (.cells #[] 9)) w.heap.size (.slice (some ⟨wr.heap.size, 0, none⟩) 0 0) []) := hid (Own.made _ hb.size)
          go_wp2
          go_ret2
          exact ⟨_, by rw [HO.out]; rfl, by rw [HO.out]; exact hown2.out, hal2.out⟩

end Go.Proofs.YtfdhaigmekmboaaDoor
