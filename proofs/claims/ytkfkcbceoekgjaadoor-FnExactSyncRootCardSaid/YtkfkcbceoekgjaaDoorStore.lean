/- Walks: valid stores, and the text with a print. -/
import Derived.Test.YtkfkcbceoekgjaaDoorPcs
import Derived.Test.YtkfkcbceoekgjaaDoorPrint
import Derived.Test.YtkfkcbceoekgjaaDoorHas
import Derived.Laws.ResultCell
import Derived.Handy
namespace Go.Proofs.YtkfkcbceoekgjaaDoor
open Go.RowKit

theorem impl_TextValid_e (s : ByteArray) (w : World) {x : Bool} (h : textOk (bs s) = x) :
    Calls Tryd.prog 47 #[.string s] w fun e w' => e = .returned (.bool x) ∧ w = w' := h ▸ impl_TextValid_c s w

theorem impl_PrintOf_e (s : ByteArray) (w : World) {x : Int} (h : printOf (bs s) = x) :
    Calls Tryd.prog 48 #[.string s] w fun e w' => e = .returned (.int .i64 x) ∧ w = w' := h ▸ impl_PrintOf_c s w

theorem spec_TextValid_e (s : ByteArray) (w : World) {x : Bool} (hs : s.size ≤ 4611686018427387904) (h : textOk (bs s) = x) :
    Calls Tryd.prog 43 #[.string s] w fun e w' => e = .returned (.bool x) ∧ w = w' := h ▸ spec_TextValid_c s w hs

theorem spec_PrintOf_e (s : ByteArray) (w : World) {x : Int} (hs : s.size ≤ 4611686018427387904) (h : printOf (bs s) = x) :
    Calls Tryd.prog 44 #[.string s] w fun e w' => e = .returned (.int .i64 x) ∧ w = w' := h ▸ spec_PrintOf_c s w hs

theorem pcOk_no1 {r : Int} {t : ByteArray} (h : textOk (bs t) = false) (y : Bool) : (pcOk ⟨r, t⟩ && y) = false := by simp [pcOk, h]
theorem pcOk_no2 {r z : Int} {t : ByteArray} (h : printOf (bs t) = z) (hz : r ≠ z) (y : Bool) : (pcOk ⟨r, t⟩ && y) = false := by simp [pcOk, h, hz]
theorem pcOk_yes {r : Int} {t : ByteArray} (h : textOk (bs t) = true) (hz : printOf (bs t) = r) : pcOk ⟨r, t⟩ = true := by simp [pcOk, h, hz]

theorem st_step {l : List Pc} {k : Nat} {x : Pc} (h : l[k]? = some x) (h0 : stFrom (-1) (l.take k) = true) (h1 : pcOk x = true) (h2 : lastAt (-1) l k < x.print) : stFrom (-1) (l.take (k + 1)) = true := by
  rw [stFrom_succ l (-1) k _ h, h0, h1, decide_eq_true h2]; rfl
theorem st_stop {l : List Pc} {k : Nat} {x : Pc} (h : l[k]? = some x) (h2 : ¬ lastAt (-1) l k < x.print) : storeOk l = false := st_no h (by rw [decide_eq_false h2]; exact Bool.and_false _)

set_option maxHeartbeats 2000000 in
theorem impl_StoreValid_c (v : Value) (xs : List Pc) (w : World) (h : Pcs w w.heap.size v xs) :
    Calls Tryd.prog 27 #[v] w fun e w' => e = .returned (.bool (storeOk xs)) ∧ Below w.heap.size w w' := by
  obtain ⟨n, hn⟩ : ∃ n, xs.length = n := ⟨_, rfl⟩
  obtain ⟨a, c, rfl, h1, h2, h3⟩ := h.pcs hn
  have HN := hid hn
  clear hn h
  by_cases c1 : 40 < n
  · have HO := hid (st_long (l := xs) (by rw [HN.out]; exact c1))
    clear h3
    go_enter Tryd.func27, Tryd.ntmps27
    go_wp2
    go_ret
    exact ⟨ret_b HO.out.symm, Below.refl _ _⟩
  · go_enter Tryd.func27, Tryd.ntmps27
    go_wp2
    go_loopw [10] (fun i wr => ∃ k : Nat, k ≤ n ∧ i = .int .i64 k ∧ Hid (stFrom (-1) (xs.take k) = true) ∧ Below w.heap.size w wr) (fun i _ => n - (intOf i).toNat)
    case atStart => exact ⟨0, Nat.zero_le _, rfl, rfl, Below.refl _ _⟩
    case round =>
      obtain ⟨k, hk, rfl, hall, hb⟩ := hrel
      by_cases hlt : k < n
      · obtain ⟨b, o, r, t, rfl, hbl, hx, k0, k1⟩ := h3 k hlt
        have j0 := (hb.cell (p := ⟨b, o + k * 2, none⟩) hbl).trans k0
        have j1 := (hb.cell (p := ⟨b, o + k * 2 + 1, none⟩) hbl).trans k1
        have HAL : Hid (∀ cs q, Below w.heap.size w ((wr.alloc (.cells cs 43)).drewN q)) := fun cs q => bl_drewN (hb.alloc hb.size _) q
        clear k0 k1
        obtain ⟨z, hz⟩ : ∃ z, printOf (bs t) = z := ⟨_, rfl⟩
        have HZ := hid hz
        cases ht : textOk (bs t)
        · have HO := hid (st_no hx.out (pcOk_no1 ht _))
          have HT := hid ht
          clear h3 ht hz
          go_wp2
          go_quiet (first | (go_at_call 47; exact qsame (impl_TextValid_e _ _ HT.out)) | fail)
          go_wp2
          go_ret
          exact ⟨ret_b HO.out.symm, HAL.out _ _⟩
        · have HT := hid ht
          clear ht hz
          by_cases hrz : r = z
          · subst hrz
            have HP := hid (pcOk_yes (r := r) HT.out HZ.out)
            by_cases hk0 : k = 0
            · have hd0 : decide (0 < k) = false := by simp; omega
              have HS := hid (st_step hx.out hall.out HP.out (by rw [hk0, lastAt_zero]; have := (pcOk_pv HP.out).1; simp only at this ⊢; omega))
              clear h3 hk0
              go_wp2
              go_quiet (first | (go_at_call 47; exact qsame (impl_TextValid_e _ _ HT.out)) | (go_at_call 48; exact qsame (impl_PrintOf_e _ _ HZ.out)))
              go_wp2
              go_quiet (fail)
              go_wp2
              go_roundw
              case rel => exact ⟨k + 1, by omega, by go_num, HS.out, HAL.out _ _⟩
              case measure => simp [intOf]; omega
            · obtain ⟨j, hj⟩ : ∃ j, k = j + 1 := ⟨k - 1, by omega⟩
              obtain ⟨b', o', r', t', hbo, hbl', hx', k0', _⟩ := h3 j (by omega)
              simp only [Option.some.injEq, Addr.mk.injEq, and_true] at hbo
              obtain ⟨rfl, rfl⟩ := hbo
              have i0 := (hb.cell (p := ⟨b, o + j * 2, none⟩) hbl').trans k0'
              have i1 : (wr.alloc (.cells #[.int .i64 r, .string t] 43)).cell? ⟨b, o + j * 2, none⟩ = some (.int .i64 r') := (((Below.refl wr.heap.size wr).alloc (Nat.le_refl _) _).cell (p := ⟨b, o + j * 2, none⟩) (Nat.lt_of_lt_of_le hbl hb.size)).trans i0
              have hL := lastAt_succ (i := -1) hx'.out
              rw [← hj] at hL
              have hd0 : decide (0 < k) = true := by simp; omega
              have hkj : (k : Int) - 1 = (j : Int) := by omega
              have hw1 : IntKind.i64.wrap (j : Int) = (j : Int) := IntWalk.i64_in _ (by omega)
              have hjn : (j : Int) < n := by omega
              clear h3 k0' hk0 hj
              by_cases hlast : r' < r
              · have hd1 : decide (r ≤ r') = false := by simp; omega
                have HS := hid (st_step hx.out hall.out HP.out (by rw [hL]; exact hlast))
                clear hlast hL hx'
                go_wp2
                go_quiet (first | (go_at_call 47; exact qsame (impl_TextValid_e _ _ HT.out)) | (go_at_call 48; exact qsame (impl_PrintOf_e _ _ HZ.out)))
                go_wp2
                go_quiet (fail)
                go_wp2
                go_roundw
                case rel => exact ⟨k + 1, by omega, by go_num, HS.out, HAL.out _ _⟩
                case measure => simp [intOf]; omega
              · have hd1 : decide (r ≤ r') = true := by simp; omega
                have HO := hid (st_stop (l := xs) hx.out (by rw [hL]; exact hlast))
                clear hlast hL hx'
                go_wp2
                go_quiet (first | (go_at_call 47; exact qsame (impl_TextValid_e _ _ HT.out)) | (go_at_call 48; exact qsame (impl_PrintOf_e _ _ HZ.out)))
                go_wp2
                go_quiet (fail)
                go_wp2
                go_ret
                exact ⟨ret_b HO.out.symm, bl_drewN (HAL.out _ _) _⟩
          · have HO := hid (st_no hx.out (pcOk_no2 HZ.out hrz _))
            have hne : (r != z) = true := by simpa using hrz
            clear h3
            go_wp2
            go_quiet (first | (go_at_call 47; exact qsame (impl_TextValid_e _ _ HT.out)) | (go_at_call 48; exact qsame (impl_PrintOf_e _ _ HZ.out)))
            go_wp2
            go_ret
            exact ⟨ret_b HO.out.symm, HAL.out _ _⟩
      · have hall' := hall.out
        rw [take_all HN.out (show n ≤ k by omega)] at hall'
        have HO := hid (show storeOk xs = true by unfold storeOk; rw [hall', HN.out]; simp; omega)
        clear hall' h3
        go_wp2
        go_ret
        exact ⟨ret_b HO.out.symm, hb⟩

set_option maxHeartbeats 2000000 in
theorem spec_StoreValid_c (v : Value) (xs : List Pc) (B : Nat) (w : World) (h : Pcs w B v xs) (hx0 : ∀ x ∈ xs, x.text.size ≤ 1048576) (hl : xs.length ≤ 1048576) :
    Calls Tryd.prog 24 #[v] w fun e w' => e = .returned (.bool (storeOk xs)) ∧ ∃ q, w' = w.drewN q := by
  obtain ⟨n, hn⟩ : ∃ n, xs.length = n := ⟨_, rfl⟩
  obtain ⟨a, c, rfl, h1, h2, h3⟩ := h.pcs hn
  rw [hn] at hl
  have HN := hid hn
  have HX := hid hx0
  clear hn h hx0
  go_enter Tryd.func24, Tryd.ntmps24
  go_wp2
  go_loopw [3] (fun i wr => ∃ k q : Nat, k ≤ n ∧ i = .int .i64 k ∧ Hid (stFrom (-1) (xs.take k) = true) ∧ wr = w.drewN q) (fun i _ => n - (intOf i).toNat)
  case atStart => exact ⟨0, 0, Nat.zero_le _, rfl, rfl, rfl⟩
  case round =>
    obtain ⟨k, q, hk, rfl, hall, rfl⟩ := hrel
    by_cases hlt : k < n
    · obtain ⟨b, o, r, t, rfl, hbl, hx, k0, k1⟩ := h3 k hlt
      have hts : t.size ≤ 4611686018427387904 := Nat.le_trans (HX.out _ (List.mem_of_getElem? hx.out)) (by omega)
      have HTS := hid hts
      clear hts
      obtain ⟨z, hz⟩ : ∃ z, printOf (bs t) = z := ⟨_, rfl⟩
      have HZ := hid hz
      cases ht : textOk (bs t)
      · have HO := hid (st_no hx.out (pcOk_no1 ht _))
        have HT := hid ht
        clear h3 ht hz
        go_wp2
        go_quiet (first | (go_at_call 43; exact qsame (spec_TextValid_e _ _ HTS.out HT.out)) | fail)
        go_wp2
        go_ret
        exact ⟨ret_b HO.out.symm, _, World.drewN_drewN _ _ _⟩
      · have HT := hid ht
        clear ht hz
        by_cases hrz : z = r
        · subst hrz
          have HP := hid (pcOk_yes HT.out HZ.out)
          by_cases hk0 : k = 0
          · have hd0 : decide (0 < k) = false := by simp; omega
            have HS := hid (st_step hx.out hall.out HP.out (by rw [hk0, lastAt_zero]; have := (pcOk_pv HP.out).1; simp only at this ⊢; omega))
            clear h3 hk0
            go_wp2
            go_quiet (first | (go_at_call 43; exact qsame (spec_TextValid_e _ _ HTS.out HT.out)) | (go_at_call 44; exact qsame (spec_PrintOf_e _ _ HTS.out HZ.out)))
            go_wp2
            go_roundw
            case rel => exact ⟨k + 1, _, by omega, by go_num, HS.out, rfl⟩
            case measure => simp [intOf]; omega
          · obtain ⟨j, hj⟩ : ∃ j, k = j + 1 := ⟨k - 1, by omega⟩
            obtain ⟨b', o', r', t', hbo, hbl', hx', k0', _⟩ := h3 j (by omega)
            simp only [Option.some.injEq, Addr.mk.injEq, and_true] at hbo
            obtain ⟨rfl, rfl⟩ := hbo
            have hL := lastAt_succ (i := -1) hx'.out
            rw [← hj] at hL
            have hd0 : decide (0 < k) = true := by simp; omega
            have hkj : (k : Int) - 1 = (j : Int) := by omega
            have hw1 : IntKind.i64.wrap (j : Int) = (j : Int) := IntWalk.i64_in _ (by omega)
            have hjn : (j : Int) < n := by omega
            clear h3 hk0 hj
            by_cases hlast : r' < z
            · have hd1 : decide (z ≤ r') = false := by simp; omega
              have HS := hid (st_step hx.out hall.out HP.out (by rw [hL]; exact hlast))
              clear hlast hL hx'
              go_wp2
              go_quiet (first | (go_at_call 43; exact qsame (spec_TextValid_e _ _ HTS.out HT.out)) | (go_at_call 44; exact qsame (spec_PrintOf_e _ _ HTS.out HZ.out)))
              go_wp2
              go_roundw
              case rel => exact ⟨k + 1, _, by omega, by go_num, HS.out, rfl⟩
              case measure => simp [intOf]; omega
            · have hd1 : decide (z ≤ r') = true := by simp; omega
              have HO := hid (st_stop (l := xs) hx.out (by rw [hL]; exact hlast))
              clear hlast hL hx'
              go_wp2
              go_quiet (first | (go_at_call 43; exact qsame (spec_TextValid_e _ _ HTS.out HT.out)) | (go_at_call 44; exact qsame (spec_PrintOf_e _ _ HTS.out HZ.out)))
              go_wp2
              go_ret
              exact ⟨ret_b HO.out.symm, _, World.drewN_drewN _ _ _⟩
        · have HO := hid (st_no hx.out (pcOk_no2 HZ.out (Ne.symm hrz) _))
          have hne : (z != r) = true := by simpa using hrz
          clear h3
          go_wp2
          go_quiet (first | (go_at_call 43; exact qsame (spec_TextValid_e _ _ HTS.out HT.out)) | (go_at_call 44; exact qsame (spec_PrintOf_e _ _ HTS.out HZ.out)))
          go_wp2
          go_ret
          exact ⟨ret_b HO.out.symm, _, World.drewN_drewN _ _ _⟩
    · have hall' := hall.out
      rw [take_all HN.out (show n ≤ k by omega)] at hall'
      have HO := hid (show storeOk xs = decide ((n : Int) ≤ 40) by unfold storeOk; rw [hall', HN.out]; simp; omega)
      clear hall' h3
      go_wp2
      go_ret
      exact ⟨ret_b HO.out.symm, q, rfl⟩

set_option maxHeartbeats 2000000 in
theorem spec_l4Get_c (v : Value) (xs : List Pc) (y : Int) (B : Nat) (w : World) (h : Pcs w B v xs) :
    Calls Tryd.prog 32 #[v, .int .i64 y] w fun e w' => e = .returned (.tuple #[.string ((getP xs y).getD ByteArray.empty), .bool (hasP xs y)]) ∧ w = w' := by
  obtain ⟨n, hn⟩ : ∃ n, xs.length = n := ⟨_, rfl⟩
  obtain ⟨a, c, rfl, h1, h2, h3⟩ := h.pcs hn
  have HN := hid hn
  clear hn h
  go_enter Tryd.func32, Tryd.ntmps32
  go_wp2
  go_loop [6] (fun i => ∃ k : Nat, k ≤ n ∧ i = .int .i64 k ∧ Hid (∀ j x, j < k → xs[j]? = some x → x.print ≠ y)) (fun i => n - (intOf i).toNat)
  case atStart => exact ⟨0, Nat.zero_le _, rfl, hid (fun j x hj => absurd hj (by omega))⟩
  case round =>
    obtain ⟨k, hk, rfl, hall⟩ := hrel
    by_cases hlt : k < n
    · obtain ⟨b, o, r, t, rfl, hbl, hx, k0, k1⟩ := h3 k hlt
      clear h3
      by_cases hry : r = y
      · subst hry
        have HG := hid (getP_at hx.out (fun j x hj hg => hall.out j x hj hg))
        have HO := hid (show ((getP xs r).getD ByteArray.empty, hasP xs r) = (t, true) by unfold hasP; rw [HG.out]; rfl)
        go_wp2
        go_ret2
        exact ⟨by rw [(Prod.mk.inj HO.out).1, (Prod.mk.inj HO.out).2]; rfl, rfl⟩
      · have hne : (r == y) = false := by simpa using hry
        have HS := hid (show ∀ j x, j < k + 1 → xs[j]? = some x → x.print ≠ y by
          intro j x hj hg
          rcases Nat.lt_succ_iff_lt_or_eq.1 hj with h | rfl
          · exact hall.out j x h hg
          · rw [hx.out] at hg; rw [← Option.some.inj hg]; exact hry)
        clear hry
        go_wp2
        go_round
        case rel => exact ⟨k + 1, by omega, by go_num, HS.out⟩
        case measure => simp [intOf]; omega
    · have HG := hid (show getP xs y = none by
        refine getP_none (fun x hx => ?_)
        obtain ⟨j, hj, e⟩ := List.getElem_of_mem hx
        exact hall.out j x (by have := HN.out; omega) (by rw [List.getElem?_eq_getElem hj, e]))
      have HO := hid (show ((getP xs y).getD ByteArray.empty, hasP xs y) = (ByteArray.empty, false) by unfold hasP; rw [HG.out]; rfl)
      go_wp2
      go_ret2
      exact ⟨by rw [(Prod.mk.inj HO.out).1, (Prod.mk.inj HO.out).2]; rfl, rfl⟩

end Go.Proofs.YtkfkcbceoekgjaaDoor
