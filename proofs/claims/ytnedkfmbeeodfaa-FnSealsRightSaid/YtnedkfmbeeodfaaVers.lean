/- Walks: valid versions. -/
import Derived.Test.YtnedkfmbeeodfaaSeal
namespace Go.Proofs.Ytnedkfmbeeodfaa
open Go.RowKit

abbrev encV (v : Ver) : List Value := [.int .i64 v.root, .int .i64 v.before, .string v.note]
abbrev Vers := Rd encV 3
theorem Rd.vers {w : World} {B n : Nat} {v : Value} {xs : List Ver} (h : Vers w B v xs) (hn : xs.length = n) :
    ∃ a c, v = .slice a n c ∧ n ≤ c ∧ c ≤ 9223372036854775807 ∧
      ∀ i, i < n → ∃ (b o : Nat) (r e : Int) (t : ByteArray), a = some ⟨b, o, none⟩ ∧ b < B ∧ Hid (xs[i]? = some ⟨r, e, t⟩) ∧ w.cell? ⟨b, o + i * 3, none⟩ = some (.int .i64 r) ∧ w.cell? ⟨b, o + i * 3 + 1, none⟩ = some (.int .i64 e) ∧ w.cell? ⟨b, o + i * 3 + 2, none⟩ = some (.string t) := by
  obtain ⟨a, c, hv, h1, h2, h3⟩ := Rd.openN h (fun _ => rfl) hn
  refine ⟨a, c, hv, h1, h2, fun i hi => ?_⟩
  obtain ⟨b, o, ⟨r, e, t⟩, ha, hb, hx, hc⟩ := h3 i hi
  exact ⟨b, o, r, e, t, ha, hb, hx, by simpa using hc 0 _ rfl, by simpa [Nat.add_assoc] using hc 1 _ rfl, by simpa [Nat.add_assoc] using hc 2 _ rfl⟩

theorem vOk_cases (r e : Int) (t : ByteArray) (k : Nat) : (vOk ⟨r, e, t⟩ k = false ∧ (pv r = false ∨ (pv r = true ∧ e < -1) ∨ (pv r = true ∧ -1 ≤ e ∧ (k : Int) ≤ e) ∨ (pv r = true ∧ -1 ≤ e ∧ e < k ∧ wordOk (bs t) = false))) ∨
    (vOk ⟨r, e, t⟩ k = true ∧ pv r = true ∧ -1 ≤ e ∧ e < k ∧ wordOk (bs t) = true) := by
  unfold vOk
  cases h1 : pv r <;> cases h2 : inB e (-1) ((k : Int) - 1) <;> cases h3 : wordOk (bs t) <;> simp
  all_goals first | (have := inB_no h2; omega) | (have := inB_yes h2; omega)

set_option maxHeartbeats 2000000 in
theorem impl_VersionsValid_c (v : Value) (xs : List Ver) (w : World) (h : Vers w w.heap.size v xs) :
    Calls Try.prog 52 #[v] w fun e w' => e = .returned (.bool (vsOk xs)) ∧ Below w.heap.size w w' := by
  obtain ⟨n, hn⟩ : ∃ n, xs.length = n := ⟨_, rfl⟩
  obtain ⟨a, c, rfl, h1, h2, h3⟩ := h.vers hn
  have HN := hid hn
  clear hn h
  by_cases c1 : 12 < n
  · have HO := hid (vs_long (l := xs) (by rw [HN.out]; exact c1))
    clear h3
    go_enter Try.func52, Try.ntmps52
    go_wp2
    go_ret
    exact ⟨ret_b HO.out.symm, Below.refl _ _⟩
  · go_enter Try.func52, Try.ntmps52
    go_wp2
    go_loopw [10] (fun i wr => ∃ k : Nat, k ≤ n ∧ i = .int .i64 k ∧ Hid (vsFrom 0 (xs.take k) = true) ∧ Below w.heap.size w wr) (fun i _ => n - (intOf i).toNat)
    case atStart => exact ⟨0, Nat.zero_le _, rfl, rfl, Below.refl _ _⟩
    case round =>
      obtain ⟨k, hk, rfl, hall, hb⟩ := hrel
      by_cases hlt : k < n
      · obtain ⟨b, o, r, e, t, rfl, hbl, hx, k0, k1, k2⟩ := h3 k hlt
        have j0 := (hb.cell (p := ⟨b, o + k * 3, none⟩) hbl).trans k0
        have j1 := (hb.cell (p := ⟨b, o + k * 3 + 1, none⟩) hbl).trans k1
        have j2 := (hb.cell (p := ⟨b, o + k * 3 + 2, none⟩) hbl).trans k2
        have hal : ∀ cs, Below w.heap.size w (wr.alloc (.cells cs 52)) := fun cs => hb.alloc hb.size _
        have HAL := hid hal
        clear k0 k1 k2 h3 hal
        rcases vOk_cases r e t k with ⟨ho, hc⟩ | ⟨ho, g1, g2, g3, g4⟩
        · have HO := hid (vs_no hx.out ho)
          rcases hc with g1 | ⟨g1, g2⟩ | ⟨g1, g2, g3⟩ | ⟨g1, g2, g3, g4⟩
          all_goals
            go_wp2_with (first | (go_at_call 56; refine (impl_printValid_c _ _).mono ?_; rintro e w' ⟨rfl, rfl⟩) | (go_at_call 60; refine (impl_WordValid_c _ _).mono ?_; rintro e w' ⟨rfl, rfl⟩))
            go_ret
            exact ⟨ret_b HO.out.symm, HAL.out _⟩
        · have HS := hid (show vsFrom 0 (xs.take (k + 1)) = true by rw [vsFrom_succ xs 0 k _ hx.out, hall.out, Int.zero_add, ho]; rfl)
          go_wp2_with (first | (go_at_call 56; refine (impl_printValid_c _ _).mono ?_; rintro e w' ⟨rfl, rfl⟩) | (go_at_call 60; refine (impl_WordValid_c _ _).mono ?_; rintro e w' ⟨rfl, rfl⟩))
          go_roundw
          case rel => exact ⟨k + 1, by omega, by go_num, HS.out, HAL.out _⟩
          case measure => simp [intOf]; omega
      · have hall' := hall.out
        rw [take_all HN.out (show n ≤ k by omega)] at hall'
        have HO := hid (show vsOk xs = true by unfold vsOk; rw [hall', HN.out]; simp; omega)
        clear hall' h3
        go_wp2
        go_ret
        exact ⟨ret_b HO.out.symm, hb⟩

set_option maxHeartbeats 2000000 in
theorem spec_VersionsValid_c (v : Value) (xs : List Ver) (B : Nat) (w : World) (h : Vers w B v xs) (hx0 : ∀ x ∈ xs, x.note.size ≤ 1048576) (hl : xs.length ≤ 1048576) :
    Calls Try.prog 72 #[v] w fun e w' => e = .returned (.bool (vsOk xs)) ∧ w = w' := by
  obtain ⟨n, hn⟩ : ∃ n, xs.length = n := ⟨_, rfl⟩
  obtain ⟨a, c, rfl, h1, h2, h3⟩ := h.vers hn
  rw [hn] at hl
  have HN := hid hn
  have HX := hid hx0
  clear hn h hx0
  go_enter Try.func72, Try.ntmps72
  go_wp2
  go_loop [3] (fun i => ∃ k : Nat, k ≤ n ∧ i = .int .i64 k ∧ Hid (vsFrom 0 (xs.take k) = true)) (fun i => n - (intOf i).toNat)
  case atStart => exact ⟨0, Nat.zero_le _, rfl, rfl⟩
  case round =>
    obtain ⟨k, hk, rfl, hall⟩ := hrel
    by_cases hlt : k < n
    · obtain ⟨b, o, r, e, t, rfl, hbl, hx, k0, k1, k2⟩ := h3 k hlt
      have ht : t.size ≤ 4611686018427387904 := Nat.le_trans (HX.out _ (List.mem_of_getElem? hx.out)) (by omega)
      have hk1 : IntKind.i64.wrap ((k : Int) - 1) = (k : Int) - 1 := IntWalk.i64_in _ (by omega)
      clear h3
      cases g1 : inB r 0 16777212
      · have HO := hid (vs_no hx.out (show vOk ⟨r, e, t⟩ k = false by simp [vOk, g1]))
        go_wp2_with (first | (go_at_call 54; refine (spec_l1In_c _ _ _ _).mono ?_; rintro e w' ⟨rfl, rfl⟩) | (go_at_call 65; refine (spec_WordValid_c _ _ ht).mono ?_; rintro e w' ⟨rfl, rfl⟩))
        go_ret
        exact ⟨ret_b HO.out.symm, rfl⟩
      · cases g2 : inB e (-1) ((k : Int) - 1)
        · have HO := hid (vs_no hx.out (show vOk ⟨r, e, t⟩ k = false by simp [vOk, g2]))
          go_wp2_with (first | (go_at_call 54; refine (spec_l1In_c _ _ _ _).mono ?_; rintro e w' ⟨rfl, rfl⟩) | (go_at_call 65; refine (spec_WordValid_c _ _ ht).mono ?_; rintro e w' ⟨rfl, rfl⟩))
          go_ret
          exact ⟨ret_b HO.out.symm, rfl⟩
        · cases g3 : wordOk (bs t)
          · have HO := hid (vs_no hx.out (show vOk ⟨r, e, t⟩ k = false by simp [vOk, g3]))
            go_wp2_with (first | (go_at_call 54; refine (spec_l1In_c _ _ _ _).mono ?_; rintro e w' ⟨rfl, rfl⟩) | (go_at_call 65; refine (spec_WordValid_c _ _ ht).mono ?_; rintro e w' ⟨rfl, rfl⟩))
            go_ret
            exact ⟨ret_b HO.out.symm, rfl⟩
          · have HS := hid (show vsFrom 0 (xs.take (k + 1)) = true by rw [vsFrom_succ xs 0 k _ hx.out, hall.out, Int.zero_add]; simp [vOk, g1, g2, g3])
            go_wp2_with (first | (go_at_call 54; refine (spec_l1In_c _ _ _ _).mono ?_; rintro e w' ⟨rfl, rfl⟩) | (go_at_call 65; refine (spec_WordValid_c _ _ ht).mono ?_; rintro e w' ⟨rfl, rfl⟩))
            go_round
            case rel => exact ⟨k + 1, by omega, by go_num, HS.out⟩
            case measure => simp [intOf]; omega
    · have hall' := hall.out
      rw [take_all HN.out (show n ≤ k by omega)] at hall'
      have HO := hid (show vsOk xs = decide ((n : Int) ≤ 12) by unfold vsOk; rw [hall', HN.out]; simp; omega)
      clear hall' h3
      go_wp2
      go_ret
      exact ⟨ret_b HO.out.symm, rfl⟩

end Go.Proofs.Ytnedkfmbeeodfaa
