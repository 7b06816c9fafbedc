/- Walks: kept days. -/
import Derived.Test.YtlkcbfolpfckgaaAge
import Derived.Test.YtlkcbfolpfckgaaReg
namespace Go.Proofs.Ytlkcbfolpfckgaa
open Go.RowKit

set_option maxHeartbeats 2000000 in
theorem impl_KeepMarks_c (v : Value) (xs : List Int) (now : Int) (w : World) (h : Ints w w.heap.size v xs) :
    Calls Try.prog 30 #[v, .int .i64 now] w fun e w' => ∃ v', e = .returned v' ∧ OwnB w' w.heap.size v' (keepMarks xs now) ∧ Below w.heap.size w w' := by
  obtain ⟨n, hn⟩ : ∃ n, xs.length = n := ⟨_, rfl⟩
  obtain ⟨a, c, rfl, h1, h2, h3⟩ := h.ints hn
  have HN := hid hn
  clear hn
  by_cases c1 : now < 0
  · go_enter Try.func30, Try.ntmps30
    go_wp2
    go_ret
    exact ⟨_, rfl, by rw [show keepMarks xs now = [] by simp [keepMarks, daysOk]; omega]; exact Own.nil_, Below.refl _ _⟩
  · by_cases c2 : 10000 < now
    · go_enter Try.func30, Try.ntmps30
      go_wp2
      go_ret
      exact ⟨_, rfl, by rw [show keepMarks xs now = [] by simp [keepMarks, daysOk]; omega]; exact Own.nil_, Below.refl _ _⟩
    · by_cases c3 : 40 < n
      · go_enter Try.func30, Try.ntmps30
        go_wp2
        go_ret
        exact ⟨_, rfl, by rw [show keepMarks xs now = [] by have := HN.out; simp [keepMarks, daysOk]; omega]; exact Own.nil_, Below.refl _ _⟩
      · go_enter Try.func30, Try.ntmps30
        go_wp2
        go_loop [24] (fun i => ∃ (k : Nat), k ≤ n ∧ i = .int .i64 k ∧ Hid ((xs.take k).all (dayIn now) = true ∧ sorted (xs.take k) = true)) (fun i => n - (intOf i).toNat)
        case atStart => exact ⟨0, Nat.zero_le _, rfl, rfl, rfl⟩
        case round =>
          obtain ⟨k, hk, rfl, hok⟩ := hrel
          by_cases hlt : k < n
          · obtain ⟨b, o, x, rfl, hbl, hx, hc⟩ := h3 k hlt
            cases hd : dayIn now x
            · have hno := hid (keep_no (daysOk_no_in hx.out hd))
              clear h3 hok
              rcases dayIn_no hd with hd' | hd'
              · go_wp2
                go_ret
                exact ⟨_, rfl, by rw [hno.out]; exact Own.nil_, Below.refl _ _⟩
              · have h0 : 0 ≤ x := by omega
                go_wp2
                go_ret
                exact ⟨_, rfl, by rw [hno.out]; exact Own.nil_, Below.refl _ _⟩
            · obtain ⟨d1, d2⟩ := dayIn_yes hd
              have HD := hid hd
              clear hd
              by_cases hk0 : k ≤ 0
              · clear h3
                go_wp2
                go_round
                case rel => exact ⟨k + 1, by omega, by go_num, by rw [all_succ _ hx.out, hok.out.1]; exact HD.out, sorted_one hx.out hk0⟩
                case measure => simp [intOf]; omega
              · obtain ⟨j, rfl⟩ : ∃ j, k = j + 1 := ⟨k - 1, by omega⟩
                obtain ⟨b', o', y, hbo, _, hy, hcy⟩ := h3 j (by omega)
                simp only [Option.some.injEq, Addr.mk.injEq, and_true] at hbo
                obtain ⟨rfl, rfl⟩ := hbo
                clear h3
                by_cases hyx : x < y
                · have hno := hid (keep_no (daysOk_no_sorted (now := now) hy.out hx.out hyx))
                  clear hok
                  go_wp2
                  go_ret
                  exact ⟨_, rfl, by rw [hno.out]; exact Own.nil_, Below.refl _ _⟩
                · go_wp2
                  go_round
                  case rel => exact ⟨j + 1 + 1, by omega, by go_num, by rw [all_succ _ hx.out, hok.out.1]; exact HD.out, by rw [sorted_succ _ _ _ _ hy.out hx.out, hok.out.2]; simp; omega⟩
                  case measure => simp [intOf]; omega
          · have e := take_all HN.out (show n ≤ k by omega)
            have hok' := hok.out
            rw [e] at hok'
            have hyes : Hid (daysOk now xs = true) := by unfold Hid daysOk; rw [hok'.1, hok'.2, HN.out]; simp; omega
            have hall := hid (List.all_eq_true.1 hok'.1)
            clear e hok' hok
            go_wp2
            go_loopw [7, 52] (fun out i wr => ∃ (k : Nat) (acc : List Bool), k ≤ n ∧ i = .int .i64 k ∧ OwnB wr w.heap.size out acc ∧ Hid (acc = (kmarks now xs).take k) ∧ acc.length = k ∧ Below w.heap.size w wr) (fun _ i _ => n - (intOf i).toNat)
            case atStart => exact ⟨0, [], Nat.zero_le _, rfl, Own.nil_, rfl, rfl, Below.refl _ _⟩
            case round =>
              obtain ⟨k, acc, hk, rfl, hown, hacc, hlen, hb⟩ := hrel
              by_cases hlt : k < n
              · obtain ⟨b, o, x, rfl, hbl, hx, hc⟩ := h3 k hlt
                have hc' : wr.cell? ⟨b, o + k, none⟩ = some (.int .i64 x) := (hb.cell (p := ⟨b, o + k, none⟩) hbl).trans hc
                have hB := hb.size
                have hdx := dayIn_yes (hall.out x (List.mem_of_getElem? hx.out))
                have hln : acc.length < 1099511627775 := by omega
                have HL := hid hlen
                clear hc hlen
                by_cases hlast : k + 1 = n
                · have hlb : ((k : Int) == (n : Int) - 1) = true := by simp; omega
                  have hm := hid (kmarks_last now xs k (by rw [HN.out]; exact hlast))
                  clear hlast h3
                  go_wp2
                  refine wp_region_early (n := 17) _ rfl rfl (by kernel_rfl) (by kernel_rfl) (fun _ _ _ _ h => h) ?_
                  simp only [List.take_succ_cons, List.take_zero, List.drop_succ_cons, List.drop_zero, Act.put, Act.eval, List.setIfInBounds_toArray, List.set_cons_succ, List.set_cons_zero]
                  repeat (go_big_quiet_step (fail))
                  refine wpQuiet_nil ?_
                  intro m
                  go_wp2_with (at_builtin; refine push_bool (w0 := w) rfl _ _ rfl _ _ _ _ _ hown (bl_drewN hb m) hB (Nat.le_refl _) rfl rfl hln ?_; intro v' w' hown' hb' hB' _)
                  go_roundw
                  case rel => exact ⟨k + 1, _, by omega, by go_num, hown', by unfold Hid; rw [take_snoc' hm.out, hacc.out], by simp [HL.out], hb'⟩
                  case measure => simp [intOf]; omega
                · obtain ⟨b', o', y, hbo, _, hy, hcy⟩ := h3 (k + 1) (by omega)
                  simp only [Option.some.injEq, Addr.mk.injEq, and_true] at hbo
                  obtain ⟨rfl, rfl⟩ := hbo
                  have hcy' : wr.cell? ⟨b, o + (k + 1), none⟩ = some (.int .i64 y) := (hb.cell (p := ⟨b, o + (k + 1), none⟩) hbl).trans hcy
                  have hdy := dayIn_yes (hall.out y (List.mem_of_getElem? hy.out))
                  have hlb : ((k : Int) == (n : Int) - 1) = false := by simp; omega
                  have hlb2 : ((k : Int) != (n : Int) - 1) = true := by simp; omega
                  have hm := hid (kmarks_mid now xs k x y hx.out hy.out)
                  clear hcy h3
                  have e1 : IntKind.i64.wrap ((k : Int) + 1) = (k : Int) + 1 := IntWalk.i64_in _ (by omega)
                  have e2 : (0 : Int) ≤ (k : Int) + 1 := by omega
                  have e3 : ((k : Int) + 1).toNat = k + 1 := by omega
                  have e4 : ((k : Int) + 1) < (n : Int) := by omega
                  go_wp2
                  refine wp_region_early (n := 17) _ rfl rfl (by kernel_rfl) (by kernel_rfl) (fun _ _ _ _ h => h) ?_
                  simp only [List.take_succ_cons, List.take_zero, List.drop_succ_cons, List.drop_zero, Act.put, Act.eval, List.setIfInBounds_toArray, List.set_cons_succ, List.set_cons_zero]
                  repeat (go_big_quiet_step ((go_at_call 16; exact qsame (impl_AgeBox_c _ _))))
                  refine wpQuiet_nil ?_
                  intro m
                  go_wp2_with (at_builtin; refine push_bool (w0 := w) rfl _ _ rfl _ _ _ _ _ hown (bl_drewN hb m) hB (Nat.le_refl _) rfl rfl hln ?_; intro v' w' hown' hb' hB' _)
                  go_roundw
                  case rel => exact ⟨k + 1, _, by omega, by go_num, hown', by unfold Hid; rw [take_snoc' hm.out, hacc.out]; rfl, by simp [HL.out], hb'⟩
                  case measure => simp [intOf]; omega
              · have e := take_all (kmarks_len now xs) (show xs.length ≤ k by rw [HN.out]; omega)
                have hacc' := hacc.out
                rw [e, ← keep_yes hyes.out] at hacc'
                have HC := hid hacc'
                clear e hacc' hacc hlen
                go_wp2
                go_ret
                exact ⟨_, rfl, by rw [← HC.out]; exact hown, hb⟩

end Go.Proofs.Ytlkcbfolpfckgaa
