/- Walks: kept days, the reference. -/
import Derived.Test.YtlkcbfolpfckgaaKeep
import Derived.Lib.MinMax
namespace Go.Proofs.Ytlkcbfolpfckgaa
open Go.RowKit

set_option maxHeartbeats 4000000 in
theorem spec_KeepMarks_c (v : Value) (xs : List Int) (now : Int) (w : World) (h : Ints w w.heap.size v xs) (hn0 : xs.length ≤ 1048576) :
    Calls Try.prog 29 #[v, .int .i64 now] w fun e w' => ∃ v', e = .returned v' ∧ OwnB w' w.heap.size v' (keepMarks xs now) ∧ Below w.heap.size w w' := by
  obtain ⟨n, hn⟩ : ∃ n, xs.length = n := ⟨_, rfl⟩
  obtain ⟨a, c, rfl, h1, h2, h3⟩ := h.ints hn
  rw [hn] at hn0
  have HN := hid hn
  clear hn h
  go_enter Try.func29, Try.ntmps29
  go_wp2
  go_loopw [5, 6] (fun out i wr => ∃ (k : Nat) (acc : List Bool), k ≤ n ∧ i = .int .i64 k ∧ OwnB wr w.heap.size out acc ∧ Hid (acc = (wmarks now xs).take k) ∧ Hid ((xs.take k).all (dayIn now) = true ∧ sorted (xs.take k) = true ∧ (0 < k → inB now 0 10000 = true ∧ n ≤ 40)) ∧ acc.length = k ∧ Below w.heap.size w wr) (fun _ i _ => n - (intOf i).toNat)
  case atStart => exact ⟨0, [], Nat.zero_le _, rfl, Own.made _ (Nat.le_refl _), rfl, ⟨rfl, rfl, fun h => absurd h (by omega)⟩, rfl, (Below.refl _ _).alloc (Nat.le_refl _) _⟩
  case round =>
    obtain ⟨k, acc, hk, rfl, hown, hacc, hok, hlen, hb⟩ := hrel
    have hB := hb.size
    by_cases hlt : k < n
    · obtain ⟨b, o, x, rfl, hbl, hx, hc⟩ := h3 k hlt
      have hc' : wr.cell? ⟨b, o + k, none⟩ = some (.int .i64 x) := (hb.cell (p := ⟨b, o + k, none⟩) hbl).trans hc
      have hln : acc.length < 1099511627775 := by omega
      have HL := hid hlen
      clear hc hlen
      cases g1 : inB now 0 10000
      · have hno := hid (keep_no (xs := xs) (now := now) (by have := inB_no g1; simp [daysOk]; omega))
        go_wp2
        go_quiet ((go_at_call 39; exact qsame (spec_l1In_c _ _ _ _)))
        go_wp2
        go_ret
        exact ⟨_, rfl, by rw [hno.out]; exact Own.made _ hB, Below.alloc (bl_drewN hb _) hB _⟩
      · have hnow := inB_yes g1
        have hG := hid g1
        cases g2 : inB x 0 now
        · have hno := hid (keep_no (now := now) (daysOk_no_in hx.out (by exact g2)))
          go_wp2
          go_quiet ((go_at_call 39; exact qsame (spec_l1In_c _ _ _ _)))
          go_wp2
          go_ret
          exact ⟨_, rfl, by rw [hno.out]; exact Own.made _ hB, Below.alloc (bl_drewN hb _) hB _⟩
        · have hd := inB_yes g2
          have HD := hid (show dayIn now x = true from g2)
          by_cases hk0 : k ≤ 0
          · have hkd : decide (0 < k) = false := by simp; omega
            by_cases h40 : 40 < n
            · have hno := hid (keep_no (xs := xs) (now := now) (by have := HN.out; simp [daysOk]; omega))
              go_wp2
              go_quiet ((go_at_call 39; exact qsame (spec_l1In_c _ _ _ _)))
              go_wp2
              go_ret
              exact ⟨_, rfl, by rw [hno.out]; exact Own.made _ hB, Below.alloc (bl_drewN hb _) hB _⟩
            · have hsrt := hid (sorted_one hx.out hk0)
              have h40d : decide (40 < n) = false := by simp; omega
              by_cases hlast : k + 1 = n
              · have hlb : ((k : Int) + 1 == (n : Int)) = true := by simp; omega
                have hm := hid (wmarks_last now xs k (by rw [HN.out]; exact hlast))
                have f1 : IntKind.i64.wrap ((k : Int) + 1) = (k : Int) + 1 := IntWalk.i64_in _ (by omega)
                clear hlast h3
                go_wp2
                go_quiet ((go_at_call 39; exact qsame (spec_l1In_c _ _ _ _)))
                go_wp2_with fail
                refine wp_region_early (n := 25) _ rfl rfl (by kernel_rfl) (by kernel_rfl) (fun _ _ _ _ h => h) ?_
                simp only [List.take_succ_cons, List.take_zero, List.drop_succ_cons, List.drop_zero, Act.put, Act.eval, List.setIfInBounds_toArray, List.set_cons_succ, List.set_cons_zero]
                repeat (go_big_quiet_step (fail))
                refine wpQuiet_nil ?_
                intro m
                go_wp2_with (at_builtin; refine push_bool (w0 := w) rfl _ _ rfl _ _ _ _ _ hown (bl_drewN hb _) hB (Nat.le_refl _) rfl rfl hln ?_; intro v' w' hown' hb' hB' _)
                go_roundw
                case rel => exact ⟨k + 1, _, by omega, by go_num, hown', by unfold Hid; rw [take_snoc' hm.out, hacc.out], ⟨by rw [all_succ _ hx.out, hok.out.1]; exact HD.out, hsrt.out, fun _ => ⟨by first | exact hG.out | trivial, by omega⟩⟩, by simp [HL.out], hb'⟩
                case measure => simp [intOf]; omega
              · obtain ⟨b2, o2, z, hbz, _, hz, hcz⟩ := h3 (k + 1) (by omega)
                simp only [Option.some.injEq, Addr.mk.injEq, and_true] at hbz
                obtain ⟨rfl, rfl⟩ := hbz
                have hcz' : wr.cell? ⟨b, o + (k + 1), none⟩ = some (.int .i64 z) := (hb.cell (p := ⟨b, o + (k + 1), none⟩) hbl).trans hcz
                have hlb : ((k : Int) + 1 == (n : Int)) = false := by simp; omega
                have hm := hid (wmarks_mid now xs k x z hx.out hz.out)
                have f1 : IntKind.i64.wrap ((k : Int) + 1) = (k : Int) + 1 := IntWalk.i64_in _ (by omega)
                have f2 : (0 : Int) ≤ (k : Int) + 1 := by omega
                have f3 : ((k : Int) + 1).toNat = k + 1 := by omega
                have f4 : ((k : Int) + 1) < (n : Int) := by omega
                clear hcz h3
                go_wp2
                go_quiet ((go_at_call 39; exact qsame (spec_l1In_c _ _ _ _)))
                go_wp2_with fail
                refine wp_region_early (n := 25) _ rfl rfl (by kernel_rfl) (by kernel_rfl) (fun _ _ _ _ h => h) ?_
                simp only [List.take_succ_cons, List.take_zero, List.drop_succ_cons, List.drop_zero, Act.put, Act.eval, List.setIfInBounds_toArray, List.set_cons_succ, List.set_cons_zero]
                repeat (go_big_quiet_step ((go_at_call 15; exact qsame (spec_AgeBox_c _ _))))
                refine wpQuiet_nil ?_
                intro m
                go_wp2_with (at_builtin; refine push_bool (w0 := w) rfl _ _ rfl _ _ _ _ _ hown (bl_drewN hb _) hB (Nat.le_refl _) rfl rfl hln ?_; intro v' w' hown' hb' hB' _)
                go_roundw
                case rel => exact ⟨k + 1, _, by omega, by go_num, hown', by unfold Hid; rw [take_snoc' hm.out, hacc.out]; rfl, ⟨by rw [all_succ _ hx.out, hok.out.1]; exact HD.out, hsrt.out, fun _ => ⟨by first | exact hG.out | trivial, by omega⟩⟩, by simp [HL.out], hb'⟩
                case measure => simp [intOf]; omega
          · obtain ⟨b', o', y, hbo, _, hy, hcy⟩ := h3 (k - 1) (by omega)
            simp only [Option.some.injEq, Addr.mk.injEq, and_true] at hbo
            obtain ⟨rfl, rfl⟩ := hbo
            have hcy' : wr.cell? ⟨b, o + (k - 1), none⟩ = some (.int .i64 y) := (hb.cell (p := ⟨b, o + (k - 1), none⟩) hbl).trans hcy
            clear hcy
            have hk1 : 0 < k := by omega
            have e1 : IntKind.i64.wrap ((k : Int) - 1) = (k : Int) - 1 := IntWalk.i64_in _ (by omega)
            have e2 : (0 : Int) ≤ (k : Int) - 1 := by omega
            have e3 : ((k : Int) - 1).toNat = k - 1 := by omega
            have e4 : (k : Int) - 1 < (n : Int) := by omega
            have e5 : (1 : Int) ≤ (k : Int) := by omega
            have e6 : 1 ≤ k := hk1
            have e7 : (k : Int) < (n : Int) + 1 := by omega
            have e8 : k < n + 1 := by omega
            by_cases hyx : x < y
            · have hno := hid (keep_no (daysOk_no_sorted' (now := now) hk1 hy.out hx.out hyx))
              go_wp2
              go_quiet ((go_at_call 39; exact qsame (spec_l1In_c _ _ _ _)))
              go_wp2
              go_ret
              exact ⟨_, rfl, by rw [hno.out]; exact Own.made _ hB, Below.alloc (bl_drewN hb _) hB _⟩
            · by_cases h40 : 40 < n
              · have hno := hid (keep_no (xs := xs) (now := now) (by have := HN.out; simp [daysOk]; omega))
                go_wp2
                go_quiet ((go_at_call 39; exact qsame (spec_l1In_c _ _ _ _)))
                go_wp2
                go_ret
                exact ⟨_, rfl, by rw [hno.out]; exact Own.made _ hB, Below.alloc (bl_drewN hb _) hB _⟩
              · have hsrt : Hid (sorted (xs.take (k + 1)) = true) := by unfold Hid; rw [sorted_succ' hk1 hy.out hx.out, hok.out.2.1]; simp; omega
                by_cases hlast : k + 1 = n
                · have hlb : ((k : Int) + 1 == (n : Int)) = true := by simp; omega
                  have hm := hid (wmarks_last now xs k (by rw [HN.out]; exact hlast))
                  have f1 : IntKind.i64.wrap ((k : Int) + 1) = (k : Int) + 1 := IntWalk.i64_in _ (by omega)
                  clear hlast h3
                  go_wp2
                  go_quiet ((go_at_call 39; exact qsame (spec_l1In_c _ _ _ _)))
                  go_wp2_with fail
                  refine wp_region_early (n := 25) _ rfl rfl (by kernel_rfl) (by kernel_rfl) (fun _ _ _ _ h => h) ?_
                  simp only [List.take_succ_cons, List.take_zero, List.drop_succ_cons, List.drop_zero, Act.put, Act.eval, List.setIfInBounds_toArray, List.set_cons_succ, List.set_cons_zero]
                  repeat (go_big_quiet_step (fail))
                  refine wpQuiet_nil ?_
                  intro m
                  go_wp2_with (at_builtin; refine push_bool (w0 := w) rfl _ _ rfl _ _ _ _ _ hown (bl_drewN hb _) hB (Nat.le_refl _) rfl rfl hln ?_; intro v' w' hown' hb' hB' _)
                  go_roundw
                  case rel => exact ⟨k + 1, _, by omega, by go_num, hown', by unfold Hid; rw [take_snoc' hm.out, hacc.out], ⟨by rw [all_succ _ hx.out, hok.out.1]; exact HD.out, hsrt.out, fun _ => ⟨by first | exact hG.out | trivial, by omega⟩⟩, by simp [HL.out], hb'⟩
                  case measure => simp [intOf]; omega
                · obtain ⟨b2, o2, z, hbz, _, hz, hcz⟩ := h3 (k + 1) (by omega)
                  simp only [Option.some.injEq, Addr.mk.injEq, and_true] at hbz
                  obtain ⟨rfl, rfl⟩ := hbz
                  have hcz' : wr.cell? ⟨b, o + (k + 1), none⟩ = some (.int .i64 z) := (hb.cell (p := ⟨b, o + (k + 1), none⟩) hbl).trans hcz
                  have hlb : ((k : Int) + 1 == (n : Int)) = false := by simp; omega
                  have hm := hid (wmarks_mid now xs k x z hx.out hz.out)
                  have f1 : IntKind.i64.wrap ((k : Int) + 1) = (k : Int) + 1 := IntWalk.i64_in _ (by omega)
                  have f2 : (0 : Int) ≤ (k : Int) + 1 := by omega
                  have f3 : ((k : Int) + 1).toNat = k + 1 := by omega
                  have f4 : ((k : Int) + 1) < (n : Int) := by omega
                  clear hcz h3
                  go_wp2
                  go_quiet ((go_at_call 39; exact qsame (spec_l1In_c _ _ _ _)))
                  go_wp2_with fail
                  refine wp_region_early (n := 25) _ rfl rfl (by kernel_rfl) (by kernel_rfl) (fun _ _ _ _ h => h) ?_
                  simp only [List.take_succ_cons, List.take_zero, List.drop_succ_cons, List.drop_zero, Act.put, Act.eval, List.setIfInBounds_toArray, List.set_cons_succ, List.set_cons_zero]
                  repeat (go_big_quiet_step ((go_at_call 15; exact qsame (spec_AgeBox_c _ _))))
                  refine wpQuiet_nil ?_
                  intro m
                  go_wp2_with (at_builtin; refine push_bool (w0 := w) rfl _ _ rfl _ _ _ _ _ hown (bl_drewN hb _) hB (Nat.le_refl _) rfl rfl hln ?_; intro v' w' hown' hb' hB' _)
                  go_roundw
                  case rel => exact ⟨k + 1, _, by omega, by go_num, hown', by unfold Hid; rw [take_snoc' hm.out, hacc.out]; rfl, ⟨by rw [all_succ _ hx.out, hok.out.1]; exact HD.out, hsrt.out, fun _ => ⟨by first | exact hG.out | trivial, by omega⟩⟩, by simp [HL.out], hb'⟩
                  case measure => simp [intOf]; omega
    · have e := take_all (wmarks_len now xs) (show xs.length ≤ k by rw [HN.out]; omega)
      have e2 := take_all HN.out (show n ≤ k by omega)
      have hacc' := hacc.out
      have hok' := hok.out
      rw [e] at hacc'
      rw [e2] at hok'
      have HC : Hid (acc = keepMarks xs now) := by
        unfold Hid
        rcases Nat.eq_zero_or_pos k with hk0 | hk0
        · have h0 : xs = [] := List.eq_nil_of_length_eq_zero (by rw [HN.out]; omega)
          rw [hacc', h0]
          simp [wmarks, keepMarks, kmarks]
        · have hg := inB_yes (hok'.2.2 hk0).1
          rw [hacc', wmarks_eq now hg.2 xs hok'.1, keep_yes]
          simp [daysOk, HN.out, hok'.1, hok'.2.1, (hok'.2.2 hk0).2, hg.1, hg.2]
      clear e e2 hacc' hok' hacc hlen hok
      go_wp2
      go_ret
      exact ⟨_, rfl, by rw [← HC.out]; exact hown, hb⟩

end Go.Proofs.Ytlkcbfolpfckgaa
