/- Walks: right seals. -/
import Derived.Test.YtnedkfmbeeodfaaSeals
import Derived.Test.YtnedkfmbeeodfaaReg
namespace Go.Proofs.Ytnedkfmbeeodfaa
open Go.RowKit

theorem sr_off1 {xs : List Ver} {ss : List Int} (h : vsOk xs = false) : sealsRight xs ss = -2 := by simp [sealsRight, h]
theorem sr_off2 {xs : List Ver} {ss : List Int} (h : xs.length < ss.length) : sealsRight xs ss = -2 := by unfold sealsRight; rw [if_neg (by simp; omega)]
theorem sr_on {xs : List Ver} {ss : List Int} (h : vsOk xs = true) (hl : ss.length ≤ xs.length) : sealsRight xs ss = partAt 0 (sealsFrom 11 xs) ss := by unfold sealsRight; rw [if_pos (by simp [h, hl]), seals_on h]
theorem agree_succ {xs ys : List Int} {k : Nat} {x : Int} (h : ∀ i, i < k → xs[i]? = ys[i]?) (hx : xs[k]? = some x) (hy : ys[k]? = some x) : ∀ i, i < k + 1 → xs[i]? = ys[i]? := by
  intro i hi
  by_cases hik : i = k
  · subst hik; rw [hx, hy]
  · exact h i (by omega)

set_option maxHeartbeats 2000000 in
theorem impl_SealsRight_c (v u : Value) (xs : List Ver) (ss : List Int) (w : World) (h : Vers w w.heap.size v xs) (h' : Ints w w.heap.size u ss) :
    Calls Try.prog 46 #[v, u] w fun e w' => e = .returned (.int .i64 (sealsRight xs ss)) ∧ Below w.heap.size w w' := by
  obtain ⟨n, hn⟩ : ∃ n, xs.length = n := ⟨_, rfl⟩
  obtain ⟨a, c, rfl, h1, h2, _⟩ := h.vers hn
  obtain ⟨m, hm⟩ : ∃ m, ss.length = m := ⟨_, rfl⟩
  obtain ⟨a', c', rfl, m1, m2, m3⟩ := h'.ints hm
  have HN := hid hn
  have HM := hid hm
  clear hn hm
  cases hok : vsOk xs
  · have HO := hid (sr_off1 (ss := ss) hok)
    go_enter Try.func46, Try.ntmps46
    go_wp2_with fail
    refine (impl_VersionsValid_c _ xs _ h).mono ?_
    rw [hok]
    rintro e w1 ⟨rfl, b1⟩
    go_wp2
    go_ret
    exact ⟨ret_i HO.out.symm, b1⟩
  · by_cases hlen : n < m
    · have HO := hid (sr_off2 (xs := xs) (ss := ss) (by rw [HN.out, HM.out]; exact hlen))
      go_enter Try.func46, Try.ntmps46
      go_wp2_with fail
      refine (impl_VersionsValid_c _ xs _ h).mono ?_
      rw [hok]
      rintro e w1 ⟨rfl, b1⟩
      go_wp2
      go_ret
      exact ⟨ret_i HO.out.symm, b1⟩
    · have HO := hid (sr_on (ss := ss) hok (by rw [HN.out, HM.out]; omega))
      have HS := hid (seals_on hok)
      go_enter Try.func46, Try.ntmps46
      go_wp2_with fail
      refine (impl_VersionsValid_c _ xs _ h).mono ?_
      rw [hok]
      rintro e w1 ⟨rfl, b1⟩
      clear hok
      go_wp2_with fail
      refine (impl_SealsOf_c _ xs _ (h.on b1)).mono ?_
      rintro e w2 ⟨x, rfl, o2, b2⟩
      have c2 := bl_then b1 b2
      rw [HS.out] at o2
      have hrl := hid ((sealsFrom_len 11 xs).trans HN.out)
      obtain ⟨ra, rc, rfl, r1, r2, r3⟩ := (Rd.of_own o2).ints hrl.out
      clear o2 b2 b1 h h'
      go_wp2
      go_loop [20] (fun i => ∃ k : Nat, k ≤ n ∧ k ≤ m ∧ i = .int .i64 k ∧ Hid (∀ i, i < k → (sealsFrom 11 xs)[i]? = ss[i]?)) (fun i => n - (intOf i).toNat)
      case atStart => exact ⟨0, Nat.zero_le _, Nat.zero_le _, rfl, fun i hi => by omega⟩
      case round =>
        obtain ⟨k, hk, hkm, rfl, hag⟩ := hrel
        by_cases hlt : k < n
        · obtain ⟨rb, ro, y, rfl, hrb, hy, hyc⟩ := r3 k hlt
          clear r3
          by_cases hlm : k < m
          · obtain ⟨tb, to, z, rfl, htb, hz, hzc⟩ := m3 k hlm
            have hzc2 := (c2.cell (p := ⟨tb, to + k, none⟩) htb).trans hzc
            clear m3 hzc
            by_cases hyz : z = y
            · subst hyz
              go_wp2
              go_round
              case rel => exact ⟨k + 1, by omega, by omega, by go_num, agree_succ hag.out hy.out hz.out⟩
              case measure => simp [intOf]; omega
            · have hb : (z != y) = true := by simp [hyz]
              have HP := hid (show sealsRight xs ss = k by rw [HO.out, partAt_yes _ _ 0 k y hy.out (by rw [hz.out]; simpa using hyz) hag.out]; simp)
              clear hyz
              go_wp2
              go_ret
              exact ⟨ret_i HP.out.symm, c2⟩
          · have HP := hid (show sealsRight xs ss = k by rw [HO.out, partAt_yes _ _ 0 k y hy.out (by rw [List.getElem?_eq_none (by rw [HM.out]; omega)]; simp) hag.out]; simp)
            clear m3
            go_wp2
            go_ret
            exact ⟨ret_i HP.out.symm, c2⟩
        · have HP := hid (show sealsRight xs ss = -1 by rw [HO.out]; exact partAt_no _ _ 0 (by rw [hrl.out, HM.out]; omega) (fun i hi => hag.out i (by rw [hrl.out] at hi; omega)))
          clear r3 m3
          go_wp2
          go_ret
          exact ⟨ret_i HP.out.symm, c2⟩

set_option maxHeartbeats 2000000 in
theorem spec_SealsRight_c (v u : Value) (xs : List Ver) (ss : List Int) (w : World) (h : Vers w w.heap.size v xs) (h' : Ints w w.heap.size u ss) (hx0 : ∀ x ∈ xs, x.note.size ≤ 1048576) (hl : xs.length ≤ 1048576) :
    Calls Try.prog 44 #[v, u] w fun e w' => e = .returned (.int .i64 (sealsRight xs ss)) ∧ Below w.heap.size w w' := by
  obtain ⟨n, hn⟩ : ∃ n, xs.length = n := ⟨_, rfl⟩
  obtain ⟨a, c, rfl, h1, h2, _⟩ := h.vers hn
  obtain ⟨m, hm⟩ : ∃ m, ss.length = m := ⟨_, rfl⟩
  obtain ⟨a', c', rfl, m1, m2, m3⟩ := h'.ints hm
  have HN := hid hn
  have HM := hid hm
  have HX := hid hx0
  have HL := hid hl
  clear hn hm hx0 hl
  cases hok : vsOk xs
  · have HO := hid (sr_off1 (ss := ss) hok)
    go_enter Try.func44, Try.ntmps44
    go_wp2_with fail
    refine (spec_SealsOf_c _ xs _ h HX.out HL.out).mono ?_
    rintro e w1 ⟨x, rfl, o1, b1⟩
    go_wp2_with fail
    refine (spec_VersionsValid_c _ xs _ _ (h.on b1) HX.out HL.out).mono ?_
    rw [hok]
    rintro e w' ⟨rfl, rfl⟩
    go_wp2
    go_ret
    exact ⟨ret_i HO.out.symm, b1⟩
  · by_cases hlen : n < m
    · have HO := hid (sr_off2 (xs := xs) (ss := ss) (by rw [HN.out, HM.out]; exact hlen))
      go_enter Try.func44, Try.ntmps44
      go_wp2_with fail
      refine (spec_SealsOf_c _ xs _ h HX.out HL.out).mono ?_
      rintro e w1 ⟨x, rfl, o1, b1⟩
      go_wp2_with fail
      refine (spec_VersionsValid_c _ xs _ _ (h.on b1) HX.out HL.out).mono ?_
      rw [hok]
      rintro e w' ⟨rfl, rfl⟩
      go_wp2
      go_ret
      exact ⟨ret_i HO.out.symm, b1⟩
    · have HO := hid (sr_on (ss := ss) hok (by rw [HN.out, HM.out]; omega))
      have HS := hid (seals_on hok)
      have h12 := (vs_in hok).1
      rw [HN.out] at h12
      go_enter Try.func44, Try.ntmps44
      go_wp2_with fail
      refine (spec_SealsOf_c _ xs _ h HX.out HL.out).mono ?_
      rintro e w1 ⟨x, rfl, o1, b1⟩
      rw [HS.out] at o1
      have hrl := hid ((sealsFrom_len 11 xs).trans HN.out)
      obtain ⟨ra, rc, rfl, r1, r2, r3⟩ := (Rd.of_own o1).ints hrl.out
      go_wp2_with fail
      refine (spec_VersionsValid_c _ xs _ _ (h.on b1) HX.out HL.out).mono ?_
      rw [hok]
      rintro e w' ⟨rfl, rfl⟩
      clear hok o1 h h'
      go_wp2
      go_loopw [6] (fun i wr => ∃ k q : Nat, k ≤ n ∧ k ≤ m ∧ i = .int .i64 k ∧ Hid (∀ i, i < k → (sealsFrom 11 xs)[i]? = ss[i]?) ∧ wr = w1.drewN q) (fun i _ => n - (intOf i).toNat)
      case atStart => exact ⟨0, 0, Nat.zero_le _, Nat.zero_le _, rfl, fun i hi => by omega, rfl⟩
      case round =>
        obtain ⟨k, q, hk, hkm, rfl, hag, rfl⟩ := hrel
        by_cases hlt : k < n
        · obtain ⟨rb, ro, y, rfl, hrb, hy, hyc⟩ := r3 k hlt
          clear r3
          by_cases hlm : k < m
          · obtain ⟨tb, to, z, rfl, htb, hz, hzc⟩ := m3 k hlm
            have hzc2 := (b1.cell (p := ⟨tb, to + k, none⟩) htb).trans hzc
            have hd : decide ((m : Int) ≤ (k : Int)) = false := by simp; omega
            have hd2 : decide (m ≤ k) = false := by simp; omega
            clear m3 hzc
            by_cases hyz : z = y
            · subst hyz
              go_wp2
              go_quiet (fail)
              go_wp2
              go_roundw
              case rel => exact ⟨k + 1, _, by omega, by omega, by go_num, agree_succ hag.out hy.out hz.out, rfl⟩
              case measure => simp [intOf]; omega
            · have hb : (z != y) = true := by simp [hyz]
              have HP := hid (show sealsRight xs ss = k by rw [HO.out, partAt_yes _ _ 0 k y hy.out (by rw [hz.out]; simpa using hyz) hag.out]; simp)
              clear hyz
              go_wp2
              go_quiet (fail)
              go_wp2
              go_ret
              exact ⟨ret_i HP.out.symm, by first | exact bl_drewN b1 _ | exact bl_drewN (bl_drewN b1 _) _⟩
          · have HP := hid (show sealsRight xs ss = k by rw [HO.out, partAt_yes _ _ 0 k y hy.out (by rw [List.getElem?_eq_none (by rw [HM.out]; omega)]; simp) hag.out]; simp)
            clear m3
            go_wp2
            go_quiet (fail)
            go_wp2
            go_ret
            exact ⟨ret_i HP.out.symm, by first | exact bl_drewN b1 _ | exact bl_drewN (bl_drewN b1 _) _⟩
        · have HP := hid (show sealsRight xs ss = -1 by rw [HO.out]; exact partAt_no _ _ 0 (by rw [hrl.out, HM.out]; omega) (fun i hi => hag.out i (by rw [hrl.out] at hi; omega)))
          clear r3 m3
          go_wp2
          go_ret
          exact ⟨ret_i HP.out.symm, by first | exact bl_drewN b1 _ | exact bl_drewN (bl_drewN b1 _) _⟩

end Go.Proofs.Ytnedkfmbeeodfaa
