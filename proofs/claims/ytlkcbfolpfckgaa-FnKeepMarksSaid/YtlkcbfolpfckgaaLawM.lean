/- Walks: the law on marks. -/
import Derived.Test.YtlkcbfolpfckgaaLawK
namespace Go.Proofs.Ytlkcbfolpfckgaa
open Go.RowKit

theorem lawMarks_at {now last : Int} {l : List Int} {ms : List Bool} {k : Nat} {d : Int} {m : Bool} (hd : l[k]? = some d) (hm : ms[k]? = some m) (h : lawMarks now last (l.drop k) (ms.drop k) = true) :
    if m then ageBox (now - d) ≠ last ∧ lawMarks now (ageBox (now - d)) (l.drop (k + 1)) (ms.drop (k + 1)) = true else lawMarks now last (l.drop (k + 1)) (ms.drop (k + 1)) = true := by
  obtain ⟨h1, rfl⟩ := List.getElem?_eq_some_iff.1 hd
  obtain ⟨h2, rfl⟩ := List.getElem?_eq_some_iff.1 hm
  rw [List.drop_eq_getElem_cons h1, List.drop_eq_getElem_cons h2] at h
  simp only [lawMarks] at h
  split at h
  · rename_i hq
    rw [if_pos hq]
    simpa using h
  · rename_i hq
    rw [if_neg hq]
    exact h

set_option maxHeartbeats 2000000 in
theorem laws_FnKeepMarks_c (v : Value) (l : List Int) (w : World) (h : Rd encU 1 w w.heap.size v l) (hl : ∀ x ∈ l, 0 ≤ x ∧ x ≤ 255) :
    Calls Try.prog 11 #[v] w fun e w' => e = .returned (.bool true) ∧ Below w.heap.size w w' := by
  obtain ⟨n, hn⟩ : ∃ n, l.length = n := ⟨_, rfl⟩
  obtain ⟨a, c, rfl, h1, h2, h3⟩ := Rd.openN h (fun _ => rfl) hn
  clear h3 hn
  by_cases hb : 1048576 < n
  · go_enter Try.func11, Try.ntmps11
    go_wp2
    go_ret
    exact ⟨rfl, Below.refl _ _⟩
  · go_enter Try.func11, Try.ntmps11
    go_wp2_with fail
    refine (spec_DrawKeepMarks_c _ l w h hl).mono ?_
    rintro e w1 ⟨x, xs, day, rfl, o1, hx, b1⟩
    have hx' : xs.length ≤ 1048576 := by omega
    clear h hl
    go_wp2_with fail
    refine (impl_KeepMarks_c _ xs day _ (Rd.of_own o1)).mono ?_
    rintro e w2 ⟨y, rfl, o2, b2⟩
    have c2 := bl_then b1 b2
    go_wp2_with fail
    refine (spec_KeepMarks_c _ xs day _ ((Rd.of_own o1).on b2) hx').mono ?_
    rintro e w3 ⟨z, rfl, o3, b3⟩
    have c3 := bl_then c2 b3
    have i1 := ((Rd.of_own o1).on b2).on b3
    have i2 := (Rd.of_own o2).on b3
    have i3 := Rd.of_own o3
    clear o1 o2 o3 b1 b2 b3 c2
    by_cases hok : daysOk day xs = true
    · have hk := hid (keep_yes hok)
      rw [keep_yes hok] at i2 i3
      have hM := kmarks_len day xs
      obtain ⟨m, hm⟩ : ∃ m, xs.length = m := ⟨_, rfl⟩
      obtain ⟨xa, xc, rfl, hxc, hxc', x3⟩ := i1.ints hm
      obtain ⟨ya, yc, rfl, hyc, hyc', y3⟩ := i2.bools (hM.trans hm)
      obtain ⟨za, zc, rfl, hzc, hzc', z3⟩ := i3.bools (hM.trans hm)
      rw [hm] at hx hx'
      have hnow := hok
      simp only [daysOk, Bool.and_eq_true, decide_eq_true_eq] at hnow
      have now0 := hnow.1.1.1.1
      have now1 := hnow.1.1.1.2
      have hall := hid (List.all_eq_true.1 hnow.1.2)
      have hstart : Hid (lawMarks day (-1) (xs.drop 0) ((kmarks day xs).drop 0) = true) := by
        unfold Hid
        rw [List.drop_zero, List.drop_zero]
        cases xs with
        | nil => rfl
        | cons d r =>
          have hd := dayIn_yes (hall.out d (by simp))
          exact lawMarks_yes day r d (-1) (by have := ageBox_pos (a := day - d) (by omega) (by omega); omega)
      have HM := hid hm
      have HL := hid hM
      clear hk hok hnow hM hm i1 i2 i3
      go_wp2
      go_loopw [7, 8] (fun last i wr => ∃ (k q : Nat) (L : Int), k ≤ m ∧ i = .int .i64 k ∧ last = .int .i64 L ∧ Hid (lawMarks day L (xs.drop k) ((kmarks day xs).drop k) = true) ∧ wr = w3.drewN q) (fun _ i _ => m - (intOf i).toNat)
      case atStart => exact ⟨0, 0, -1, Nat.zero_le _, rfl, rfl, hstart, rfl⟩
      case round =>
        obtain ⟨k, q, L, hkm, rfl, rfl, hlaw, rfl⟩ := hrel
        clear hstart
        by_cases hlt : k < m
        · obtain ⟨xb, xo, d, rfl, hxb, hd, hcd⟩ := x3 k hlt
          obtain ⟨yb, yo, p, rfl, hyb, hp, hcp⟩ := y3 k hlt
          obtain ⟨zb, zo, p', rfl, hzb, hp', hcp'⟩ := z3 k hlt
          have hpp : p' = p := Option.some.inj (hp'.out.symm.trans hp.out)
          subst hpp
          have hat := lawMarks_at hd.out hp.out hlaw.out
          have hdd := dayIn_yes (hall.out d (List.mem_of_getElem? hd.out))
          clear x3 y3 z3 hlaw hp' hall
          cases p'
          · have HAT := hid hat
            clear hat
            go_wp2
            go_quiet (fail)
            go_wp2
            go_roundw
            case rel => exact ⟨k + 1, _, L, by omega, by go_num, rfl, hid (by have h := HAT.out; simpa only [Bool.false_eq_true, if_false] using h), rfl⟩
            case measure => simp [intOf]; omega
          · have hne : (ageBox (day - d) == L) = false := by simpa using hat.1
            have HAT := hid hat
            clear hat
            go_wp2
            go_quiet (fail)
            go_wp2_with (go_at_call 16; refine (impl_AgeBox_c _ _).mono ?_; rintro e w' ⟨rfl, rfl⟩)
            go_roundw
            case rel => exact ⟨k + 1, _, _, by omega, by go_num, rfl, HAT.out.2, rfl⟩
            case measure => simp [intOf]; omega
        · by_cases hm0 : m = 0
          · subst hm0
            go_wp2_with (go_at_call 24; refine (laws_alive_c _).mono ?_; rintro e w' ⟨rfl, rfl⟩)
            go_ret
            exact ⟨by first | rfl | simp, bl_drewN c3 _⟩
          · obtain ⟨yb, yo, p, rfl, hyb, hp, hcp⟩ := y3 (m - 1) (by omega)
            have hlast := kmarks_last day xs (m - 1) (by rw [HM.out]; omega)
            have hpt : p = true := Option.some.inj (hp.out.symm.trans hlast)
            subst hpt
            have hm1 : ((m : Int) == 0) = false := by simp; omega
            have e2 : (0 : Int) ≤ (m : Int) - 1 := by omega
            have e3 : ((m : Int) - 1).toNat = m - 1 := by omega
            have e4 : (m : Int) - 1 < (m : Int) := by omega
            have e5 : (1 : Int) ≤ (m : Int) := by omega
            have e6 : 1 ≤ m := by omega
            have hkm' : k = m := by omega
            clear hlast hp x3 y3 z3 hlaw hall
            subst hkm'
            go_wp2_with (go_at_call 24; refine (laws_alive_c _).mono ?_; rintro e w' ⟨rfl, rfl⟩)
            go_ret
            exact ⟨by first | rfl | simp, bl_drewN c3 _⟩
    · have hno : keepMarks xs day = [] := keep_no (by simpa using hok)
      rw [hno] at i2 i3
      obtain ⟨xa, xc, rfl, hxc, hxc', x3⟩ := i1.ints rfl
      obtain ⟨ya, yc, rfl, hyc, hyc', y3⟩ := i2.bools rfl
      obtain ⟨za, zc, rfl, hzc, hzc', z3⟩ := i3.bools rfl
      clear hno hok i1 i2 i3 x3 y3 z3
      go_wp2
      refine wp_loop_rounds 1 ?_
      rw [rounds_succ]
      go_wp2_with (go_at_call 24; refine (laws_alive_c _).mono ?_; rintro e w' ⟨rfl, rfl⟩)
      go_ret
      exact ⟨by first | rfl | simp, c3⟩

end Go.Proofs.Ytlkcbfolpfckgaa
