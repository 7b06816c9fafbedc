/- Walks: words, and the fixed answer. -/
import Derived.Test.YtkfkcbceoekgjaaDoorA
namespace Go.Proofs.YtkfkcbceoekgjaaDoor
open Go.RowKit

/-- The bytes of a string. -/
abbrev bs (s : ByteArray) : List UInt8 := s.data.toList
def isDig (c : Int) : Bool := inB c 48 57
def isSm (c : Int) : Bool := inB c 97 122
def wordCh (c : UInt8) : Bool := isSm c.toNat || isDig c.toNat
def wordOk (l : List UInt8) : Bool := decide (1 ≤ l.length) && decide (l.length ≤ 8) && !(l.head?.any fun c => isDig c.toNat) && l.all wordCh

set_option maxHeartbeats 400000 in
theorem impl_isDigit_c (c : Int) (w : World) :
    Calls Tryd.prog 72 #[.int .u8 c] w fun e w' => e = .returned (.bool (isDig c)) ∧ w = w' := by
  by_cases h : 48 ≤ c
  all_goals
    go_enter Tryd.func72, Tryd.ntmps72
    go_wp2
    go_ret
    exact ⟨ret_b (by simp [isDig, inB]; omega), rfl⟩

set_option maxHeartbeats 400000 in
theorem impl_isSmall_c (c : Int) (w : World) :
    Calls Tryd.prog 88 #[.int .u8 c] w fun e w' => e = .returned (.bool (isSm c)) ∧ w = w' := by
  by_cases h : 97 ≤ c
  all_goals
    go_enter Tryd.func88, Tryd.ntmps88
    go_wp2
    go_ret
    exact ⟨ret_b (by simp [isSm, inB]; omega), rfl⟩

set_option maxHeartbeats 400000 in
theorem impl_WordValid_c (s : ByteArray) (w : World) :
    Calls Tryd.prog 81 #[.string s] w fun e w' => e = .returned (.bool (wordOk (bs s))) ∧ w = w' := by
  by_cases h1 : s.size < 1
  · go_enter Tryd.func81, Tryd.ntmps81
    go_wp2
    go_ret
    exact ⟨ret_b (by simp [wordOk]; omega), rfl⟩
  · by_cases h2 : 8 < s.size
    · go_enter Tryd.func81, Tryd.ntmps81
      go_wp2
      go_ret
      exact ⟨ret_b (by simp [wordOk]; omega), rfl⟩
    · have h0 : 0 < s.size := by omega
      have hh : Hid ((bs s).head? = some s[0]) := by
        unfold Hid bs
        rw [List.head?_eq_getElem?, List.getElem?_eq_getElem (by simpa using h0)]
        simp [ByteArray.getElem_eq_getElem_data]
      cases hd : isDig (s[0].toNat : Int)
      · go_enter Tryd.func81, Tryd.ntmps81
        go_wp2_with (go_at_call 72; refine (impl_isDigit_c _ _).mono ?_; rintro e w' ⟨rfl, rfl⟩)
        have HD := hid hd
        clear hd
        go_loop [3] (fun i => ∃ k : Nat, k ≤ s.size ∧ i = .int .i64 k ∧ Hid (((bs s).take k).all wordCh = true)) (fun i => s.size - (intOf i).toNat)
        case atStart => exact ⟨0, Nat.zero_le _, rfl, rfl⟩
        case round =>
          obtain ⟨k, hk, rfl, hall⟩ := hrel
          by_cases hlt : k < s.size
          · have hx : Hid ((bs s)[k]? = some s[k]) := by
              unfold Hid bs
              rw [List.getElem?_eq_getElem (by simpa using hlt)]
              simp [ByteArray.getElem_eq_getElem_data]
            cases c1 : isSm (s[k].toNat : Int)
            · cases c2 : isDig (s[k].toNat : Int)
              · have HN := hid (all_no wordCh hx.out (show wordCh s[k] = false by simp [wordCh, c1, c2]))
                go_wp2_with (first | (go_at_call 72; refine (impl_isDigit_c _ _).mono ?_; rintro e w' ⟨rfl, rfl⟩) | (go_at_call 88; refine (impl_isSmall_c _ _).mono ?_; rintro e w' ⟨rfl, rfl⟩))
                go_ret
                exact ⟨ret_b (by unfold wordOk; rw [HN.out]; simp), rfl⟩
              · have HY := hid (show wordCh s[k] = true by simp [wordCh, c2])
                go_wp2_with (first | (go_at_call 72; refine (impl_isDigit_c _ _).mono ?_; rintro e w' ⟨rfl, rfl⟩) | (go_at_call 88; refine (impl_isSmall_c _ _).mono ?_; rintro e w' ⟨rfl, rfl⟩))
                go_round
                case rel => exact ⟨k + 1, by omega, by go_num, by unfold Hid; rw [all_succ wordCh hx.out, hall.out, HY.out]; rfl⟩
                case measure => simp [intOf]; omega
            · have HY := hid (show wordCh s[k] = true by simp [wordCh, c1])
              go_wp2_with (first | (go_at_call 72; refine (impl_isDigit_c _ _).mono ?_; rintro e w' ⟨rfl, rfl⟩) | (go_at_call 88; refine (impl_isSmall_c _ _).mono ?_; rintro e w' ⟨rfl, rfl⟩))
              go_round
              case rel => exact ⟨k + 1, by omega, by go_num, by unfold Hid; rw [all_succ wordCh hx.out, hall.out, HY.out]; rfl⟩
              case measure => simp [intOf]; omega
          · have e := take_all (xs := bs s) (n := s.size) (by simp) (show s.size ≤ k by omega)
            have hall' := hall.out
            rw [e] at hall'
            have HA := hid hall'
            clear e hall' hall
            go_wp2
            go_ret
            exact ⟨ret_b (by have := HD.out; simp [wordOk, hh.out, this, HA.out]; omega), rfl⟩
      · have HD := hid hd
        go_enter Tryd.func81, Tryd.ntmps81
        go_wp2_with (go_at_call 72; refine (impl_isDigit_c _ _).mono ?_; rintro e w' ⟨rfl, rfl⟩)
        go_ret
        exact ⟨ret_b (by have := HD.out; simp [wordOk, hh.out, this]), rfl⟩


end Go.Proofs.YtkfkcbceoekgjaaDoor
