/- Walks: valid texts. -/
import Derived.Test.YtkfkcbceoekgjaaDoorWord
import Derived.Test.YtkfkcbceoekgjaaDoorReg
namespace Go.Proofs.YtkfkcbceoekgjaaDoor
open Go.RowKit

def txCh (c : UInt8) : Bool := inB c.toNat 32 126
/-- A valid text. -/
def textOk (l : List UInt8) : Bool := decide (l.length ≤ 60) && l.all txCh
theorem textOk_len {l : List UInt8} (h : textOk l = true) : l.length ≤ 60 := by simp [textOk] at h; exact h.1
theorem bs_len (s : ByteArray) : (bs s).length = s.size := by simp [bs]
theorem bs_get (s : ByteArray) {k : Nat} (h : k < s.size) : (bs s)[k]? = some s[k] := by
  unfold bs
  rw [List.getElem?_eq_getElem (by simpa using h)]
  simp [ByteArray.getElem_eq_getElem_data]

set_option maxHeartbeats 400000 in
theorem impl_TextValid_c (s : ByteArray) (w : World) :
    Calls Tryd.prog 47 #[.string s] w fun e w' => e = .returned (.bool (textOk (bs s))) ∧ w = w' := by
  by_cases h1 : 60 < s.size
  · go_enter Tryd.func47, Tryd.ntmps47
    go_wp2
    go_ret
    exact ⟨ret_b (by simp [textOk]; omega), rfl⟩
  · go_enter Tryd.func47, Tryd.ntmps47
    go_wp2
    go_loop [3] (fun i => ∃ k : Nat, k ≤ s.size ∧ i = .int .i64 k ∧ Hid (((bs s).take k).all txCh = true)) (fun i => s.size - (intOf i).toNat)
    case atStart => exact ⟨0, Nat.zero_le _, rfl, rfl⟩
    case round =>
      obtain ⟨k, hk, rfl, hall⟩ := hrel
      by_cases hlt : k < s.size
      · have hx := hid (bs_get s hlt)
        by_cases c1 : (s[k].toNat : Int) < 32
        · have HN := hid (all_no txCh hx.out (show txCh s[k] = false by simp [txCh, inB]; omega))
          go_wp2
          go_ret
          exact ⟨ret_b (by unfold textOk; rw [HN.out]; simp), rfl⟩
        · by_cases c2 : 126 < (s[k].toNat : Int)
          · have HN := hid (all_no txCh hx.out (show txCh s[k] = false by simp [txCh, inB]; omega))
            go_wp2
            go_ret
            exact ⟨ret_b (by unfold textOk; rw [HN.out]; simp), rfl⟩
          · have HY := hid (show txCh s[k] = true by simp [txCh, inB]; omega)
            go_wp2
            go_round
            case rel => exact ⟨k + 1, by omega, by go_num, by unfold Hid; rw [all_succ txCh hx.out, hall.out, HY.out]; rfl⟩
            case measure => simp [intOf]; omega
      · have e := take_all (xs := bs s) (n := s.size) (by simp) (show s.size ≤ k by omega)
        have hall' := hall.out
        rw [e] at hall'
        have HA := hid hall'
        clear e hall' hall
        go_wp2
        go_ret
        exact ⟨ret_b (by simp [textOk, HA.out]; omega), rfl⟩

set_option maxHeartbeats 400000 in
theorem spec_TextValid_c (s : ByteArray) (w : World) (hs : s.size ≤ 4611686018427387904) :
    Calls Tryd.prog 43 #[.string s] w fun e w' => e = .returned (.bool (textOk (bs s))) ∧ w = w' := by
  go_enter Tryd.func43, Tryd.ntmps43
  go_wp2
  go_loop [3] (fun i => ∃ k : Nat, k ≤ s.size ∧ i = .int .i64 k ∧ Hid (((bs s).take k).all txCh = true)) (fun i => s.size - (intOf i).toNat)
  case atStart => exact ⟨0, Nat.zero_le _, rfl, rfl⟩
  case round =>
    obtain ⟨k, hk, rfl, hall⟩ := hrel
    by_cases hlt : k < s.size
    · have hx := hid (bs_get s hlt)
      by_cases c1 : (s[k].toNat : Int) < 32
      · have HN := hid (all_no txCh hx.out (show txCh s[k] = false by simp [txCh, inB]; omega))
        go_wp2
        go_ret
        exact ⟨ret_b (by unfold textOk; rw [HN.out]; simp), rfl⟩
      · by_cases c2 : 126 < (s[k].toNat : Int)
        · have HN := hid (all_no txCh hx.out (show txCh s[k] = false by simp [txCh, inB]; omega))
          go_wp2
          go_ret
          exact ⟨ret_b (by unfold textOk; rw [HN.out]; simp), rfl⟩
        · have HY := hid (show txCh s[k] = true by simp [txCh, inB]; omega)
          go_wp2
          go_round
          case rel => exact ⟨k + 1, by omega, by go_num, by unfold Hid; rw [all_succ txCh hx.out, hall.out, HY.out]; rfl⟩
          case measure => simp [intOf]; omega
    · have e := take_all (xs := bs s) (n := s.size) (by simp) (show s.size ≤ k by omega)
      have hall' := hall.out
      rw [e] at hall'
      have HA := hid hall'
      clear e hall' hall
      by_cases h60 : s.size ≤ 60
      all_goals
        go_wp2
        go_ret
        exact ⟨ret_b (by simp [textOk, HA.out]; try omega), rfl⟩

end Go.Proofs.YtkfkcbceoekgjaaDoor
