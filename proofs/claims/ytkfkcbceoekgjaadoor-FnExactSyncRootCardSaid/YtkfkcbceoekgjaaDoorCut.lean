/- Walks: what Go's library cuts off a text at one byte. -/
import Derived.Test.YtkfkcbceoekgjaaDoorHexT
import Derived.Lib.Bytealg
import Derived.Laws.Externs
namespace Go.Proofs.YtkfkcbceoekgjaaDoor
open Go.RowKit

theorem idx_none : ∀ {l : List UInt8} {c : UInt8}, c ∉ l → Go.Lib.indexByte l c = -1
  | [], c, _ => rfl
  | x :: r, c, h => by
    have h1 : ¬ x = c := fun e => h (by rw [e]; simp)
    have h2 := idx_none (l := r) (c := c) (fun e => h (List.mem_cons_of_mem _ e))
    simp [Go.Lib.indexByte, h1, h2]
theorem idx_some : ∀ {a r : List UInt8} {c : UInt8}, c ∉ a → Go.Lib.indexByte (a ++ c :: r) c = a.length
  | [], r, c, _ => by simp [Go.Lib.indexByte]
  | x :: a, r, c, h => by
    have h1 : ¬ x = c := fun e => h (by rw [e]; simp)
    have h2 := idx_some (a := a) (r := r) (c := c) (fun e => h (List.mem_cons_of_mem _ e))
    simp only [List.cons_append, Go.Lib.indexByte, h2]
    simp [h1]
/-- A list without a byte, or with it behind a part that has none of it. -/
theorem cut_ways (c : UInt8) : ∀ l : List UInt8, c ∉ l ∨ ∃ a r, l = a ++ c :: r ∧ c ∉ a
  | [] => .inl (by simp)
  | x :: l => by
    by_cases h : x = c
    · subst h; exact .inr ⟨[], l, rfl, by simp⟩
    · rcases cut_ways c l with h1 | ⟨a, r, e, h1⟩
      · exact .inl (by simp [Ne.symm h, h1])
      · exact .inr ⟨x :: a, r, by rw [e]; rfl, by simp [Ne.symm h, h1]⟩

set_option maxHeartbeats 400000 in
theorem IndexByte_c (s : ByteArray) (c : UInt8) (w : World) :
    Calls Tryd.prog 83 #[.string s, .int .u8 c.toNat] w fun e w' => e = .returned (.int .i64 (Go.Lib.indexByte (bs s) c)) ∧ w = w' := by
  have hx : (callFunc 90 #[.string s, .int .u8 (c.toNat : Int)]).run Tryd.prog w = .ok (.value (.int .i64 (Go.Lib.indexByte (bs s) c))) w := by
    rw [run_callFunc_extern Tryd.func90 (by kernel_rfl) (by kernel_rfl) (by kernel_rfl) (e := Extern.BytealgIndexByte.indexByte) (by kernel_rfl), Lib.run_indexByteString]
    have e1 : ((c.toNat : Int).toNat).toUInt8 = c := by simp
    rw [e1]
    rfl
  go_enter Tryd.func83, Tryd.ntmps83
  go_wp2_with (simp only [hx])
  go_ret
  exact ⟨rfl, rfl⟩

set_option maxHeartbeats 400000 in
theorem Index1_c (s : ByteArray) (c : UInt8) (w : World) :
    Calls Tryd.prog 78 #[.string s, .string (strL [c])] w fun e w' => e = .returned (.int .i64 (Go.Lib.indexByte (bs s) c)) ∧ w = w' := by
  have hsz : (strL [c]).size = 1 := strL_size _
  have hget : (strL [c])[0]'(by rw [hsz]; omega) = c := rfl
  cases heq : ((strL [c]).toList == s.toList)
  · go_enter Tryd.func78, Tryd.ntmps78
    go_wp2_with (go_at_call 83; refine (IndexByte_c s c _).mono ?_; rintro e w' ⟨rfl, rfl⟩)
    go_ret
    exact ⟨rfl, rfl⟩
  · have hs : [c] = bs s := by
      have := str_beq s [c]
      rw [heq] at this
      exact of_decide_eq_true this.symm
    have HI := hid (show Go.Lib.indexByte (bs s) c = 0 by rw [← hs]; exact idx_some (a := []) (r := []) (by simp))
    clear hs
    go_enter Tryd.func78, Tryd.ntmps78
    go_wp2
    go_ret
    exact ⟨ret_i HI.out.symm, rfl⟩

theorem ext_strL (s : ByteArray) (i j : Nat) : s.extract i j = strL (((bs s).take j).drop i) := by
  apply ByteArray.ext
  apply Array.ext'
  simp [strL, bs, List.drop_take]

set_option maxHeartbeats 400000 in
theorem Cut_no_c (s : ByteArray) (c : UInt8) (w : World) (h : c ∉ bs s) :
    Calls Tryd.prog 71 #[.string s, .string (strL [c])] w fun e w' => e = .returned (.tuple #[.string s, .string ByteArray.empty, .bool false]) ∧ ∃ q, w' = w.drewN q := by
  have HI := hid (idx_none h)
  clear h
  go_enter Tryd.func71, Tryd.ntmps71
  go_wp2_with fail
  refine (Index1_c s c _).mono ?_
  rw [HI.out]
  rintro e w' ⟨rfl, rfl⟩
  go_wp2
  go_ret3
  exact ⟨rfl, 0, rfl⟩

set_option maxHeartbeats 400000 in
theorem Cut_yes_c (s : ByteArray) (c : UInt8) (a r : List UInt8) (w : World) (h : bs s = a ++ c :: r) (hc : c ∉ a) (hs : s.size ≤ 1048576) :
    Calls Tryd.prog 71 #[.string s, .string (strL [c])] w fun e w' => e = .returned (.tuple #[.string (strL a), .string (strL r), .bool true]) ∧ ∃ q, w' = w.drewN q := by
  have HI := hid (show Go.Lib.indexByte (bs s) c = a.length by rw [h]; exact idx_some hc)
  have hl : s.size = a.length + (r.length + 1) := by rw [← bs_lenH, h]; simp
  have x1 : s.extract 0 a.length = strL a := by rw [ext_strL, h]; simp
  have x2 : s.extract (a.length + 1) s.size = strL r := by rw [ext_strL, ← bs_lenH, List.take_length, h]; simp [← List.drop_drop]
  have hsz : (strL [c]).size = 1 := strL_size _
  obtain ⟨k, hk⟩ : ∃ k, a.length = k := ⟨_, rfl⟩
  rw [hk] at HI hl x1 x2
  have hks : (k : Int) ≤ s.size := by omega
  have hks1 : (k : Int) + 1 ≤ s.size := by omega
  have HX := hid x2
  clear h hc hk hl
  go_enter Tryd.func71, Tryd.ntmps71
  go_wp2_with fail
  refine (Index1_c s c _).mono ?_
  rw [HI.out]
  rintro e w' ⟨rfl, rfl⟩
  go_wp2
  go_quiet (fail)
  go_wp2
  go_ret3
  exact ⟨by rw [← HX.out]; rfl, _, rfl⟩

set_option maxHeartbeats 400000 in
theorem strings_Cut_no_c (s : ByteArray) (c : UInt8) (w : World) (h : c ∉ bs s) :
    Calls Tryd.prog 62 #[.string s, .string (strL [c])] w fun e w' => e = .returned (.tuple #[.string s, .string ByteArray.empty, .bool false]) ∧ ∃ q, w' = w.drewN q := by
  go_enter Tryd.func62, Tryd.ntmps62
  go_wp2_with fail
  refine (Cut_no_c s c _ h).mono ?_
  rintro e w' ⟨rfl, q, rfl⟩
  go_wp2
  go_ret3
  exact ⟨rfl, q, rfl⟩

set_option maxHeartbeats 400000 in
theorem strings_Cut_yes_c (s : ByteArray) (c : UInt8) (a r : List UInt8) (w : World) (h : bs s = a ++ c :: r) (hc : c ∉ a) (hs : s.size ≤ 1048576) :
    Calls Tryd.prog 62 #[.string s, .string (strL [c])] w fun e w' => e = .returned (.tuple #[.string (strL a), .string (strL r), .bool true]) ∧ ∃ q, w' = w.drewN q := by
  go_enter Tryd.func62, Tryd.ntmps62
  go_wp2_with fail
  refine (Cut_yes_c s c a r _ h hc hs).mono ?_
  rintro e w' ⟨rfl, q, rfl⟩
  go_wp2
  go_ret3
  exact ⟨rfl, q, rfl⟩

set_option maxHeartbeats 400000 in
theorem CutPrefix_yes_c (s : ByteArray) (c : UInt8) (r : List UInt8) (w : World) (h : bs s = c :: r) (hs : s.size ≤ 1048576) :
    Calls Tryd.prog 61 #[.string s, .string (strL [c])] w fun e w' => e = .returned (.tuple #[.string (strL r), .bool true]) ∧ w = w' := by
  have hl : s.size = r.length + 1 := by rw [← bs_lenH, h]; simp
  have x1 : s.extract 0 1 = strL [c] := by rw [ext_strL, h]; simp
  have x2 : s.extract 1 s.size = strL r := by rw [ext_strL, ← bs_lenH, List.take_length, h]; simp
  have hsz : (strL [c]).size = 1 := strL_size _
  have hs1 : (1 : Int) ≤ s.size := by omega
  have hb : ((strL [c]).toList == (strL [c]).toList) = true := by simp
  have HX := hid x2
  clear h hl
  go_enter Tryd.func61, Tryd.ntmps61
  go_wp2_with go_in
  go_ret2
  exact ⟨by rw [← HX.out]; rfl, rfl⟩

set_option maxHeartbeats 400000 in
theorem CutPrefix_no_c (s : ByteArray) (c : UInt8) (w : World) (h : ∀ r, bs s ≠ c :: r) (hs : s.size ≤ 1048576) :
    Calls Tryd.prog 61 #[.string s, .string (strL [c])] w fun e w' => e = .returned (.tuple #[.string s, .bool false]) ∧ w = w' := by
  have hsz : (strL [c]).size = 1 := strL_size _
  by_cases h0 : s.size = 0
  · have hs1 : ¬ (1 : Int) ≤ s.size := by omega
    clear h h0
    go_enter Tryd.func61, Tryd.ntmps61
    go_wp2_with go_in
    go_ret2
    exact ⟨rfl, rfl⟩
  · have hs1 : (1 : Int) ≤ s.size := by omega
    obtain ⟨x, r, hx⟩ : ∃ x r, bs s = x :: r := by
      cases hb : bs s with
      | nil => exact absurd (by rw [← bs_lenH, hb]; rfl) h0
      | cons x r => exact ⟨x, r, rfl⟩
    have hxc : [x] ≠ [c] := fun e => h r (by rw [hx]; simp at e; rw [e])
    have x1 : s.extract 0 1 = strL [x] := by rw [ext_strL, hx]; simp
    have hb : ((strL [x]).toList == (strL [c]).toList) = false := by rw [strL_ne]; exact decide_eq_false hxc
    clear h h0 hx hxc
    go_enter Tryd.func61, Tryd.ntmps61
    go_wp2_with go_in
    go_ret2
    exact ⟨rfl, rfl⟩

end Go.Proofs.YtkfkcbceoekgjaaDoor
