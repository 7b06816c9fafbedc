/- Walks: deltas. -/
import Derived.Test.YtdfkiphdieoaaaaText
import Derived.Lib.MinMax
import Derived.WalkSpells
import Derived.Laws.Concat
import Derived.Laws.ResultCell
import Derived.Handy
namespace Go.Proofs.Ytdfkiphdieoaaaa
open Go.RowKit

/-- How many bytes stay at the beginning. -/
def lcp : List UInt8 → List UInt8 → Nat
  | x :: xs, y :: ys => if x = y then lcp xs ys + 1 else 0
  | _, _ => 0
theorem lcp_same {a b : List UInt8} {k : Nat} {x : UInt8} (h : a[k]? = some x) (h' : b[k]? = some x) : lcp (a.drop k) (b.drop k) = lcp (a.drop (k + 1)) (b.drop (k + 1)) + 1 := by
  obtain ⟨h1, e1⟩ := List.getElem?_eq_some_iff.1 h
  obtain ⟨h2, e2⟩ := List.getElem?_eq_some_iff.1 h'
  rw [List.drop_eq_getElem_cons h1, List.drop_eq_getElem_cons h2, e1, e2]
  simp [lcp]
theorem lcp_else {a b : List UInt8} {k : Nat} {x y : UInt8} (h : a[k]? = some x) (h' : b[k]? = some y) (hne : x ≠ y) : lcp (a.drop k) (b.drop k) = 0 := by
  obtain ⟨h1, e1⟩ := List.getElem?_eq_some_iff.1 h
  obtain ⟨h2, e2⟩ := List.getElem?_eq_some_iff.1 h'
  rw [List.drop_eq_getElem_cons h1, List.drop_eq_getElem_cons h2, e1, e2]
  simp [lcp, hne]
theorem lcp_end {a b : List UInt8} {k : Nat} (h : a.length ≤ k ∨ b.length ≤ k) : lcp (a.drop k) (b.drop k) = 0 := by
  rcases h with h | h
  · rw [List.drop_eq_nil_of_le h]; rfl
  · rw [List.drop_eq_nil_of_le h]; cases a.drop k <;> rfl
theorem lcp_le : ∀ (a b : List UInt8), lcp a b ≤ a.length ∧ lcp a b ≤ b.length
  | [], _ => by simp [lcp]
  | _ :: _, [] => by simp [lcp]
  | x :: xs, y :: ys => by
    have := lcp_le xs ys
    simp only [lcp, List.length_cons]
    split <;> omega
theorem lcp_take : ∀ (a b : List UInt8), a.take (lcp a b) = b.take (lcp a b)
  | [], _ => by simp [lcp]
  | _ :: _, [] => by simp [lcp]
  | x :: xs, y :: ys => by
    have := lcp_take xs ys
    simp only [lcp]
    split
    · rename_i h; simp [h, this]
    · simp

/-- How many bytes stay at the beginning, and then at the end. -/
def dHead (a b : ByteArray) : Nat := lcp (bs a) (bs b)
def dTail (a b : ByteArray) : Nat := lcp ((bs a).drop (dHead a b)).reverse ((bs b).drop (dHead a b)).reverse
theorem dHead_le (a b : ByteArray) : dHead a b ≤ a.size ∧ dHead a b ≤ b.size := by
  have := lcp_le (bs a) (bs b)
  rw [bs_len, bs_len] at this
  exact this
theorem dTail_le (a b : ByteArray) : dTail a b + dHead a b ≤ a.size ∧ dTail a b + dHead a b ≤ b.size := by
  have h := dHead_le a b
  have := lcp_le ((bs a).drop (dHead a b)).reverse ((bs b).drop (dHead a b)).reverse
  simp only [List.length_reverse, List.length_drop, bs_len] at this
  unfold dTail
  omega
theorem rev_get (a : ByteArray) {h k : Nat} (hk : k < a.size - h) : ((bs a).drop h).reverse[k]? = some (a[a.size - 1 - k]'(by omega)) := by
  have hl : ((bs a).drop h).length = a.size - h := by rw [List.length_drop, bs_len]
  rw [List.getElem?_reverse (by omega), hl, List.getElem?_drop, ← bs_get]
  congr 1
  omega
theorem rev_len (a : ByteArray) (h : Nat) : ((bs a).drop h).reverse.length = a.size - h := by rw [List.length_reverse, List.length_drop, bs_len]

/-- The three ways of a round. -/
theorem lcp_way (a b : ByteArray) (k : Nat) :
    (∃ (h1 : k < a.size) (h2 : k < b.size), ((a[k].toNat : Int) == (b[k].toNat : Int)) = true ∧ Hid (lcp ((bs a).drop k) ((bs b).drop k) = lcp ((bs a).drop (k + 1)) ((bs b).drop (k + 1)) + 1)) ∨
    (∃ (h1 : k < a.size) (h2 : k < b.size), ((a[k].toNat : Int) == (b[k].toNat : Int)) = false ∧ Hid (lcp ((bs a).drop k) ((bs b).drop k) = 0)) ∨
    (¬ (k < a.size ∧ k < b.size) ∧ Hid (lcp ((bs a).drop k) ((bs b).drop k) = 0)) := by
  by_cases h : k < a.size ∧ k < b.size
  · obtain ⟨h1, h2⟩ := h
    by_cases he : a[k] = b[k]
    · exact .inl ⟨h1, h2, by simp [he], lcp_same (bs_get a h1) (he ▸ bs_get b h2)⟩
    · refine .inr (.inl ⟨h1, h2, ?_, lcp_else (bs_get a h1) (bs_get b h2) he⟩)
      simp only [beq_eq_false_iff_ne, ne_eq, Int.natCast_inj]
      exact fun e => he (UInt8.toNat_inj.1 e)
  · exact .inr (.inr ⟨h, lcp_end (by rw [bs_len, bs_len]; omega)⟩)
/-- .. of the second one. p, r: the places. -/
theorem lcp_way' (a b : ByteArray) (h j : Nat) :
    (∃ (p r : Nat) (h1 : p < a.size) (h2 : r < b.size), p + 1 + j = a.size ∧ r + 1 + j = b.size ∧ j + h < a.size ∧ j + h < b.size ∧ ((a[p].toNat : Int) == (b[r].toNat : Int)) = true ∧ Hid (lcp (((bs a).drop h).reverse.drop j) (((bs b).drop h).reverse.drop j) = lcp (((bs a).drop h).reverse.drop (j + 1)) (((bs b).drop h).reverse.drop (j + 1)) + 1)) ∨
    (∃ (p r : Nat) (h1 : p < a.size) (h2 : r < b.size), p + 1 + j = a.size ∧ r + 1 + j = b.size ∧ j + h < a.size ∧ j + h < b.size ∧ ((a[p].toNat : Int) == (b[r].toNat : Int)) = false ∧ Hid (lcp (((bs a).drop h).reverse.drop j) (((bs b).drop h).reverse.drop j) = 0)) ∨
    (¬ (j + h < a.size ∧ j + h < b.size) ∧ Hid (lcp (((bs a).drop h).reverse.drop j) (((bs b).drop h).reverse.drop j) = 0)) := by
  by_cases hh : j + h < a.size ∧ j + h < b.size
  · obtain ⟨h1, h2⟩ := hh
    have g1 := rev_get a (h := h) (k := j) (by omega)
    have g2 := rev_get b (h := h) (k := j) (by omega)
    by_cases he : a[a.size - 1 - j] = b[b.size - 1 - j]
    · exact .inl ⟨a.size - 1 - j, b.size - 1 - j, by omega, by omega, by omega, by omega, h1, h2, by simp [he], lcp_same g1 (he ▸ g2)⟩
    · refine .inr (.inl ⟨a.size - 1 - j, b.size - 1 - j, by omega, by omega, by omega, by omega, h1, h2, ?_, lcp_else g1 g2 he⟩)
      simp only [beq_eq_false_iff_ne, ne_eq, Int.natCast_inj]
      exact fun e => he (UInt8.toNat_inj.1 e)
  · exact .inr (.inr ⟨hh, lcp_end (by rw [rev_len, rev_len]; omega)⟩)

/-- .. with the third way split. -/
theorem lcp_ways (a b : ByteArray) (k : Nat) :
    (∃ (h1 : k < a.size) (h2 : k < b.size), ((a[k].toNat : Int) == (b[k].toNat : Int)) = true ∧ Hid (lcp ((bs a).drop k) ((bs b).drop k) = lcp ((bs a).drop (k + 1)) ((bs b).drop (k + 1)) + 1)) ∨
    (∃ (h1 : k < a.size) (h2 : k < b.size), ((a[k].toNat : Int) == (b[k].toNat : Int)) = false ∧ Hid (lcp ((bs a).drop k) ((bs b).drop k) = 0)) ∨
    (k < a.size ∧ b.size ≤ k ∧ Hid (lcp ((bs a).drop k) ((bs b).drop k) = 0)) ∨ (a.size ≤ k ∧ Hid (lcp ((bs a).drop k) ((bs b).drop k) = 0)) := by
  rcases lcp_way a b k with h | h | ⟨h, h'⟩
  · exact .inl h
  · exact .inr (.inl h)
  · by_cases h1 : k < a.size
    · exact .inr (.inr (.inl ⟨h1, by omega, h'⟩))
    · exact .inr (.inr (.inr ⟨by omega, h'⟩))
theorem lcp_ways' (a b : ByteArray) (h j : Nat) :
    (∃ (p r : Nat) (h1 : p < a.size) (h2 : r < b.size), p + 1 + j = a.size ∧ r + 1 + j = b.size ∧ j + h < a.size ∧ j + h < b.size ∧ ((a[p].toNat : Int) == (b[r].toNat : Int)) = true ∧ Hid (lcp (((bs a).drop h).reverse.drop j) (((bs b).drop h).reverse.drop j) = lcp (((bs a).drop h).reverse.drop (j + 1)) (((bs b).drop h).reverse.drop (j + 1)) + 1)) ∨
    (∃ (p r : Nat) (h1 : p < a.size) (h2 : r < b.size), p + 1 + j = a.size ∧ r + 1 + j = b.size ∧ j + h < a.size ∧ j + h < b.size ∧ ((a[p].toNat : Int) == (b[r].toNat : Int)) = false ∧ Hid (lcp (((bs a).drop h).reverse.drop j) (((bs b).drop h).reverse.drop j) = 0)) ∨
    (j + h < a.size ∧ b.size ≤ j + h ∧ Hid (lcp (((bs a).drop h).reverse.drop j) (((bs b).drop h).reverse.drop j) = 0)) ∨ (a.size ≤ j + h ∧ Hid (lcp (((bs a).drop h).reverse.drop j) (((bs b).drop h).reverse.drop j) = 0)) := by
  rcases lcp_way' a b h j with g | g | ⟨g, g'⟩
  · exact .inl g
  · exact .inr (.inl g)
  · by_cases h1 : j + h < a.size
    · exact .inr (.inr (.inl ⟨h1, by omega, g'⟩))
    · exact .inr (.inr (.inr ⟨by omega, g'⟩))

/-- A delta as a value. -/
abbrev dv (h t : Int) (p : ByteArray) : Value := .agg #[.int .i64 h, .int .i64 t, .string p]
/-- What DeltaOf returns. -/
def deltaOf (a b : ByteArray) : Value × Bool :=
  if textOk (bs a) && textOk (bs b) then (dv (dHead a b) (dTail a b) (b.extract (dHead a b) (b.size - dTail a b)), true) else (dv 0 0 ⟨#[]⟩, false)

set_option maxHeartbeats 400000 in
theorem impl_DeltaOf_c (a b : ByteArray) (w : World) :
    Calls Try.prog 17 #[.string a, .string b] w fun e w' => e = .returned (.tuple #[(deltaOf a b).1, .bool (deltaOf a b).2]) ∧ Below w.heap.size w w' := by
  cases ha : textOk (bs a)
  · have HD := hid (show deltaOf a b = (dv 0 0 ⟨#[]⟩, false) by simp [deltaOf, ha])
    go_enter Try.func17, Try.ntmps17
    go_wp2_with (go_at_call 30; refine (impl_TextValid_c _ _).mono ?_; rintro e w' ⟨rfl, rfl⟩)
    go_returns
    rw [HD.out]
    exact ⟨rfl, (Below.refl _ _).alloc (Nat.le_refl _) _⟩
  · cases hb : textOk (bs b)
    · have HD := hid (show deltaOf a b = (dv 0 0 ⟨#[]⟩, false) by simp [deltaOf, hb])
      go_enter Try.func17, Try.ntmps17
      go_wp2_with (go_at_call 30; refine (impl_TextValid_c _ _).mono ?_; rintro e w' ⟨rfl, rfl⟩)
      go_returns
      rw [HD.out]
      exact ⟨rfl, (Below.refl _ _).alloc (Nat.le_refl _) _⟩
    · have HD := hid (show deltaOf a b = (dv (dHead a b) (dTail a b) (b.extract (dHead a b) (b.size - dTail a b)), true) by simp [deltaOf, ha, hb])
      have ha' := textOk_len ha
      have hb' := textOk_len hb
      rw [bs_len] at ha' hb'
      go_enter Try.func17, Try.ntmps17
      go_wp2_with (go_at_call 30; refine (impl_TextValid_c _ _).mono ?_; rintro e w' ⟨rfl, rfl⟩)
      go_loopw [7] (fun i wr => ∃ (k q : Nat), k ≤ a.size ∧ k ≤ b.size ∧ i = .int .i64 k ∧ Hid (dHead a b = k + lcp ((bs a).drop k) ((bs b).drop k)) ∧ wr = (w.alloc (.cells #[.int .i64 0, .int .i64 0, .string ⟨#[]⟩] 27)).drewN q) (fun i _ => a.size - (intOf i).toNat)
      case atStart => exact ⟨0, 0, Nat.zero_le _, Nat.zero_le _, rfl, (by unfold Hid dHead; simp), rfl⟩
      case round =>
        obtain ⟨k, q, hk1, hk2, rfl, hlcp, rfl⟩ := hrel
        rcases lcp_way a b k with ⟨hka, hkb, hE, hN⟩ | ⟨hka, hkb, hE, hN⟩ | ⟨hnot, hN⟩
        · have hm : (k : Int) < min (a.size : Int) (b.size : Int) := by omega
          go_wp2
          go_quiet (fail)
          go_wp2
          go_roundw
          case rel => exact ⟨k + 1, _, by omega, by omega, by go_num, by have h1 := hlcp.out; rw [hN.out] at h1; unfold Hid; omega, rfl⟩
          case measure => simp [intOf]; omega
        all_goals
          have hH := hid (show dHead a b = k by have h1 := hlcp.out; rw [hN.out] at h1; omega)
          clear hlcp hN
          first
          | have hm : (k : Int) < min (a.size : Int) (b.size : Int) := by omega
          | have hm : decide ((k : Int) < min (a.size : Int) (b.size : Int)) = false := by simp; omega
          go_wp2
          go_quiet (fail)
          go_wp2
          go_loopw [8] (fun i wr => ∃ (j q : Nat), j + k ≤ a.size ∧ j + k ≤ b.size ∧ i = .int .i64 j ∧ Hid (dTail a b = j + lcp (((bs a).drop k).reverse.drop j) (((bs b).drop k).reverse.drop j)) ∧ wr = (w.alloc (.cells #[.int .i64 0, .int .i64 0, .string ⟨#[]⟩] 27)).drewN q) (fun i _ => a.size - (intOf i).toNat)
          case atStart => exact ⟨0, _, by omega, by omega, rfl, (by unfold Hid dTail; rw [hH.out]; simp), World.drewN_drewN _ _ _⟩
          case round =>
            obtain ⟨j, q, hj1, hj2, rfl, hlcp, rfl⟩ := hrel
            rcases lcp_way' a b k j with ⟨p, r, hp, hr, ep, er, g1, g2, hE, hN⟩ | ⟨p, r, hp, hr, ep, er, g1, g2, hE, hN⟩ | ⟨hnot, hN⟩
            · have hm' : (j : Int) < min (a.size : Int) (b.size : Int) - k := by omega
              have f1 : (a.size : Int) - 1 - j = (p : Int) := by omega
              have f2 : (b.size : Int) - 1 - j = (r : Int) := by omega
              go_wp2
              go_quiet (fail)
              go_wp2
              go_roundw
              case rel => exact ⟨j + 1, _, by omega, by omega, by go_num, by have h1 := hlcp.out; rw [hN.out] at h1; unfold Hid; omega, rfl⟩
              case measure => simp [intOf]; omega
            all_goals
              have hT := hid (show dTail a b = j by have h1 := hlcp.out; rw [hN.out] at h1; omega)
              clear hlcp hN
              first
              | (exfalso; omega)
              | ((first
                  | ((have hm' : (j : Int) < min (a.size : Int) (b.size : Int) - k := (by omega)); (have f1 : (a.size : Int) - 1 - j = (p : Int) := (by omega)); (have f2 : (b.size : Int) - 1 - j = (r : Int) := (by omega)))
                  | (have hm' : decide ((j : Int) < min (a.size : Int) (b.size : Int) - k) = false := (by simp; omega)))
                 go_wp2
                 go_quiet (fail)
                 go_wp2
                 go_returns
                 refine ⟨by rw [HD.out, hH.out, hT.out], ?_⟩
                 refine Below.setCell (Below.setCell (Below.setCell (bl_drewN ((Below.refl _ _).alloc (Nat.le_refl _) _) _) ?_ _) ?_ _) ?_ _ <;> exact Nat.le_refl _)

end Go.Proofs.Ytdfkiphdieoaaaa
