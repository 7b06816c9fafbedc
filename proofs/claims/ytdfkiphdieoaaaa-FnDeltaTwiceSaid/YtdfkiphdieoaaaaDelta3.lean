/- Walks: deltas that are applied. -/
import Derived.Test.YtdfkiphdieoaaaaDelta2
namespace Go.Proofs.Ytdfkiphdieoaaaa
open Go.RowKit

/-- Whether a delta fits. -/
def dFits (a : ByteArray) (h t : Int) : Bool := inB h 0 a.size && inB t 0 (a.size - h)
def dText (a : ByteArray) (h t : Int) (p : ByteArray) : ByteArray := a.extract 0 h.toNat ++ p ++ a.extract (a.size - t).toNat a.size
/-- What ApplyDelta returns. -/
def applyOk (a : ByteArray) (h t : Int) (p : ByteArray) : Bool := textOk (bs a) && dFits a h t && textOk (bs (dText a h t p))
def applyDelta (a : ByteArray) (h t : Int) (p : ByteArray) : ByteArray := if applyOk a h t p then dText a h t p else ⟨#[]⟩

set_option maxHeartbeats 400000 in
theorem impl_deltaFits_c (a : ByteArray) (h t : Int) (p : ByteArray) (w : World) (ha : a.size ≤ 1099511627776) :
    Calls Try.prog 31 #[.string a, dv h t p] w fun e w' => e = .returned (.bool (dFits a h t)) ∧ Below w.heap.size w w' := by
  by_cases h1 : 0 ≤ h
  · by_cases h2 : 0 ≤ t
    · by_cases h3 : h ≤ a.size
      · by_cases h4 : t ≤ a.size - h
        all_goals
          go_enter Try.func31, Try.ntmps31
          go_wp2
          go_ret
          exact ⟨ret_b (by simp [dFits, inB, h1, h2, h3, h4]), (Below.refl _ _).alloc (Nat.le_refl _) _⟩
      · go_enter Try.func31, Try.ntmps31
        go_wp2
        go_ret
        exact ⟨ret_b (by simp [dFits, inB]; omega), (Below.refl _ _).alloc (Nat.le_refl _) _⟩
    · go_enter Try.func31, Try.ntmps31
      go_wp2
      go_ret
      exact ⟨ret_b (by simp [dFits, inB]; omega), (Below.refl _ _).alloc (Nat.le_refl _) _⟩
  · go_enter Try.func31, Try.ntmps31
    go_wp2
    go_ret
    exact ⟨ret_b (by simp [dFits, inB]; omega), (Below.refl _ _).alloc (Nat.le_refl _) _⟩

theorem dText_size (a p : ByteArray) (h t : Nat) (h1 : h + t ≤ a.size) : (dText a h t p).size = h + p.size + t := by
  unfold dText
  rw [ByteArray.size_append, ByteArray.size_append, ByteArray.size_extract, ByteArray.size_extract]
  omega
theorem apply_off {a p : ByteArray} {h t : Int} (h' : applyOk a h t p = false) : applyDelta a h t p = ⟨#[]⟩ := by unfold applyDelta; rw [h']; rfl

theorem apply_on {a p : ByteArray} {h t : Int} (h' : applyOk a h t p = true) : applyDelta a h t p = dText a h t p := by unfold applyDelta; rw [h']; rfl

set_option maxHeartbeats 2000000 in
theorem impl_ApplyDelta_c (a : ByteArray) (h t : Int) (p : ByteArray) (w : World) (ha : a.size ≤ 1099511627776) (hp : p.size ≤ 1099511627776) :
    Calls Try.prog 15 #[.string a, dv h t p] w fun e w' => e = .returned (.tuple #[.string (applyDelta a h t p), .bool (applyOk a h t p)]) ∧ Below w.heap.size w w' := by
  cases h1 : textOk (bs a)
  · have HO := hid (show applyOk a h t p = false by simp [applyOk, h1])
    go_enter Try.func15, Try.ntmps15
    go_wp2_with (go_at_call 30; refine (impl_TextValid_c _ _).mono ?_; rintro e w' ⟨rfl, rfl⟩)
    go_returns
    rw [apply_off HO.out, HO.out]
    exact ⟨rfl, (Below.refl _ _).alloc (Nat.le_refl _) _⟩
  · cases h2 : dFits a h t
    · have HO := hid (show applyOk a h t p = false by simp [applyOk, h2])
      go_enter Try.func15, Try.ntmps15
      go_wp2_with (first | (go_at_call 30; refine (impl_TextValid_c _ _).mono ?_; rintro e w' ⟨rfl, rfl⟩) | (go_at_call 31; refine (impl_deltaFits_c _ _ _ _ _ (by assumption)).mono ?_; rintro e w2 ⟨rfl, b2⟩))
      go_returns
      rw [apply_off HO.out, HO.out]
      exact ⟨rfl, bl_then ((Below.refl _ _).alloc (Nat.le_refl _) _) b2⟩
    · have hf := h2
      simp only [dFits, Bool.and_eq_true] at hf
      obtain ⟨⟨g1, g2⟩, ⟨g3, g4⟩⟩ := And.intro (inB_yes hf.1) (inB_yes hf.2)
      clear hf
      obtain ⟨hn, rfl⟩ : ∃ n : Nat, h = n := ⟨h.toNat, by omega⟩
      obtain ⟨tn, rfl⟩ : ∃ n : Nat, t = n := ⟨t.toNat, by omega⟩
      obtain ⟨m, hm⟩ : ∃ m : Nat, (a.size : Int) - tn = m := ⟨a.size - tn, by omega⟩
      have h60 := textOk_len h1
      rw [bs_len] at h60
      have hsz := hid (dText_size a p hn tn (by omega))
      by_cases h3 : 60 < p.size
      · have HO := hid (show applyOk a hn tn p = false by
          have : textOk (bs (dText a hn tn p)) = false := by
            cases hq : textOk (bs (dText a hn tn p))
            · rfl
            · have := textOk_len hq; rw [bs_len, hsz.out] at this; omega
          simp [applyOk, this])
        go_enter Try.func15, Try.ntmps15
        go_wp2_with (first | (go_at_call 30; refine (impl_TextValid_c _ _).mono ?_; rintro e w' ⟨rfl, rfl⟩) | (go_at_call 31; refine (impl_deltaFits_c _ _ _ _ _ (by assumption)).mono ?_; rintro e w2 ⟨rfl, b2⟩; have hc2 : w2.cell? ⟨w.heap.size, 2, none⟩ = some (.string p) := (b2.cell (p := ⟨w.heap.size, 2, none⟩) (by simp)).trans (by simp [go_sem])))
        go_returns
        rw [apply_off HO.out, HO.out]
        exact ⟨rfl, bl_then ((Below.refl _ _).alloc (Nat.le_refl _) _) b2⟩
      · go_enter Try.func15, Try.ntmps15
        go_wp2_with (first | (go_at_call 30; refine (impl_TextValid_c _ _).mono ?_; rintro e w' ⟨rfl, rfl⟩) | (go_at_call 31; refine (impl_deltaFits_c _ _ _ _ _ (by assumption)).mono ?_; rintro e w2 ⟨rfl, b2⟩; have hc0 : w2.cell? ⟨w.heap.size, 0, none⟩ = some (.int .i64 hn) := (b2.cell (p := ⟨w.heap.size, 0, none⟩) (by simp)).trans (by simp [go_sem]); have hc1 : w2.cell? ⟨w.heap.size, 1, none⟩ = some (.int .i64 tn) := (b2.cell (p := ⟨w.heap.size, 1, none⟩) (by simp)).trans (by simp [go_sem]); have hc2 : w2.cell? ⟨w.heap.size, 2, none⟩ = some (.string p) := (b2.cell (p := ⟨w.heap.size, 2, none⟩) (by simp)).trans (by simp [go_sem])))
        go_quiet (fail)
        obtain ⟨D, hD⟩ : ∃ D, D = a.extract 0 hn ++ p ++ a.extract m a.size := ⟨_, rfl⟩
        have HD := hid (show dText a hn tn p = D by rw [hD]; unfold dText; rw [hm]; simp)
        have hDs : D.size ≤ 2199023255552 := by rw [hD]; simp only [ByteArray.size_append, ByteArray.size_extract]; omega
        rw [← hD]
        clear hD
        have c2 := bl_drewN (bl_then ((Below.refl _ _).alloc (Nat.le_refl _) _) b2) nq
        clear b2 hc0 hc1 hc2
        cases h5 : textOk (bs D)
        · have HO := hid (show applyOk a hn tn p = false by simp [applyOk, HD.out, h5])
          go_wp2_with (go_at_call 30; refine (impl_TextValid_c _ _).mono ?_; rintro e w' ⟨rfl, rfl⟩)
          go_returns
          rw [apply_off HO.out, HO.out]
          exact ⟨rfl, c2⟩
        · have HO := hid (show applyOk a hn tn p = true by simp [applyOk, HD.out, h5, h1, h2])
          go_wp2_with (go_at_call 30; refine (impl_TextValid_c _ _).mono ?_; rintro e w' ⟨rfl, rfl⟩)
          go_returns
          rw [apply_on HO.out, HO.out, HD.out]
          exact ⟨rfl, c2⟩

end Go.Proofs.Ytdfkiphdieoaaaa
