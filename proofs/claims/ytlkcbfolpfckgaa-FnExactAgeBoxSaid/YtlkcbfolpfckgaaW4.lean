/- Walks: filters of lists. -/
import Derived.Test.YtlkcbfolpfckgaaW3
namespace Go.Proofs.Ytlkcbfolpfckgaa
open Go.RowKit

def fof (xs : List Int) : Int := if xs.all pv then xs.foldl (fun f p => bits .or .i64 f (mask p)) 0 else -1

set_option maxHeartbeats 400000 in
theorem spec_FilterOf_c (v : Value) (xs : List Int) (B : Nat) (w : World) (h : Ints w B v xs) :
    Calls Try.prog 19 #[v] w fun e w' => e = .returned (.int .i64 (fof xs)) ∧ ∃ n, w' = w.drewN n := by
  obtain ⟨a, c, rfl, h1, h2, h3⟩ := h.open_
  go_enter Try.func19, Try.ntmps19
  go_wp2
  go_loopw [3, 4] (fun f i wr => ∃ (k m : Nat), k ≤ xs.length ∧ i = .int .i64 k ∧ Hid ((xs.take k).all pv = true) ∧ f = .int .i64 ((xs.take k).foldl (fun f p => bits .or .i64 f (mask p)) 0) ∧ wr = w.drewN m) (fun _ i _ => xs.length - (intOf i).toNat)
  case atStart => exact ⟨0, 0, Nat.zero_le _, rfl, rfl, rfl, rfl⟩
  case round =>
    obtain ⟨k, m, hk, rfl, hall, rfl, rfl⟩ := hrel
    by_cases hlt : k < xs.length
    · obtain ⟨b, o, rfl, hb, hc⟩ := h3 k hlt
      have HS := hid (all_take_succ pv xs k hlt)
      have HF := hid (foldl_take_succ (fun f p => bits .or .i64 f (mask p)) 0 xs k hlt)
      clear h3
      generalize hf : (xs.take k).foldl (fun f p => bits .or .i64 f (mask p)) 0 = f at *
      have HFk := hid hf
      clear hf
      cases hp : inB xs[k] 0 16777212
      · go_wp2_with (go_at_call 39; refine (l1In_c _ _ _ _).mono ?_; rintro e w' ⟨rfl, rfl⟩)
        go_ret
        exact ⟨ret_i (by unfold fof; rw [all_false_of pv xs k hlt hp]; rfl), _, rfl⟩
      · have hpv := pv_of hp
        go_wp2_with (first | (go_at_call 39; refine (l1In_c _ _ _ _).mono ?_; rintro e w' ⟨rfl, rfl⟩) | (go_at_call 41; refine (l26Mask_c _ _ hpv.1 hpv.2).mono ?_; rintro e w' ⟨rfl, q, rfl⟩))
        go_roundw
        case rel => exact ⟨k + 1, _, by omega, by go_num, by unfold Hid; rw [HS.out, hall.out]; exact hp, by rw [HF.out], rfl⟩
        case measure => simp [intOf]; omega
    · obtain rfl : k = xs.length := by omega
      go_wp2
      go_ret
      exact ⟨ret_i (by have := hall.out; rw [List.take_length] at this ⊢; simp [fof, this]), _, rfl⟩

set_option maxHeartbeats 400000 in
theorem impl_FilterOf_c (v : Value) (xs : List Int) (B : Nat) (w : World) (h : Ints w B v xs) :
    Calls Try.prog 21 #[v] w fun e w' => e = .returned (.int .i64 (fof xs)) ∧ ∃ n, w' = w.drewN n := by
  obtain ⟨a, c, rfl, h1, h2, h3⟩ := h.open_
  cases hall : xs.all pv
  · go_enter Try.func21, Try.ntmps21
    go_wp2_with (go_at_call 44; refine (printsValid_c _ xs B _ h).mono ?_; rintro e w' ⟨rfl, rfl⟩)
    go_ret
    exact ⟨ret_i (by simp only [fof, hall]; rfl), 0, rfl⟩
  · have HA := hid hall
    go_enter Try.func21, Try.ntmps21
    go_wp2_with (go_at_call 44; refine (printsValid_c _ xs B _ h).mono ?_; rintro e w' ⟨rfl, rfl⟩)
    clear hall
    go_loopw [3, 11] (fun f i wr => ∃ (k m : Nat), k ≤ xs.length ∧ i = .int .i64 k ∧ f = .int .i64 ((xs.take k).foldl (fun f p => bits .or .i64 f (mask p)) 0) ∧ wr = w.drewN m) (fun _ i _ => xs.length - (intOf i).toNat)
    case atStart => exact ⟨0, 0, Nat.zero_le _, rfl, rfl, rfl⟩
    case round =>
      obtain ⟨k, m, hk, rfl, rfl, rfl⟩ := hrel
      by_cases hlt : k < xs.length
      · obtain ⟨b, o, rfl, hb, hc⟩ := h3 k hlt
        have HF := hid (foldl_take_succ (fun f p => bits .or .i64 f (mask p)) 0 xs k hlt)
        have hpv : 0 ≤ xs[k] ∧ xs[k] ≤ 16777212 := pv_of (List.all_eq_true.1 HA.out _ (List.getElem_mem hlt))
        clear h3
        generalize hf : (xs.take k).foldl (fun f p => bits .or .i64 f (mask p)) 0 = f at *
        have HFk := hid hf
        clear hf
        go_wp2_with (go_at_call 43; refine (bitsOf_c _ _ hpv.1 hpv.2).mono ?_; rintro e w' ⟨rfl, q, rfl⟩)
        go_roundw
        case rel => exact ⟨k + 1, _, by omega, by go_num, by rw [HF.out], rfl⟩
        case measure => simp [intOf]; omega
      · obtain rfl : k = xs.length := by omega
        go_wp2
        go_ret
        exact ⟨ret_i (by rw [List.take_length]; simp [fof, HA.out]), _, rfl⟩

set_option maxHeartbeats 400000 in
theorem laws_FnExactFilterOf_c (v : Value) (xs : List Int) (w : World) (h : Ints w w.heap.size v xs) :
    Calls Try.prog 6 #[v] w fun e w' => e = .returned (.bool true) ∧ Below w.heap.size w w' := by
  obtain ⟨n, hn⟩ : ∃ n, xs.length = n := ⟨_, rfl⟩
  obtain ⟨a, c, rfl, h1, h2, h3⟩ := h.openN hn
  clear h3
  by_cases hb : 1048576 < n
  · clear hn
    go_enter Try.func6, Try.ntmps6
    go_wp2
    go_ret
    exact ⟨rfl, Below.refl _ _⟩
  · have HN := hid hn
    clear hn
    have hb' : n ≤ 1048576 := by omega
    have hs : ∀ wx, Below w.heap.size w wx → Ints wx wx.heap.size (.slice a n c) xs := fun wx hx => (h.below hx (Nat.le_refl _)).more hx.size
    go_enter Try.func6, Try.ntmps6
    go_wp2_with fail
    refine (laws_toIntS_c _ xs _ (hs _ (Below.refl _ _)) (by rw [HN.out]; exact hb')).mono ?_
    rintro e w1 ⟨v1, rfl, o1, b1⟩
    have i1 := Ints.of_own o1
    go_wp2_with fail
    refine (spec_FilterOf_c _ xs _ _ i1).mono ?_
    rintro e w' ⟨rfl, q, rfl⟩
    go_wp2_with fail
    have b1' := bl_drewN b1 q
    refine (laws_toIntS_c _ xs _ (hs _ b1') (by rw [HN.out]; exact hb')).mono ?_
    rintro e w2 ⟨v2, rfl, o2, b2⟩
    have i2 := Ints.of_own o2
    have c2 := bl_then b1' b2
    go_wp2_with fail
    refine (impl_FilterOf_c _ xs _ _ i2).mono ?_
    rintro e w' ⟨rfl, r, rfl⟩
    go_wp2_with fail
    have c2' := bl_drewN c2 r
    refine (laws_toIntS_c _ xs _ (hs _ c2') (by rw [HN.out]; exact hb')).mono ?_
    rintro e w3 ⟨v3, rfl, o3, b3⟩
    go_wp2_with fail
    refine (laws_eqIntS_c _ _ xs xs _ _ _ (Ints.on (w := w2.drewN r) i2 b3) (Ints.of_own o3)).mono ?_
    rintro e w' ⟨rfl, t, rfl⟩
    go_wp2
    go_ret
    exact ⟨by simp, bl_drewN (bl_then c2' b3) t⟩
end Go.Proofs.Ytlkcbfolpfckgaa
