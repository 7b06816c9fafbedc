/- Walks: filters. -/
import Derived.Test.YtlkcbfolpfckgaaExI
namespace Go.Proofs.Ytlkcbfolpfckgaa
open Go.RowKit

def fjoin (a b : Int) : Int := if inB a 0 1073741823 && inB b 0 1073741823 then bits .or .i64 a b else -1

set_option maxHeartbeats 400000 in
theorem spec_FilterJoin_c (a b : Int) (w : World) :
    Calls Try.prog 13 #[.int .i64 a, .int .i64 b] w fun e w' => e = .returned (.int .i64 (fjoin a b)) ∧ w = w' := by
  cases h1 : inB a 0 1073741823 <;> cases h2 : inB b 0 1073741823
  all_goals
    go_enter Try.func13, Try.ntmps13
    go_wp2_with (go_at_call 39; refine (spec_l1In_c _ _ _ _).mono ?_; rintro e w' ⟨rfl, rfl⟩)
    go_ret
    exact ⟨by simp [fjoin, h1, h2], rfl⟩

set_option maxHeartbeats 400000 in
theorem impl_FilterJoin_c (a b : Int) (w : World) :
    Calls Try.prog 14 #[.int .i64 a, .int .i64 b] w fun e w' => e = .returned (.int .i64 (fjoin a b)) ∧ w = w' := by
  cases h1 : inB a 0 1073741823 <;> cases h2 : inB b 0 1073741823
  all_goals
    go_enter Try.func14, Try.ntmps14
    go_wp2_with (go_at_call 40; refine (impl_filterValid_c _ _).mono ?_; rintro e w' ⟨rfl, rfl⟩)
    go_ret
    exact ⟨by simp [fjoin, h1, h2], rfl⟩

set_option maxHeartbeats 400000 in
theorem laws_FnExactFilterJoin_c (a b : Int) (w : World) :
    Calls Try.prog 3 #[.int .i64 a, .int .i64 b] w fun e w' => e = .returned (.bool true) ∧ w = w' := by
  go_enter Try.func3, Try.ntmps3
  go_wp2_with (first | (go_at_call 13; refine (spec_FilterJoin_c _ _ _).mono ?_; rintro e w' ⟨rfl, rfl⟩) | (go_at_call 14; refine (impl_FilterJoin_c _ _ _).mono ?_; rintro e w' ⟨rfl, rfl⟩))
  go_ret
  exact ⟨rfl, rfl⟩

def mask (p : Int) : Int := bits .or .i64 (wrap64 (2 ^ (p % 30).toNat)) (wrap64 (2 ^ (p / 30 % 30).toNat))

set_option maxHeartbeats 400000 in
theorem impl_bitsOf_c (p : Int) (w : World) (h0 : 0 ≤ p) (h1 : p ≤ 16777212) :
    Calls Try.prog 43 #[.int .i64 p] w fun e w' => e = .returned (.int .i64 (mask p)) ∧ ∃ n, w' = w.drewN n := by
  have a1 : 0 ≤ p % 30 := by omega
  have a2 : p % 30 ≤ 29 := by omega
  have a3 : 0 ≤ p / 30 % 30 := by omega
  have a4 : p / 30 % 30 ≤ 29 := by omega
  go_enter Try.func43, Try.ntmps43
  go_wp2
  go_quiet (fail)
  go_wp2
  go_ret
  exact ⟨rfl, _, rfl⟩

set_option maxHeartbeats 400000 in
theorem spec_l26Mask_c (p : Int) (w : World) (h0 : 0 ≤ p) (h1 : p ≤ 16777212) :
    Calls Try.prog 41 #[.int .i64 p] w fun e w' => e = .returned (.int .i64 (mask p)) ∧ ∃ n, w' = w.drewN n := by
  have a1 : 0 ≤ p % 30 := by omega
  have a2 : p % 30 ≤ 29 := by omega
  have a3 : 0 ≤ p / 30 % 30 := by omega
  have a4 : p / 30 % 30 ≤ 29 := by omega
  go_enter Try.func41, Try.ntmps41
  go_wp2
  go_quiet (fail)
  go_wp2
  go_ret
  exact ⟨rfl, _, rfl⟩

def fhas (f p : Int) : Bool := inB f 0 1073741823 && inB p 0 16777212 && (bits .and .i64 f (mask p) == mask p)

set_option maxHeartbeats 400000 in
theorem spec_FilterHas_c (f p : Int) (w : World) :
    Calls Try.prog 17 #[.int .i64 f, .int .i64 p] w fun e w' => e = .returned (.bool (fhas f p)) ∧ ∃ n, w' = w.drewN n := by
  cases h1 : inB f 0 1073741823 <;> cases h2 : inB p 0 16777212
  case true.true =>
    have hp := inB_yes h2
    go_enter Try.func17, Try.ntmps17
    go_wp2_with (first | (go_at_call 39; refine (spec_l1In_c _ _ _ _).mono ?_; rintro e w' ⟨rfl, rfl⟩) | (go_at_call 41; refine (spec_l26Mask_c _ _ hp.1 hp.2).mono ?_; rintro e w' ⟨rfl, n, rfl⟩))
    go_ret
    exact ⟨by simp [fhas, h1, h2], _, rfl⟩
  all_goals
    go_enter Try.func17, Try.ntmps17
    go_wp2_with (go_at_call 39; refine (spec_l1In_c _ _ _ _).mono ?_; rintro e w' ⟨rfl, rfl⟩)
    go_ret
    exact ⟨by simp [fhas, h1, h2], 0, rfl⟩

set_option maxHeartbeats 400000 in
theorem impl_FilterHas_c (f p : Int) (w : World) :
    Calls Try.prog 18 #[.int .i64 f, .int .i64 p] w fun e w' => e = .returned (.bool (fhas f p)) ∧ ∃ n, w' = w.drewN n := by
  cases h1 : inB f 0 1073741823 <;> cases h2 : inB p 0 16777212
  case true.true =>
    have hp := inB_yes h2
    go_enter Try.func18, Try.ntmps18
    go_wp2_with (first | (go_at_call 40; refine (impl_filterValid_c _ _).mono ?_; rintro e w' ⟨rfl, rfl⟩) | (go_at_call 42; refine (impl_printValid_c _ _).mono ?_; rintro e w' ⟨rfl, rfl⟩) | (go_at_call 43; refine (impl_bitsOf_c _ _ hp.1 hp.2).mono ?_; rintro e w' ⟨rfl, n, rfl⟩))
    go_ret
    exact ⟨by simp [fhas, h1, h2], _, rfl⟩
  all_goals
    go_enter Try.func18, Try.ntmps18
    go_wp2_with (first | (go_at_call 40; refine (impl_filterValid_c _ _).mono ?_; rintro e w' ⟨rfl, rfl⟩) | (go_at_call 42; refine (impl_printValid_c _ _).mono ?_; rintro e w' ⟨rfl, rfl⟩))
    go_ret
    exact ⟨by simp [fhas, h1, h2], 0, rfl⟩

set_option maxHeartbeats 400000 in
theorem laws_FnExactFilterHas_c (f p : Int) (w : World) :
    Calls Try.prog 5 #[.int .i64 f, .int .i64 p] w fun e w' => e = .returned (.bool true) ∧ ∃ n, w' = w.drewN n := by
  go_enter Try.func5, Try.ntmps5
  go_wp2_with (first | (go_at_call 17; refine (spec_FilterHas_c _ _ _).mono ?_; rintro e w' ⟨rfl, n, rfl⟩) | (go_at_call 18; refine (impl_FilterHas_c _ _ _).mono ?_; rintro e w' ⟨rfl, m, rfl⟩))
  go_ret
  exact ⟨rfl, _, rfl⟩

def forAll (xs : List Int) : Int := xs.foldl (fun f p => bits .or .i64 f (mask p)) 0
def fof (xs : List Int) : Int := if xs.all pv then forAll xs else -1
theorem forAll_succ {xs : List Int} {k : Nat} {x : Int} (h : xs[k]? = some x) : forAll (xs.take (k + 1)) = bits .or .i64 (forAll (xs.take k)) (mask x) := foldl_succ _ _ h

set_option maxHeartbeats 400000 in
theorem spec_FilterOf_c (v : Value) (xs : List Int) (B : Nat) (w : World) (h : Ints w B v xs) :
    Calls Try.prog 19 #[v] w fun e w' => e = .returned (.int .i64 (fof xs)) ∧ ∃ n, w' = w.drewN n := by
  obtain ⟨n, hn⟩ : ∃ n, xs.length = n := ⟨_, rfl⟩
  obtain ⟨a, c, rfl, h1, h2, h3⟩ := h.ints hn
  have HN := hid hn
  clear hn h
  go_enter Try.func19, Try.ntmps19
  go_wp2
  go_loopw [3, 4] (fun f i wr => ∃ (k m : Nat) (acc : Int), k ≤ n ∧ i = .int .i64 k ∧ Hid ((xs.take k).all pv = true) ∧ f = .int .i64 acc ∧ Hid (acc = forAll (xs.take k)) ∧ wr = w.drewN m) (fun _ i _ => n - (intOf i).toNat)
  case atStart => exact ⟨0, 0, _, Nat.zero_le _, rfl, rfl, rfl, rfl, rfl⟩
  case round =>
    obtain ⟨k, m, acc, hk, rfl, hall, rfl, hacc, rfl⟩ := hrel
    by_cases hlt : k < n
    · obtain ⟨b, o, x, rfl, hb, hx, hc⟩ := h3 k hlt
      clear h3
      cases hp : inB x 0 16777212
      · go_wp2_with (go_at_call 39; refine (spec_l1In_c _ _ _ _).mono ?_; rintro e w' ⟨rfl, rfl⟩)
        go_ret
        exact ⟨ret_i (by unfold fof; rw [all_no pv hx.out hp]; rfl), _, rfl⟩
      · have hpv := inB_yes hp
        go_wp2_with (first | (go_at_call 39; refine (spec_l1In_c _ _ _ _).mono ?_; rintro e w' ⟨rfl, rfl⟩) | (go_at_call 41; refine (spec_l26Mask_c _ _ hpv.1 hpv.2).mono ?_; rintro e w' ⟨rfl, q, rfl⟩))
        go_roundw
        case rel => exact ⟨k + 1, _, _, by omega, by go_num, by unfold Hid; rw [all_succ pv hx.out, hall.out]; exact hp, rfl, by unfold Hid; rw [forAll_succ hx.out, hacc.out], rfl⟩
        case measure => simp [intOf]; omega
    · have e := take_all HN.out (show n ≤ k by omega)
      have hall' := hall.out
      have hacc' := hacc.out
      rw [e] at hall' hacc'
      have HA := hid hall'
      have HC := hid hacc'
      clear e hall' hacc'
      go_wp2
      go_ret
      exact ⟨ret_i (by rw [HC.out]; simp [fof, HA.out]), _, rfl⟩

set_option maxHeartbeats 400000 in
theorem impl_FilterOf_c (v : Value) (xs : List Int) (B : Nat) (w : World) (h : Ints w B v xs) :
    Calls Try.prog 21 #[v] w fun e w' => e = .returned (.int .i64 (fof xs)) ∧ ∃ n, w' = w.drewN n := by
  obtain ⟨n, hn⟩ : ∃ n, xs.length = n := ⟨_, rfl⟩
  obtain ⟨a, c, rfl, h1, h2, h3⟩ := h.ints hn
  have HN := hid hn
  clear hn
  cases hall : xs.all pv
  · go_enter Try.func21, Try.ntmps21
    go_wp2_with (go_at_call 44; refine (impl_printsValid_c _ xs B _ h).mono ?_; rintro e w' ⟨rfl, rfl⟩)
    go_ret
    exact ⟨ret_i (by simp only [fof, hall]; rfl), 0, rfl⟩
  · have HA := hid hall
    go_enter Try.func21, Try.ntmps21
    go_wp2_with (go_at_call 44; refine (impl_printsValid_c _ xs B _ h).mono ?_; rintro e w' ⟨rfl, rfl⟩)
    clear hall h
    go_loopw [3, 11] (fun f i wr => ∃ (k m : Nat) (acc : Int), k ≤ n ∧ i = .int .i64 k ∧ f = .int .i64 acc ∧ Hid (acc = forAll (xs.take k)) ∧ wr = w.drewN m) (fun _ i _ => n - (intOf i).toNat)
    case atStart => exact ⟨0, 0, _, Nat.zero_le _, rfl, rfl, rfl, rfl⟩
    case round =>
      obtain ⟨k, m, acc, hk, rfl, rfl, hacc, rfl⟩ := hrel
      by_cases hlt : k < n
      · obtain ⟨b, o, x, rfl, hb, hx, hc⟩ := h3 k hlt
        have hpv := inB_yes (all_get pv hx.out HA.out)
        clear h3
        go_wp2_with (go_at_call 43; refine (impl_bitsOf_c _ _ hpv.1 hpv.2).mono ?_; rintro e w' ⟨rfl, q, rfl⟩)
        go_roundw
        case rel => exact ⟨k + 1, _, _, by omega, by go_num, rfl, by unfold Hid; rw [forAll_succ hx.out, hacc.out], rfl⟩
        case measure => simp [intOf]; omega
      · have e := take_all HN.out (show n ≤ k by omega)
        have hacc' := hacc.out
        rw [e] at hacc'
        have HC := hid hacc'
        clear e hacc'
        go_wp2
        go_ret
        exact ⟨ret_i (by rw [HC.out]; simp [fof, HA.out]), _, rfl⟩

def fwants (f : Int) (xs : List Int) : List Int := xs.filter (fun p => !fhas f p)
def fwant (f : Int) (xs : List Int) : List Int := if inB f 0 1073741823 && xs.all pv then fwants f xs else []
theorem fwants_succ (f : Int) {xs : List Int} {k : Nat} {x : Int} (h : xs[k]? = some x) : fwants f (xs.take (k + 1)) = fwants f (xs.take k) ++ (if !fhas f x then [x] else []) := filter_succ _ h
theorem fwants_len (f : Int) (xs : List Int) : (fwants f xs).length ≤ xs.length := List.length_filter_le _ _
theorem fwants_take (f : Int) (xs : List Int) (k : Nat) : (fwants f (xs.take k)).length ≤ k := by
  have := fwants_len f (xs.take k)
  have := List.length_take_le k xs
  omega
theorem fwants_yes {f : Int} {xs : List Int} {k : Nat} {x : Int} (h : xs[k]? = some x) (hp : fhas f x = true) : fwants f (xs.take (k + 1)) = fwants f (xs.take k) := by rw [fwants_succ f h, hp]; simp
theorem fwants_no {f : Int} {xs : List Int} {k : Nat} {x : Int} (h : xs[k]? = some x) (hp : fhas f x = false) : fwants f (xs.take (k + 1)) = fwants f (xs.take k) ++ [x] := by rw [fwants_succ f h, hp]; simp

set_option maxHeartbeats 400000 in
theorem impl_FilterWanted_c (f : Int) (v : Value) (xs : List Int) (w : World) (h : Ints w w.heap.size v xs) (hn0 : xs.length ≤ 1048576) :
    Calls Try.prog 26 #[.int .i64 f, v] w fun e w' => ∃ v', e = .returned v' ∧ OwnI w' w.heap.size v' (fwant f xs) ∧ Below w.heap.size w w' := by
  obtain ⟨n, hn⟩ : ∃ n, xs.length = n := ⟨_, rfl⟩
  obtain ⟨a, c, rfl, h1, h2, h3⟩ := h.ints hn
  rw [hn] at hn0
  have HN := hid hn
  clear hn
  cases g1 : inB f 0 1073741823
  · go_enter Try.func26, Try.ntmps26
    go_wp2_with (go_at_call 40; refine (impl_filterValid_c _ _).mono ?_; rintro e w' ⟨rfl, rfl⟩)
    go_ret
    exact ⟨_, rfl, by rw [show fwant f xs = [] by simp [fwant, g1]]; exact Own.nil_, Below.refl _ _⟩
  · cases g2 : xs.all pv
    · have G2 := hid g2
      clear h3
      go_enter Try.func26, Try.ntmps26
      go_wp2_with (first | (go_at_call 40; refine (impl_filterValid_c _ _).mono ?_; rintro e w' ⟨rfl, rfl⟩) | (go_at_call 44; refine (impl_printsValid_c _ xs _ _ h).mono ?_; rintro e w' ⟨rfl, rfl⟩))
      go_ret
      exact ⟨_, rfl, by rw [show fwant f xs = [] by unfold fwant; rw [G2.out]; simp]; exact Own.nil_, Below.refl _ _⟩
    · have hfw : Hid (fwant f xs = fwants f xs) := by unfold Hid fwant; rw [g1, g2]; rfl
      go_enter Try.func26, Try.ntmps26
      go_wp2_with (first | (go_at_call 40; refine (impl_filterValid_c _ _).mono ?_; rintro e w' ⟨rfl, rfl⟩) | (go_at_call 44; refine (impl_printsValid_c _ xs _ _ h).mono ?_; rintro e w' ⟨rfl, rfl⟩))
      clear g1 g2 h
      go_loopw [5, 18] (fun out i wr => ∃ (k : Nat) (acc : List Int), k ≤ n ∧ i = .int .i64 k ∧ OwnI wr w.heap.size out acc ∧ Hid (acc = fwants f (xs.take k)) ∧ acc.length ≤ k ∧ Below w.heap.size w wr) (fun _ i _ => n - (intOf i).toNat)
      case atStart => exact ⟨0, [], Nat.zero_le _, rfl, Own.nil_, rfl, Nat.le_refl _, Below.refl _ _⟩
      case round =>
        obtain ⟨k, acc, hk, rfl, hown, hacc, hlen, hb⟩ := hrel
        by_cases hlt : k < n
        · obtain ⟨b, o, x, rfl, hbl, hx, hc⟩ := h3 k hlt
          have hc' : wr.cell? ⟨b, o + k, none⟩ = some (.int .i64 x) := (hb.cell (p := ⟨b, o + k, none⟩) hbl).trans hc
          have hB := hb.size
          clear h3 hc
          cases hp : fhas f x
          · go_wp2_with (first | (go_at_call 18; refine (impl_FilterHas_c _ _ _).mono ?_; rintro e w' ⟨rfl, q, rfl⟩) | (at_builtin; refine push_int (w0 := w) (wr := wr.drewN q) rfl _ _ rfl _ _ _ _ _ hown (bl_drewN hb q) hB (Nat.le_refl _) rfl rfl (by omega) ?_; intro v' w' hown' hb' hB' _))
            go_roundw
            case rel => exact ⟨k + 1, _, by omega, by go_num, hown', by unfold Hid; rw [fwants_no hx.out hp, hacc.out], by simp; omega, hb'⟩
            case measure => simp [intOf]; omega
          · go_wp2_with (go_at_call 18; refine (impl_FilterHas_c _ _ _).mono ?_; rintro e w' ⟨rfl, q, rfl⟩)
            go_roundw
            case rel => exact ⟨k + 1, _, by omega, by go_num, hown, by unfold Hid; rw [fwants_yes hx.out hp, hacc.out], by omega, bl_drewN hb q⟩
            case measure => simp [intOf]; omega
        · have e := take_all HN.out (show n ≤ k by omega)
          have hacc' := hacc.out
          rw [e, ← hfw.out] at hacc'
          have HC := hid hacc'
          clear e hacc'
          go_wp2
          go_ret
          exact ⟨_, rfl, by rw [← HC.out]; exact hown, hb⟩

theorem fwants_all {f : Int} {xs : List Int} (h : inB f 0 1073741823 = true) (h2 : xs.all pv = true) : fwant f xs = fwants f xs := by unfold fwant; rw [h, h2]; rfl

set_option maxHeartbeats 400000 in
theorem spec_FilterWanted_c (f : Int) (v : Value) (xs : List Int) (w : World) (h : Ints w w.heap.size v xs) (hn0 : xs.length ≤ 1048576) :
    Calls Try.prog 25 #[.int .i64 f, v] w fun e w' => ∃ v', e = .returned v' ∧ OwnI w' w.heap.size v' (fwant f xs) ∧ Below w.heap.size w w' := by
  obtain ⟨n, hn⟩ : ∃ n, xs.length = n := ⟨_, rfl⟩
  obtain ⟨a, c, rfl, h1, h2, h3⟩ := h.ints hn
  rw [hn] at hn0
  have HN := hid hn
  clear hn
  go_enter Try.func25, Try.ntmps25
  go_wp2
  go_loopw [5, 6] (fun out i wr => ∃ (k : Nat) (acc : List Int), k ≤ n ∧ i = .int .i64 k ∧ OwnI wr w.heap.size out acc ∧ Hid (acc = fwants f (xs.take k)) ∧ Hid ((xs.take k).all pv = true ∧ (0 < k → inB f 0 1073741823 = true)) ∧ acc.length ≤ k ∧ Below w.heap.size w wr) (fun _ i _ => n - (intOf i).toNat)
  case atStart => exact ⟨0, [], Nat.zero_le _, rfl, Own.made _ (Nat.le_refl _), rfl, ⟨rfl, fun h => absurd h (by omega)⟩, Nat.le_refl _, (Below.refl _ _).alloc (Nat.le_refl _) _⟩
  case round =>
    obtain ⟨k, acc, hk, rfl, hown, hacc, hok, hlen, hb⟩ := hrel
    by_cases hlt : k < n
    · obtain ⟨b, o, x, rfl, hbl, hx, hc⟩ := h3 k hlt
      have hc' : wr.cell? ⟨b, o + k, none⟩ = some (.int .i64 x) := (hb.cell (p := ⟨b, o + k, none⟩) hbl).trans hc
      have hB := hb.size
      clear h3 hc
      cases hpv : inB x 0 16777212
      · go_wp2_with (go_at_call 39; refine (spec_l1In_c _ _ _ _).mono ?_; rintro e w' ⟨rfl, rfl⟩)
        go_ret
        exact ⟨_, rfl, by rw [show fwant f xs = [] by unfold fwant; rw [all_no pv hx.out hpv]; simp]; exact Own.made _ hB, hb.alloc hB _⟩
      · cases hf : inB f 0 1073741823
        · go_wp2_with (go_at_call 39; refine (spec_l1In_c _ _ _ _).mono ?_; rintro e w' ⟨rfl, rfl⟩)
          go_ret
          exact ⟨_, rfl, by rw [show fwant f xs = [] by unfold fwant; rw [hf]; rfl]; exact Own.made _ hB, hb.alloc hB _⟩
        · cases hp : fhas f x
          · go_wp2_with (first | (go_at_call 39; refine (spec_l1In_c _ _ _ _).mono ?_; rintro e w' ⟨rfl, rfl⟩) | (go_at_call 17; refine (spec_FilterHas_c _ _ _).mono ?_; rintro e w' ⟨rfl, q, rfl⟩) | (at_builtin; refine push_int (w0 := w) (wr := wr.drewN q) rfl _ _ rfl _ _ _ _ _ hown (bl_drewN hb q) hB (Nat.le_refl _) rfl rfl (by omega) ?_; intro v' w' hown' hb' hB' _))
            go_roundw
            case rel => exact ⟨k + 1, _, by omega, by go_num, hown', by unfold Hid; rw [fwants_no hx.out hp, hacc.out], ⟨by rw [all_succ pv hx.out, hok.out.1]; exact hpv, fun _ => by first | exact hf | trivial⟩, by simp; omega, hb'⟩
            case measure => simp [intOf]; omega
          · go_wp2_with (first | (go_at_call 39; refine (spec_l1In_c _ _ _ _).mono ?_; rintro e w' ⟨rfl, rfl⟩) | (go_at_call 17; refine (spec_FilterHas_c _ _ _).mono ?_; rintro e w' ⟨rfl, q, rfl⟩))
            go_roundw
            case rel => exact ⟨k + 1, _, by omega, by go_num, hown, by unfold Hid; rw [fwants_yes hx.out hp, hacc.out], ⟨by rw [all_succ pv hx.out, hok.out.1]; exact hpv, fun _ => by first | exact hf | trivial⟩, by omega, bl_drewN hb q⟩
            case measure => simp [intOf]; omega
    · have e := take_all HN.out (show n ≤ k by omega)
      have hacc' := hacc.out
      have hok' := hok.out
      rw [e] at hacc' hok'
      have HC : Hid (acc = fwant f xs) := by
        unfold Hid
        rcases Nat.eq_zero_or_pos k with hk0 | hk0
        · have : xs = [] := List.eq_nil_of_length_eq_zero (by rw [HN.out]; omega)
          rw [hacc', this]
          simp [fwants, fwant]
        · rw [hacc', fwants_all (hok'.2 hk0) hok'.1]
      clear e hacc' hok'
      go_wp2
      go_ret
      exact ⟨_, rfl, by rw [← HC.out]; exact hown, hb⟩

end Go.Proofs.Ytlkcbfolpfckgaa
