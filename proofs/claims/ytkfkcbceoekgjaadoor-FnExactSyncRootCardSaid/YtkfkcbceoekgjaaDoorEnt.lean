/- Walks: rows of entries, valid entries. -/
import Derived.Test.YtkfkcbceoekgjaaDoorFoldP
import Derived.Test.YtkfkcbceoekgjaaDoorPrint
import Derived.Test.YtkfkcbceoekgjaaDoorHas
import Derived.Laws.ResultCell
import Derived.Handy
namespace Go.Proofs.YtkfkcbceoekgjaaDoor
open Go.RowKit

abbrev encE (e : Ent) : List Value := [.string e.name, .int .i64 e.print]
abbrev Ents := Rd encE 2
abbrev OwnE := Own encE 45 2
theorem Rd.ents {w : World} {B n : Nat} {v : Value} {xs : List Ent} (h : Ents w B v xs) (hn : xs.length = n) :
    ∃ a c, v = .slice a n c ∧ n ≤ c ∧ c ≤ 9223372036854775807 ∧
      ∀ i, i < n → ∃ (b o : Nat) (t : ByteArray) (r : Int), a = some ⟨b, o, none⟩ ∧ b < B ∧ Hid (xs[i]? = some ⟨t, r⟩) ∧ w.cell? ⟨b, o + i * 2, none⟩ = some (.string t) ∧ w.cell? ⟨b, o + i * 2 + 1, none⟩ = some (.int .i64 r) := by
  obtain ⟨a, c, hv, h1, h2, h3⟩ := Rd.openN h (fun _ => rfl) hn
  refine ⟨a, c, hv, h1, h2, fun i hi => ?_⟩
  obtain ⟨b, o, ⟨t, r⟩, ha, hb, hx, hc⟩ := h3 i hi
  exact ⟨b, o, t, r, ha, hb, hx, by simpa using hc 0 _ rfl, by simpa [Nat.add_assoc] using hc 1 _ rfl⟩

/-! ### Plain facts -/
def lastN (p : Option ByteArray) (l : List Ent) : Nat → Option ByteArray
  | 0 => p
  | k + 1 => match l[k]? with | some e => some e.name | none => p
def ltO : Option ByteArray → ByteArray → Bool
  | some b, c => ltN b c
  | none, _ => true
theorem lastN_succ {p : Option ByteArray} {l : List Ent} {k : Nat} {x : Ent} (h : l[k]? = some x) : lastN p l (k + 1) = some x.name := by simp [lastN, h]
theorem entsFrom_cons (p : Option ByteArray) (e : Ent) (r : List Ent) : entsFrom p (e :: r) = (entOk e && ltO p e.name && entsFrom (some e.name) r) := by cases p <;> rfl
theorem entsFrom_succ : ∀ (l : List Ent) (p : Option ByteArray) (k : Nat) (x : Ent), l[k]? = some x → entsFrom p (l.take (k + 1)) = (entsFrom p (l.take k) && (entOk x && ltO (lastN p l k) x.name))
  | [], p, k, x, h => by simp at h
  | e :: r, p, 0, x, h => by
    simp at h; subst h
    simp [entsFrom_cons, entsFrom, lastN]
  | e :: r, p, 1, x, h => by
    have := entsFrom_succ r (some e.name) 0 x (by simpa using h)
    simp only [List.take_succ_cons, entsFrom_cons]
    rw [this]
    simp [entsFrom, lastN, Bool.and_assoc]
  | e :: r, p, k + 2, x, h => by
    have hg : r[k + 1]? = some x := by simpa using h
    have := entsFrom_succ r (some e.name) (k + 1) x hg
    have hk : k < r.length := by have := (List.getElem?_eq_some_iff.1 hg).1; omega
    simp only [List.take_succ_cons, entsFrom_cons] at this ⊢
    rw [this]
    simp [lastN, List.getElem?_eq_getElem hk, Bool.and_assoc]
theorem entsFrom_take : ∀ (l : List Ent) (p : Option ByteArray) (k : Nat), entsFrom p l = true → entsFrom p (l.take k) = true
  | [], p, k, _ => by simp [entsFrom]
  | e :: r, p, 0, _ => rfl
  | e :: r, p, k + 1, h => by
    rw [entsFrom_cons, Bool.and_eq_true] at h
    rw [List.take_succ_cons, entsFrom_cons, h.1, entsFrom_take r _ k h.2]; rfl
theorem ent_no {l : List Ent} {k : Nat} {x : Ent} (h : l[k]? = some x) (hv : (entOk x && ltO (lastN none l k) x.name) = false) : entsOk l = false := by
  cases hh : entsFrom none l
  · simp [entsOk, hh]
  · have := entsFrom_take l none (k + 1) hh
    rw [entsFrom_succ l none k x h, hv, Bool.and_false] at this
    cases this
theorem ent_long {l : List Ent} (h : 3 < l.length) : entsOk l = false := by simp [entsOk]; omega
theorem ent_step {l : List Ent} {k : Nat} {x : Ent} (h : l[k]? = some x) (h0 : entsFrom none (l.take k) = true) (h1 : entOk x = true) (h2 : ltO (lastN none l k) x.name = true) : entsFrom none (l.take (k + 1)) = true := by
  rw [entsFrom_succ l none k x h, h0, h1, h2]; rfl
theorem entOk_no1 {t : ByteArray} {r : Int} (h : wordOk (bs t) = false) (y : Bool) : (entOk ⟨t, r⟩ && y) = false := by simp [entOk, h]
theorem entOk_no2 {t : ByteArray} {r : Int} (h : pv r = false) (y : Bool) : (entOk ⟨t, r⟩ && y) = false := by simp [entOk, h]
theorem entOk_yes {t : ByteArray} {r : Int} (h : wordOk (bs t) = true) (h' : pv r = true) : entOk ⟨t, r⟩ = true := by simp [entOk, h, h']
theorem ltN_eq (a b : ByteArray) : Go.Op.bytesLess a.toList b.toList = ltN a b := by rw [ByteArray.toList_eq, ByteArray.toList_eq]; rfl
theorem bl_total : ∀ (a b : List UInt8), (Go.Op.bytesLess b a || b == a) = !Go.Op.bytesLess a b
  | [], [] => by simp [Go.Op.bytesLess]
  | [], _ :: _ => by simp [Go.Op.bytesLess]
  | _ :: _, [] => by simp [Go.Op.bytesLess]
  | x :: r, y :: s => by
    have ih := bl_total r s
    simp only [Go.Op.bytesLess]
    by_cases h : x = y
    · subst h
      have e1 : (x :: s == x :: r) = (s == r) := by rw [Bool.eq_iff_iff, beq_iff_eq, beq_iff_eq]; simp
      have e2 : decide (x < x) = false := decide_eq_false (UInt8.lt_irrefl x)
      have e3 : (x == x) = true := by simp
      rw [e1, e2, e3, Bool.false_or, Bool.true_and, Bool.false_or, Bool.true_and]
      exact ih
    · by_cases h2 : x < y
      · have h3 : ¬ y < x := fun h4 => absurd (UInt8.lt_trans h2 h4) (UInt8.lt_irrefl _)
        simp [h2, h3, Ne.symm h]
      · have h3 : y < x := by
          rcases UInt8.lt_or_lt_of_ne h with h4 | h4
          · exact absurd h4 h2
          · exact h4
        simp [h, h2, h3]
theorem ltN_total (a b : ByteArray) : (Go.Op.bytesLess b.toList a.toList || b.toList == a.toList) = !ltN a b := by
  rw [ByteArray.toList_eq, ByteArray.toList_eq]; exact bl_total _ _

set_option maxHeartbeats 2000000 in
set_option maxRecDepth 100000 in
theorem impl_EntriesValid_c (v : Value) (xs : List Ent) (w : World) (h : Ents w w.heap.size v xs) :
    Calls Tryd.prog 74 #[v] w fun e w' => e = .returned (.bool (entsOk xs)) ∧ Below w.heap.size w w' := by
  obtain ⟨n, hn⟩ : ∃ n, xs.length = n := ⟨_, rfl⟩
  obtain ⟨a, c, rfl, h1, h2, h3⟩ := h.ents hn
  have HN := hid hn
  clear hn h
  by_cases c1 : 3 < n
  · have HO := hid (ent_long (l := xs) (by rw [HN.out]; exact c1))
    clear h3
    go_enter Tryd.func74, Tryd.ntmps74
    go_wp2
    go_ret
    exact ⟨ret_b HO.out.symm, Below.refl _ _⟩
  · go_enter Tryd.func74, Tryd.ntmps74
    go_wp2
    go_loopw [10] (fun i wr => ∃ k : Nat, k ≤ n ∧ i = .int .i64 k ∧ Hid (entsFrom none (xs.take k) = true) ∧ Below w.heap.size w wr) (fun i _ => n - (intOf i).toNat)
    case atStart => exact ⟨0, Nat.zero_le _, rfl, rfl, Below.refl _ _⟩
    case round =>
      obtain ⟨k, hk, rfl, hall, hb⟩ := hrel
      by_cases hlt : k < n
      · obtain ⟨b, o, t, r, rfl, hbl, hx, k0, k1⟩ := h3 k hlt
        have j0 := (hb.cell (p := ⟨b, o + k * 2, none⟩) hbl).trans k0
        have j1 := (hb.cell (p := ⟨b, o + k * 2 + 1, none⟩) hbl).trans k1
        have HAL : Hid (∀ cs q, Below w.heap.size w ((wr.alloc (.cells cs 45)).drewN q)) := fun cs q => bl_drewN (hb.alloc hb.size _) q
        have HAL0 : Hid (∀ cs, Below w.heap.size w (wr.alloc (.cells cs 45))) := fun cs => hb.alloc hb.size _
        clear k0 k1
        cases ht : wordOk (bs t)
        · have HO := hid (ent_no hx.out (entOk_no1 ht _))
          clear h3
          go_wp2_with (go_at_call 81; refine (impl_WordValid_c _ _).mono ?_; rw [ht]; rintro e w' ⟨rfl, rfl⟩)
          go_ret
          exact ⟨ret_b HO.out.symm, HAL0.out _⟩
        · have HT := hid ht
          clear ht
          cases hp : inB r 0 16777212
          · have HO := hid (ent_no hx.out (entOk_no2 hp _))
            clear h3
            go_wp2_with (first | (go_at_call 81; refine (impl_WordValid_c _ _).mono ?_; rw [HT.out]; rintro e w' ⟨rfl, rfl⟩) | (go_at_call 79; refine (impl_printValid_c _ _).mono ?_; rw [hp]; rintro e w' ⟨rfl, rfl⟩))
            go_ret
            exact ⟨ret_b HO.out.symm, HAL0.out _⟩
          · have HE := hid (entOk_yes HT.out hp)
            have HP := hid hp
            clear hp
            by_cases hk0 : k = 0
            · have hd0 : decide (0 < k) = false := by simp; omega
              have HS := hid (ent_step hx.out hall.out HE.out (by rw [hk0]; rfl))
              clear h3 hk0
              go_wp2_with (first | (go_at_call 81; refine (impl_WordValid_c _ _).mono ?_; rw [HT.out]; rintro e w' ⟨rfl, rfl⟩) | (go_at_call 79; refine (impl_printValid_c _ _).mono ?_; rw [HP.out]; rintro e w' ⟨rfl, rfl⟩))
              go_quiet (fail)
              go_wp2
              go_roundw
              case rel => exact ⟨k + 1, by omega, by go_num, HS.out, HAL.out _ _⟩
              case measure => simp [intOf]; omega
            · obtain ⟨j, hj⟩ : ∃ j, k = j + 1 := ⟨k - 1, by omega⟩
              obtain ⟨b', o', t', r', hbo, hbl', hx', k0', _⟩ := h3 j (by omega)
              simp only [Option.some.injEq, Addr.mk.injEq, and_true] at hbo
              obtain ⟨rfl, rfl⟩ := hbo
              have i0 := (hb.cell (p := ⟨b, o + j * 2, none⟩) hbl').trans k0'
              have i1 : (wr.alloc (.cells #[.string t, .int .i64 r] 45)).cell? ⟨b, o + j * 2, none⟩ = some (.string t') := (((Below.refl wr.heap.size wr).alloc (Nat.le_refl _) _).cell (p := ⟨b, o + j * 2, none⟩) (Nat.lt_of_lt_of_le hbl hb.size)).trans i0
              have hL := lastN_succ (p := none) hx'.out
              rw [← hj] at hL
              have hd0 : decide (0 < k) = true := by simp; omega
              have hkj : (k : Int) - 1 = (j : Int) := by omega
              have hw1 : IntKind.i64.wrap (j : Int) = (j : Int) := IntWalk.i64_in _ (by omega)
              have hjn : (j : Int) < n := by omega
              clear h3 k0' hk0 hj
              cases hlast : ltN t' t
              · have hd1 : Go.Op.bytesLess t'.toList t.toList = false := by rw [ltN_eq]; exact hlast
                have HO := hid (ent_no (l := xs) hx.out (by rw [hL]; simp only [ltO]; rw [hlast, Bool.and_false]))
                clear hlast hL hx'
                go_wp2_with (first | (go_at_call 81; refine (impl_WordValid_c _ _).mono ?_; rw [HT.out]; rintro e w' ⟨rfl, rfl⟩) | (go_at_call 79; refine (impl_printValid_c _ _).mono ?_; rw [HP.out]; rintro e w' ⟨rfl, rfl⟩))
                go_quiet (fail)
                go_wp2
                go_ret
                exact ⟨ret_b HO.out.symm, HAL.out _ _⟩
              · have hd1 : Go.Op.bytesLess t'.toList t.toList = true := by rw [ltN_eq]; exact hlast
                have HS := hid (ent_step hx.out hall.out HE.out (by rw [hL]; exact hlast))
                clear hlast hL hx'
                go_wp2_with (first | (go_at_call 81; refine (impl_WordValid_c _ _).mono ?_; rw [HT.out]; rintro e w' ⟨rfl, rfl⟩) | (go_at_call 79; refine (impl_printValid_c _ _).mono ?_; rw [HP.out]; rintro e w' ⟨rfl, rfl⟩))
                go_quiet (fail)
                go_wp2
                go_roundw
                case rel => exact ⟨k + 1, by omega, by go_num, HS.out, HAL.out _ _⟩
                case measure => simp [intOf]; omega
      · have hall' := hall.out
        rw [take_all HN.out (show n ≤ k by omega)] at hall'
        have HO := hid (show entsOk xs = true by unfold entsOk; rw [hall', HN.out]; simp; omega)
        clear hall' h3
        go_wp2
        go_ret
        exact ⟨ret_b HO.out.symm, hb⟩

theorem spec_WordValid_e (s : ByteArray) (w : World) {x : Bool} (hs : s.size ≤ 4611686018427387904) (h : wordOk (bs s) = x) :
    Calls Tryd.prog 69 #[.string s] w fun e w' => e = .returned (.bool x) ∧ w = w' := h ▸ spec_WordValid_c s w hs

theorem spec_l1In_e (n lo hi : Int) (w : World) {x : Bool} (h : inB n lo hi = x) :
    Calls Tryd.prog 68 #[.int .i64 n, .int .i64 lo, .int .i64 hi] w fun e w' => e = .returned (.bool x) ∧ w = w' := h ▸ spec_l1In_c n lo hi w

set_option maxHeartbeats 2000000 in
set_option maxRecDepth 100000 in
theorem spec_EntriesValid_c (v : Value) (xs : List Ent) (B : Nat) (w : World) (h : Ents w B v xs) (hx0 : ∀ x ∈ xs, x.name.size ≤ 1048576) (hl : xs.length ≤ 1048576) :
    Calls Tryd.prog 60 #[v] w fun e w' => e = .returned (.bool (entsOk xs)) ∧ ∃ q, w' = w.drewN q := by
  obtain ⟨n, hn⟩ : ∃ n, xs.length = n := ⟨_, rfl⟩
  obtain ⟨a, c, rfl, h1, h2, h3⟩ := h.ents hn
  rw [hn] at hl
  have HN := hid hn
  have HX := hid hx0
  clear hn h hx0
  go_enter Tryd.func60, Tryd.ntmps60
  go_wp2
  go_loopw [3] (fun i wr => ∃ k q : Nat, k ≤ n ∧ i = .int .i64 k ∧ Hid (entsFrom none (xs.take k) = true) ∧ wr = w.drewN q) (fun i _ => n - (intOf i).toNat)
  case atStart => exact ⟨0, 0, Nat.zero_le _, rfl, rfl, rfl⟩
  case round =>
    obtain ⟨k, q, hk, rfl, hall, rfl⟩ := hrel
    by_cases hlt : k < n
    · obtain ⟨b, o, t, r, rfl, hbl, hx, k0, k1⟩ := h3 k hlt
      have HTS := hid (show t.size ≤ 4611686018427387904 from Nat.le_trans (HX.out _ (List.mem_of_getElem? hx.out)) (by omega))
      cases ht : wordOk (bs t)
      · have HO := hid (ent_no hx.out (entOk_no1 ht _))
        have HT := hid ht
        clear h3 ht
        go_wp2
        go_quiet (first | (go_at_call 69; exact qsame (spec_WordValid_e _ _ HTS.out HT.out)) | fail)
        go_wp2
        go_ret
        exact ⟨ret_b HO.out.symm, _, World.drewN_drewN _ _ _⟩
      · have HT := hid ht
        clear ht
        cases hp : inB r 0 16777212
        · have HO := hid (ent_no hx.out (entOk_no2 hp _))
          have HP := hid hp
          clear h3 hp
          go_wp2
          go_quiet (first | (go_at_call 69; exact qsame (spec_WordValid_e _ _ HTS.out HT.out)) | (go_at_call 68; exact qsame (spec_l1In_e _ _ _ _ HP.out)))
          go_wp2
          go_ret
          exact ⟨ret_b HO.out.symm, _, World.drewN_drewN _ _ _⟩
        · have HE := hid (entOk_yes HT.out hp)
          have HP := hid hp
          clear hp
          by_cases hk0 : k = 0
          · have hd0 : decide (0 < k) = false := by simp; omega
            have HS := hid (ent_step hx.out hall.out HE.out (by rw [hk0]; rfl))
            clear h3 hk0
            go_wp2
            go_quiet (first | (go_at_call 69; exact qsame (spec_WordValid_e _ _ HTS.out HT.out)) | (go_at_call 68; exact qsame (spec_l1In_e _ _ _ _ HP.out)))
            go_wp2
            go_roundw
            case rel => exact ⟨k + 1, _, by omega, by go_num, HS.out, rfl⟩
            case measure => simp [intOf]; omega
          · obtain ⟨j, hj⟩ : ∃ j, k = j + 1 := ⟨k - 1, by omega⟩
            obtain ⟨b', o', t', r', hbo, hbl', hx', k0', _⟩ := h3 j (by omega)
            simp only [Option.some.injEq, Addr.mk.injEq, and_true] at hbo
            obtain ⟨rfl, rfl⟩ := hbo
            have hL := lastN_succ (p := none) hx'.out
            rw [← hj] at hL
            have hd0 : decide (0 < k) = true := by simp; omega
            have hkj : (k : Int) - 1 = (j : Int) := by omega
            have hw1 : IntKind.i64.wrap (j : Int) = (j : Int) := IntWalk.i64_in _ (by omega)
            have hjn : (j : Int) < n := by omega
            clear h3 hk0 hj
            cases hlast : ltN t' t
            · have hd1 : (Go.Op.bytesLess t.toList t'.toList || t.toList == t'.toList) = true := by rw [ltN_total, hlast]; rfl
              have HO := hid (ent_no (l := xs) hx.out (by rw [hL]; simp only [ltO]; rw [hlast, Bool.and_false]))
              clear hlast hL hx'
              go_wp2
              go_quiet (first | (go_at_call 69; exact qsame (spec_WordValid_e _ _ HTS.out HT.out)) | (go_at_call 68; exact qsame (spec_l1In_e _ _ _ _ HP.out)))
              go_wp2
              go_ret
              exact ⟨ret_b HO.out.symm, _, World.drewN_drewN _ _ _⟩
            · have hd1 : (Go.Op.bytesLess t.toList t'.toList || t.toList == t'.toList) = false := by rw [ltN_total, hlast]; rfl
              have HS := hid (ent_step hx.out hall.out HE.out (by rw [hL]; exact hlast))
              clear hlast hL hx'
              go_wp2
              go_quiet (first | (go_at_call 69; exact qsame (spec_WordValid_e _ _ HTS.out HT.out)) | (go_at_call 68; exact qsame (spec_l1In_e _ _ _ _ HP.out)))
              go_wp2
              go_roundw
              case rel => exact ⟨k + 1, _, by omega, by go_num, HS.out, rfl⟩
              case measure => simp [intOf]; omega
    · have hall' := hall.out
      rw [take_all HN.out (show n ≤ k by omega)] at hall'
      have HO := hid (show entsOk xs = decide ((n : Int) ≤ 3) by unfold entsOk; rw [hall', HN.out]; simp; omega)
      clear hall' h3
      go_wp2
      go_ret
      exact ⟨ret_b HO.out.symm, q, rfl⟩

end Go.Proofs.YtkfkcbceoekgjaaDoor
