/- Walks and plain facts, joined: Word, CacheP, ExI, InvG. -/
import Derived.Test.YtachfmlfmpaddaaGreatDoorMg2
set_option linter.unusedVariables false
set_option linter.unusedSimpArgs false

/- Walks: words, and the fixed answer. -/
namespace Go.Proofs.YtachfmlfmpaddaaGreatDoor
open Go.RowKit

/-- The bytes of a string. -/
abbrev bs (s : ByteArray) : List UInt8 := s.data.toList
def isDig (c : Int) : Bool := inB c 48 57
def isSm (c : Int) : Bool := inB c 97 122
def wordCh (c : UInt8) : Bool := isSm c.toNat || isDig c.toNat
def wordOk (l : List UInt8) : Bool := decide (1 ≤ l.length) && decide (l.length ≤ 8) && !(l.head?.any fun c => isDig c.toNat) && l.all wordCh

set_option maxHeartbeats 400000 in
theorem impl_isDigit_c (c : Int) (w : World) :
    Calls Tryz.prog 125 #[.int .u8 c] w fun e w' => e = .returned (.bool (isDig c)) ∧ w = w' := by
  by_cases h : 48 ≤ c
  all_goals
    go_enter Tryz.func125, Tryz.ntmps125
    go_wp2
    go_ret
    exact ⟨ret_b (by simp [isDig, inB]; omega), rfl⟩

set_option maxHeartbeats 400000 in
theorem impl_isSmall_c (c : Int) (w : World) :
    Calls Tryz.prog 126 #[.int .u8 c] w fun e w' => e = .returned (.bool (isSm c)) ∧ w = w' := by
  by_cases h : 97 ≤ c
  all_goals
    go_enter Tryz.func126, Tryz.ntmps126
    go_wp2
    go_ret
    exact ⟨ret_b (by simp [isSm, inB]; omega), rfl⟩

set_option maxHeartbeats 400000 in
theorem impl_WordValid_c (s : ByteArray) (w : World) :
    Calls Tryz.prog 63 #[.string s] w fun e w' => e = .returned (.bool (wordOk (bs s))) ∧ w = w' := by
  by_cases h1 : s.size < 1
  · go_enter Tryz.func63, Tryz.ntmps63
    go_wp2
    go_ret
    exact ⟨ret_b (by simp [wordOk]; omega), rfl⟩
  · by_cases h2 : 8 < s.size
    · go_enter Tryz.func63, Tryz.ntmps63
      go_wp2
      go_ret
      exact ⟨ret_b (by simp [wordOk]; omega), rfl⟩
    · have h0 : 0 < s.size := by omega
      have hh : Hid ((bs s).head? = some s[0]) := by
        unfold Hid bs
        rw [List.head?_eq_getElem?, List.getElem?_eq_getElem (by simpa using h0)]
        simp [ByteArray.getElem_eq_getElem_data]
      cases hd : isDig (s[0].toNat : Int)
      · go_enter Tryz.func63, Tryz.ntmps63
        go_wp2_with (go_at_call 125; refine (impl_isDigit_c _ _).mono ?_; rintro e w' ⟨rfl, rfl⟩)
        have HD := hid hd
        clear hd
        go_loop [3] (fun i => ∃ k : Nat, k ≤ s.size ∧ i = .int .i64 k ∧ Hid (((bs s).take k).all wordCh = true)) (fun i => s.size - (intOf i).toNat)
        case atStart => exact ⟨0, Nat.zero_le _, rfl, rfl⟩
        case round =>
          obtain ⟨k, hk, rfl, hall⟩ := hrel
          by_cases hlt : k < s.size
          · have hx : Hid ((bs s)[k]? = some s[k]) := by
              unfold Hid bs
              rw [List.getElem?_eq_getElem (by simpa using hlt)]
              simp [ByteArray.getElem_eq_getElem_data]
            cases c1 : isSm (s[k].toNat : Int)
            · cases c2 : isDig (s[k].toNat : Int)
              · have HN := hid (all_no wordCh hx.out (show wordCh s[k] = false by simp [wordCh, c1, c2]))
                go_wp2_with (first | (go_at_call 125; refine (impl_isDigit_c _ _).mono ?_; rintro e w' ⟨rfl, rfl⟩) | (go_at_call 126; refine (impl_isSmall_c _ _).mono ?_; rintro e w' ⟨rfl, rfl⟩))
                go_ret
                exact ⟨ret_b (by unfold wordOk; rw [HN.out]; simp), rfl⟩
              · have HY := hid (show wordCh s[k] = true by simp [wordCh, c2])
                go_wp2_with (first | (go_at_call 125; refine (impl_isDigit_c _ _).mono ?_; rintro e w' ⟨rfl, rfl⟩) | (go_at_call 126; refine (impl_isSmall_c _ _).mono ?_; rintro e w' ⟨rfl, rfl⟩))
                go_round
                case rel => exact ⟨k + 1, by omega, by go_num, by unfold Hid; rw [all_succ wordCh hx.out, hall.out, HY.out]; rfl⟩
                case measure => simp [intOf]; omega
            · have HY := hid (show wordCh s[k] = true by simp [wordCh, c1])
              go_wp2_with (first | (go_at_call 125; refine (impl_isDigit_c _ _).mono ?_; rintro e w' ⟨rfl, rfl⟩) | (go_at_call 126; refine (impl_isSmall_c _ _).mono ?_; rintro e w' ⟨rfl, rfl⟩))
              go_round
              case rel => exact ⟨k + 1, by omega, by go_num, by unfold Hid; rw [all_succ wordCh hx.out, hall.out, HY.out]; rfl⟩
              case measure => simp [intOf]; omega
          · have e := take_all (xs := bs s) (n := s.size) (by simp) (show s.size ≤ k by omega)
            have hall' := hall.out
            rw [e] at hall'
            have HA := hid hall'
            clear e hall' hall
            go_wp2
            go_ret
            exact ⟨ret_b (by have := HD.out; simp [wordOk, hh.out, this, HA.out]; omega), rfl⟩
      · have HD := hid hd
        go_enter Tryz.func63, Tryz.ntmps63
        go_wp2_with (go_at_call 125; refine (impl_isDigit_c _ _).mono ?_; rintro e w' ⟨rfl, rfl⟩)
        go_ret
        exact ⟨ret_b (by have := HD.out; simp [wordOk, hh.out, this]), rfl⟩

set_option maxHeartbeats 400000 in
theorem laws_alive_c (w : World) : Calls Tryz.prog 21 #[] w fun e w' => e = .returned (.bool true) ∧ w = w' := by
  have e1 : wordOk (bs ⟨#[97, 49]⟩) = true := by decide
  have e2 : wordOk (bs ⟨#[49, 97]⟩) = false := by decide
  go_enter Tryz.func21, Tryz.ntmps21
  go_wp2_with (go_at_call 63; refine (impl_WordValid_c _ _).mono ?_; rintro e w' ⟨rfl, rfl⟩)
  go_ret
  exact ⟨rfl, rfl⟩

end Go.Proofs.YtachfmlfmpaddaaGreatDoor

/- Plain facts on caches of prints. No program in sight. -/
namespace Go.Proofs.YtachfmlfmpaddaaGreatDoor
open Go.RowKit

def hasI (l : List Int) (n : Int) : Bool := decide (n ∈ l)
theorem hasI_iff {l : List Int} {n : Int} : hasI l n = true ↔ n ∈ l := by simp [hasI]
theorem hasI_no {l : List Int} {n : Int} : hasI l n = false ↔ n ∉ l := by simp [hasI]
theorem hasI_get {l : List Int} {n : Int} {k : Nat} (h : l[k]? = some n) : hasI l n = true := hasI_iff.2 (List.mem_of_getElem? h)
theorem hasI_succ {l : List Int} {n x : Int} {k : Nat} (h : l[k]? = some x) (hx : x ≠ n) (hn : hasI (l.take k) n = false) : hasI (l.take (k + 1)) n = false := by
  rw [hasI_no] at hn ⊢
  rw [take_snoc' h, List.mem_append, List.mem_singleton]
  rintro (h' | h')
  · exact hn h'
  · exact hx h'.symm

def others (p : Int) (l : List Int) : List Int := l.filter (· != p)
/-! ### Many uses -/
end Go.Proofs.YtachfmlfmpaddaaGreatDoor

/- Walks of the exact laws' own helpers at slices of numbers and bools: copies, comparisons, marks. -/
namespace Go.Proofs.YtachfmlfmpaddaaGreatDoor
open Go.RowKit


/-- The marks k, k + 1, .. -/
def marks (k : Int) (n : Nat) : List Int := (List.range n).map fun (j : Nat) => k + j
end Go.Proofs.YtachfmlfmpaddaaGreatDoor

/- A region that draws its order and has guards that all let through, held by an invariant. No program in sight. -/
namespace Go.Proofs.YtachfmlfmpaddaaGreatDoor
open Go.RowKit

section
variable {P : Program} {ops : Array Oper}
/-- Each operation's slot is its own. -/
def plainG (ops : Array Oper) : Bool :=
  (List.range ops.size).all fun i => match ops[i]? with
    | some o => (List.range ops.size).all fun j => j == i || (match ops[j]?, o.dst with | some o', some t => o'.dst != some t | _, _ => true)
    | none => true
theorem plainG_spec (h : plainG ops = true) {i : Nat} {o : Oper} (hi : ops[i]? = some o) : ∀ (j : Nat) (o' : Oper) (t : Tmp), ops[j]? = some o' → j ≠ i → o.dst = some t → o'.dst ≠ some t := by
  have hlt := (Array.getElem?_eq_some_iff.1 hi).1
  have h1 := List.all_eq_true.1 h i (List.mem_range.2 hlt)
  simp only [hi] at h1
  intro j o' t hj hne ht
  have hjl := (Array.getElem?_eq_some_iff.1 hj).1
  have h2 := List.all_eq_true.1 h1 j (List.mem_range.2 hjl)
  simp only [hj, ht, Bool.or_eq_true, beq_iff_eq, bne_iff_ne] at h2
  exact h2.resolve_left hne
/-- A guarded operation waits for its guard. -/
def guardB (ops : Array Oper) : Bool := (List.range ops.size).all fun i => match ops[i]? with
  | some o => (match o.guard with
    | some (d, _) => (o.after.any fun e => e.on == d && Region.binds .any e) && (match ops[d]? with | some od => od.dst.isSome | none => false)
    | none => true)
  | none => true
theorem guardB_spec (h : guardB ops = true) {i : Nat} {o : Oper} {d : Nat} {b : Bool} (hi : ops[i]? = some o) (hg : o.guard = some (d, b)) :
    ∃ e ∈ o.after, e.on = d ∧ Region.binds .any e = true ∧ ∃ od, ops[d]? = some od ∧ ∃ t, od.dst = some t := by
  have h1 := List.all_eq_true.1 h i (List.mem_range.2 (Array.getElem?_eq_some_iff.1 hi).1)
  simp only [hi, hg, Bool.and_eq_true] at h1
  obtain ⟨k, hk, hke⟩ := Array.any_eq_true.1 h1.1
  simp only [Bool.and_eq_true, beq_iff_eq] at hke
  refine ⟨o.after[k], Array.getElem_mem hk, hke.1, hke.2, ?_⟩
  cases hod : ops[d]? with
  | none => rw [hod] at h1; simp at h1
  | some od =>
    rw [hod] at h1
    have h3 := h1.2
    simp only at h3
    obtain ⟨t, ht⟩ := Option.isSome_iff_exists.1 h3
    exact ⟨od, rfl, t, ht⟩

end
end Go.Proofs.YtachfmlfmpaddaaGreatDoor
