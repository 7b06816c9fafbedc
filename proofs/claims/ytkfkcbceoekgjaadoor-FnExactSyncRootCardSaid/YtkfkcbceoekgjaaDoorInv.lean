/- A region that draws its order, held by an invariant: of the world, and of each operation what its slot holds. Whatever the order, each operation is looked at once. No program in sight. -/
import Derived.Test.YtkfkcbceoekgjaaDoorBase
import Derived.StillTail
import Derived.Deep.QuietTactic
namespace Go.Proofs.YtkfkcbceoekgjaaDoor
open Go.RowKit

theorem exists_least {p : Nat → Prop} (h : ∃ i, p i) : ∃ i, p i ∧ ∀ j, j < i → ¬ p j := by
  obtain ⟨i, hi⟩ := h
  induction i using Nat.strongRecOn with
  | _ i ih =>
    by_cases hex : ∃ j, j < i ∧ p j
    · obtain ⟨j, hj, hp⟩ := hex
      exact ih j hj hp
    · exact ⟨i, hi, fun j hj hp => hex ⟨j, hj, hp⟩⟩

section
variable {P : Program} {ops : Array Oper}

/-- No guard, no defer, and each operation's slot its own. -/
def plainB (ops : Array Oper) : Bool :=
  (List.range ops.size).all fun i => match ops[i]? with
    | some o => o.guard.isNone && (List.range ops.size).all fun j => j == i || (match ops[j]?, o.dst with | some o', some t => o'.dst != some t | _, _ => true)
    | none => true

theorem plainB_spec (h : plainB ops = true) {i : Nat} {o : Oper} (hi : ops[i]? = some o) : o.guard = none ∧ ∀ j o' t, ops[j]? = some o' → j ≠ i → o.dst = some t → o'.dst ≠ some t := by
  have hlt := (Array.getElem?_eq_some_iff.1 hi).1
  have h1 := List.all_eq_true.1 h i (List.mem_range.2 hlt)
  simp only [hi, Bool.and_eq_true, Option.isNone_iff_eq_none] at h1
  refine ⟨h1.1, fun j o' t hj hne ht => ?_⟩
  have hjl := (Array.getElem?_eq_some_iff.1 hj).1
  have h2 := List.all_eq_true.1 h1.2 j (List.mem_range.2 hjl)
  simp only [hj, ht, Bool.or_eq_true, beq_iff_eq, bne_iff_ne] at h2
  exact h2.resolve_left hne

/-- The slot that operation i writes. -/
def slotOf (ops : Array Oper) (i : Nat) (a : Act) : Value := match (ops[i]?).bind (·.dst) with | some t => a.tmps.getD t undef | none => undef
theorem getD_put (a : Act) (t : Tmp) (v : Value) (u : Tmp) (h : t < a.tmps.size) : (a.put (some t) v).tmps.getD u undef = if u = t then v else a.tmps.getD u undef := by
  unfold Act.put
  simp only [Array.getD_eq_getD_getElem?, Array.getElem?_setIfInBounds]
  by_cases hu : u = t
  · subst hu; simp [h]
  · simp [hu, Ne.symm hu]

/-- Slot t is as it was as long as i is not done: whatever writes it is i, or waits for i. -/
def freshB (ops : Array Oper) (i t : Nat) : Bool := (List.range ops.size).all fun j => match ops[j]? with
  | some o => o.dst != some t || j == i || Region.waitsFor .any ops j i
  | none => true
/-- No operation writes slot t. -/
def looseB (ops : Array Oper) (t : Nat) : Bool := ops.all fun o => o.dst != some t
/-- Edges lead back. -/
def backB (ops : Array Oper) : Bool := (List.range ops.size).all fun i => match ops[i]? with
  | some o => o.after.all fun e => !Region.binds .any e || decide (e.on < i)
  | none => true

theorem count_step (listed : Array Bool) (i : Nat) (h : listed.getD i true = false) : (listed.setIfInBounds i true).toList.count false + 1 = listed.toList.count false := by
  have hi : i < listed.size := by
    by_cases hlt : i < listed.size
    · exact hlt
    · rw [Array.getD_eq_getD_getElem?, Array.getElem?_eq_none (by omega)] at h; simp at h
  have hv : listed[i] = false := by
    rw [Array.getD_eq_getD_getElem?, Array.getElem?_eq_getElem hi] at h; simpa using h
  have hm : false ∈ listed.toList := by rw [← hv]; simp
  have hpos := List.count_pos_iff.2 hm
  have hv' : listed.toList[i]'(by simpa using hi) = false := by simpa using hv
  rw [Array.toList_setIfInBounds, List.count_set (by simpa using hi), hv']
  simp only [beq_self_eq_true, if_true, show (true == false) = false from rfl, Bool.false_eq_true, if_false]
  omega

theorem wp_region_inv {id : Nat} {Q : Exit → Act → World → Prop} {a0 : Act} {w0 : World} (hm : P.follows .mixedOrders = true) (hp : plainB ops = true) (hback : backB ops = true)
    (hdst : (ops.all fun o => match o.dst with | some t => decide (t < a0.tmps.size) | none => true) = true)
    (J : Nat → World → Prop) (S : World → World → Prop) (F : Nat → Value → World → Prop) (hJ : J 0 w0.drew) (hF : ∀ i v w w', S w w' → F i v w → F i v w')
    (hop : ∀ (i : Nat) (o : Oper), ops[i]? = some o → ∀ (n : Nat) (a : Act) (w : World), n < ops.size → J n w →
      (∀ t, freshB ops i t = true → a.tmps.getD t undef = a0.tmps.getD t undef) →
      (∀ e ∈ o.after, Region.binds .any e = true → F e.on (slotOf ops e.on a) w) →
      o.wp P a w (fun a' w' => ∃ v, a' = a.put o.dst v ∧ J (n + 1) w' ∧ S w w' ∧ F i (if o.dst.isSome then v else undef) w') Q)
    (hend : ∀ (a : Act) (w : World), J ops.size w → a.tmps.size = a0.tmps.size → a.defers = a0.defers → (∀ t, looseB ops t = true → a.tmps.getD t undef = a0.tmps.getD t undef) → (∀ (i : Nat) (o : Oper), ops[i]? = some o → F i (slotOf ops i a) w) → Q .normal a w) :
    (Code.region id ops true).wp P Q a0 w0 := by
  refine wp_region_any hm ?_
  have hdst' : ∀ (i : Nat) (o : Oper) (t : Tmp), ops[i]? = some o → o.dst = some t → t < a0.tmps.size := by
    intro i o t hi ht
    have hlt := (Array.getElem?_eq_some_iff.1 hi)
    obtain ⟨hlt, he⟩ := hlt
    have h1 := Array.all_eq_true.1 hdst i hlt
    rw [he, ht] at h1
    exact of_decide_eq_true h1
  have hback' : ∀ (i : Nat) (o : Oper), ops[i]? = some o → ∀ e ∈ o.after, Region.binds .any e = true → e.on < i := by
    intro i o hi e he hbe
    have h1 := List.all_eq_true.1 hback i (List.mem_range.2 (Array.getElem?_eq_some_iff.1 hi).1)
    simp only [hi] at h1
    obtain ⟨k, hk, hke⟩ := Array.getElem_of_mem he
    have h2 := Array.all_eq_true.1 h1 k hk
    rw [hke, hbe] at h2
    exact of_decide_eq_true (by simpa using h2)
  suffices H : ∀ (f n : Nat) (listed : Array Bool) (a : Act) (w : World), listed.size = ops.size → listed.toList.count false = f → n + f = ops.size → J n w → a.tmps.size = a0.tmps.size → a.defers = a0.defers →
      (∀ j o, ops[j]? = some o → listed.getD j false = true → ∀ e ∈ o.after, Region.binds .any e = true → listed.getD e.on false = true) →
      (∀ t, (∀ (i : Nat) (o : Oper), ops[i]? = some o → listed.getD i false = true → o.dst ≠ some t) → a.tmps.getD t undef = a0.tmps.getD t undef) →
      (∀ (i : Nat) (o : Oper), ops[i]? = some o → listed.getD i false = true → F i (slotOf ops i a) w) → wpAny P .any ops Q f listed a w by
    refine H _ 0 _ _ _ (by simp) (by simp) (by simp) hJ rfl rfl ?_ ?_ ?_
    · intro j o _ h; rw [getD_replicate_false] at h; cases h
    · intro t _; rfl
    · intro i o _ h; rw [getD_replicate_false] at h; cases h
  intro f
  induction f with
  | zero =>
    intro n listed a w hs hc hnf hj hsz hdf _ hsame hhold
    obtain rfl : n = ops.size := by omega
    have hall : ∀ i, i < ops.size → listed.getD i false = true := by
      intro i hi
      have hnot : false ∉ listed.toList := List.count_eq_zero.1 hc
      rw [Array.getD_eq_getD_getElem?, Array.getElem?_eq_getElem (by omega)]
      simp only [Option.getD_some]
      cases hv : listed[i]'(by omega) with
      | true => rfl
      | false => exact absurd (by rw [← hv]; simp) hnot
    refine ⟨?_, hend a w hj hsz hdf (fun t ht => hsame t fun i o hi _ => ?_) (fun i o hi => hhold i o hi (hall i (Array.getElem?_eq_some_iff.1 hi).1))⟩
    · rw [List.eq_nil_iff_forall_not_mem]
      intro i hi
      obtain ⟨h1, o, ho, _⟩ := mem_ready.1 hi
      have h2 := hall i (Array.getElem?_eq_some_iff.1 ho).1
      rw [Array.getD_eq_getD_getElem?, Array.getElem?_eq_getElem (by have := (Array.getElem?_eq_some_iff.1 ho).1; omega)] at h1 h2
      simp only [Option.getD_some] at h1 h2
      rw [h1] at h2; cases h2
    · have hl := Array.all_eq_true.1 ht i (Array.getElem?_eq_some_iff.1 hi).1
      rw [(Array.getElem?_eq_some_iff.1 hi).2] at hl
      simpa using hl
  | succ f ih =>
    intro n listed a w hs hc hnf hj hsz hdf hcl hsame hhold
    refine ⟨fun h0 => ?_, fun i hi => ?_⟩
    · exfalso
      have hmem : false ∈ listed.toList := List.count_pos_iff.1 (by omega)
      have hex : ∃ i, i < ops.size ∧ listed.getD i true = false := by
        obtain ⟨k, hk, hke⟩ := List.getElem_of_mem hmem
        refine ⟨k, by simpa [hs] using hk, ?_⟩
        rw [Array.getD_eq_getD_getElem?, Array.getElem?_eq_getElem (by simpa using hk)]
        simpa using hke
      obtain ⟨i, ⟨hi, hf⟩, hmin⟩ := exists_least hex
      have hr : i ∈ Region.ready .any ops listed := mem_ready.2 ⟨hf, ops[i], Array.getElem?_eq_getElem hi, fun e he hbe => by
        have hlt := hback' i _ (Array.getElem?_eq_getElem hi) e he hbe
        have := hmin e.on hlt
        rw [Array.getD_eq_getD_getElem?, Array.getElem?_eq_getElem (by omega)] at this ⊢
        simp only [Option.getD_some] at this ⊢
        cases hv : listed[e.on]'(by omega) with
        | true => rfl
        | false => exact absurd ⟨by omega, hv⟩ this⟩
      rw [h0] at hr; cases hr
    · obtain ⟨hun, o, ho, hdeps⟩ := mem_ready.1 hi
      have hil : i < listed.size := by rw [hs]; exact (Array.getElem?_eq_some_iff.1 ho).1
      have hunf : listed.getD i false = false := by
        rw [Array.getD_eq_getD_getElem?, Array.getElem?_eq_getElem hil] at hun ⊢
        simpa using hun
      obtain ⟨hgu, hslot⟩ := plainB_spec hp ho
      unfold wpOp
      simp only [ho]
      rw [if_pos (by simp [Region.wanted, hgu])]
      refine .inl (Oper.wp_mono ?_ (hop i o ho n a w (by omega) hj (fun t ht => hsame t fun j o' hj' hl => ?_) (fun e he hbe => ?_)))
      · rintro a' w' ⟨v, rfl, hj', hS, hF'⟩
        have hother : ∀ j o', ops[j]? = some o' → j ≠ i → slotOf ops j (a.put o.dst v) = slotOf ops j a := by
          intro j o' hj2 hne
          unfold slotOf
          rw [hj2]
          cases ht : o'.dst with
          | none => simp [ht]
          | some t =>
            simp only [Option.bind_some, ht]
            cases hd : o.dst with
            | none => simp [Act.put]
            | some u =>
              rw [getD_put _ _ _ _ (by rw [hsz]; exact hdst' i o u ho hd), if_neg]
              rintro rfl
              exact hslot j o' _ hj2 hne hd ht
        have hget : ∀ j, (listed.setIfInBounds i true).getD j false = true → j = i ∨ listed.getD j false = true := by
          intro j hjl
          by_cases hji : j = i
          · exact .inl hji
          · right
            rw [Array.getD_eq_getD_getElem?, Array.getElem?_setIfInBounds_ne (Ne.symm hji)] at hjl
            rw [Array.getD_eq_getD_getElem?]; exact hjl
        have hget' : ∀ j, listed.getD j false = true → (listed.setIfInBounds i true).getD j false = true := by
          intro j hjl
          by_cases hji : j = i
          · rw [hji] at hjl; rw [hunf] at hjl; cases hjl
          · rw [Array.getD_eq_getD_getElem?, Array.getElem?_setIfInBounds_ne (Ne.symm hji)]
            rw [Array.getD_eq_getD_getElem?] at hjl; exact hjl
        refine ih (n + 1) _ _ _ (by simpa using hs) (by have := count_step listed i hun; omega) (by omega) hj' ?_ ?_ ?_ ?_ ?_
        · unfold Act.put; cases o.dst <;> simp [hsz]
        · unfold Act.put; cases o.dst <;> simp [hdf]
        · intro j oj hoj hl e he hbe
          rcases hget j hl with rfl | hl
          · obtain rfl : oj = o := Option.some.inj (hoj.symm.trans ho)
            exact hget' _ (hdeps e he hbe)
          · exact hget' _ (hcl j oj hoj hl e he hbe)
        · intro t ht
          have hne : o.dst ≠ some t := ht i o ho (by rw [Array.getD_eq_getD_getElem?, Array.getElem?_setIfInBounds_self_of_lt hil]; rfl)
          rw [← hsame t (fun j oj hoj hl => ht j oj hoj (hget' j hl))]
          cases hd : o.dst with
          | none => simp [Act.put]
          | some u =>
            rw [getD_put _ _ _ _ (by rw [hsz]; exact hdst' i o u ho hd), if_neg]
            rintro rfl
            exact hne hd
        · intro j oj hoj hl
          by_cases hji : j = i
          · subst hji
            obtain rfl : oj = o := Option.some.inj (hoj.symm.trans ho)
            have : slotOf ops j (a.put oj.dst v) = if oj.dst.isSome then v else undef := by
              unfold slotOf
              rw [hoj]
              cases hd : oj.dst with
              | none => simp [hd]
              | some u =>
                simp only [Option.bind_some, hd]
                rw [getD_put _ _ _ _ (by rw [hsz]; exact hdst' j oj u hoj hd)]
                simp
            rw [this]; exact hF'
          · rw [hother j oj hoj hji]
            rcases hget j hl with h | hl
            · exact absurd h hji
            · exact hF j _ w w' hS (hhold j oj hoj hl)
      · have h1 := List.all_eq_true.1 ht j (List.mem_range.2 (Array.getElem?_eq_some_iff.1 hj').1)
        simp only [hj', Bool.or_eq_true, bne_iff_ne, beq_iff_eq] at h1
        rcases h1 with (h1 | h1) | h1
        · exact h1
        · subst h1; rw [hunf] at hl; cases hl
        · obtain ⟨o2, ho2, x, hx, hxb, hon⟩ := Region.waitsFor_spec h1
          obtain rfl : o2 = o' := Option.some.inj (ho2.symm.trans hj')
          have := hcl j o2 hj' hl x hx hxb
          rw [hon, hunf] at this; cases this
      · have hd := hdeps e he hbe
        have hlt := hback' i o ho e he hbe
        exact hhold e.on ops[e.on] (Array.getElem?_eq_getElem (by have := (Array.getElem?_eq_some_iff.1 ho).1; omega)) hd
end
end Go.Proofs.YtkfkcbceoekgjaaDoor
