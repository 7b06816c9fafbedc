/- Walks and plain facts, joined: InvG, InvD, ExI, Mark, ExS, Wrt1, PutE, DropE, PcO. -/
import Derived.Test.YtfdhaigmekmboaaDoorMg1
import Derived.Test.YtfdhaigmekmboaaDoorMg2
import Derived.Test.YtfdhaigmekmboaaDoorMg3
import Derived.Laws.CopyRow
import Derived.Lib.AppendZerosOnto
import Derived.Shelf.RegionOpenPlain
import Derived.Shelf.Spec.SlicesInsert
set_option linter.unusedVariables false

/- A region that draws its order and has guards that all let through, held by an invariant. No program in sight. -/
namespace Go.Proofs.YtfdhaigmekmboaaDoor
open Go.RowKit

section
variable {P : Program} {ops : Array Oper}
/-- Each operation's slot is its own. -/
def plainG (ops : Array Oper) : Bool :=
  (List.range ops.size).all fun i => match ops[i]? with
    | some o => (List.range ops.size).all fun j => j == i || (match ops[j]?, o.dst with | some o', some t => o'.dst != some t | _, _ => true)
    | none => true
theorem plainG_spec (h : plainG ops = true) {i : Nat} {o : Oper} (hi : ops[i]? = some o) : ∀ (j : Nat) (o' : Oper) (t : Tmp), ops[j]? = some o' → j ≠ i → o.dst = some t → o'.dst ≠ some t := by
  have hlt := (Array.getElem?_eq_some_iff.1 hi).1
  have h1 := List.all_eq_true.1 h i (List.mem_range.2 hlt)
  simp only [hi] at h1
  intro j o' t hj hne ht
  have hjl := (Array.getElem?_eq_some_iff.1 hj).1
  have h2 := List.all_eq_true.1 h1 j (List.mem_range.2 hjl)
  simp only [hj, ht, Bool.or_eq_true, beq_iff_eq, bne_iff_ne] at h2
  exact h2.resolve_left hne
/-- A guarded operation waits for its guard. -/
def guardB (ops : Array Oper) : Bool := (List.range ops.size).all fun i => match ops[i]? with
  | some o => (match o.guard with
    | some (d, _) => (o.after.any fun e => e.on == d && Region.binds .any e) && (match ops[d]? with | some od => od.dst.isSome | none => false)
    | none => true)
  | none => true
theorem guardB_spec (h : guardB ops = true) {i : Nat} {o : Oper} {d : Nat} {b : Bool} (hi : ops[i]? = some o) (hg : o.guard = some (d, b)) :
    ∃ e ∈ o.after, e.on = d ∧ Region.binds .any e = true ∧ ∃ od, ops[d]? = some od ∧ ∃ t, od.dst = some t := by
  have h1 := List.all_eq_true.1 h i (List.mem_range.2 (Array.getElem?_eq_some_iff.1 hi).1)
  simp only [hi, hg, Bool.and_eq_true] at h1
  obtain ⟨k, hk, hke⟩ := Array.any_eq_true.1 h1.1
  simp only [Bool.and_eq_true, beq_iff_eq] at hke
  refine ⟨o.after[k], Array.getElem_mem hk, hke.1, hke.2, ?_⟩
  cases hod : ops[d]? with
  | none => rw [hod] at h1; simp at h1
  | some od =>
    rw [hod] at h1
    have h3 := h1.2
    simp only at h3
    obtain ⟨t, ht⟩ := Option.isSome_iff_exists.1 h3
    exact ⟨od, rfl, t, ht⟩

theorem wp_region_inv2g {id : Nat} {Q : Exit → Act → World → Prop} {a0 : Act} {w0 : World} (hm : P.follows .mixedOrders = true) (hp : plainG ops = true) (hgB : guardB ops = true) (hback : backB ops = true) (hptr : ptrB ops = true)
    (hdst : (ops.all fun o => match o.dst with | some t => decide (t < a0.tmps.size) | none => true) = true)
    (J : Nat → World → Prop) (S : World → World → Prop) (F : Nat → Value → World → Prop) (hJ : J 0 w0.drew) (hF : ∀ i v w w', S w w' → F i v w → F i v w')
    (hgrd : ∀ (i : Nat) (o : Oper) (d : Nat) (b : Bool), ops[i]? = some o → o.guard = some (d, b) → ∀ v w, F d v w → v = .bool b)
    (hop : ∀ (i : Nat) (o : Oper), ops[i]? = some o → ∀ (n : Nat) (a : Act) (w : World), n < ops.size → J n w →
      (∀ t, freshB ops i t = true → a.tmps.getD t undef = a0.tmps.getD t undef) →
      (∀ e ∈ o.after, Region.binds .any e = true → F e.on (slotOf2 ops e.on a) w) →
      o.wp P a w (fun a' w' => ∃ v, a' = a.put o.dst v ∧ J (n + 1) w' ∧ S w w' ∧ F i (if o.dst.isSome then v else slotOf2 ops i a) w') Q)
    (hend : ∀ (a : Act) (w : World), J ops.size w → a.tmps.size = a0.tmps.size → a.defers = a0.defers → (∀ t, looseB ops t = true → a.tmps.getD t undef = a0.tmps.getD t undef) → (∀ (i : Nat) (o : Oper), ops[i]? = some o → F i (slotOf2 ops i a) w) → Q .normal a w) :
    (Code.region id ops true).wp P Q a0 w0 := by
  refine wp_region_any hm ?_
  have hdst' : ∀ (i : Nat) (o : Oper) (t : Tmp), ops[i]? = some o → o.dst = some t → t < a0.tmps.size := by
    intro i o t hi ht
    have hlt := (Array.getElem?_eq_some_iff.1 hi)
    obtain ⟨hlt, he⟩ := hlt
    have h1 := Array.all_eq_true.1 hdst i hlt
    rw [he, ht] at h1
    exact of_decide_eq_true h1
  have hback' : ∀ (i : Nat) (o : Oper), ops[i]? = some o → ∀ e ∈ o.after, Region.binds .any e = true → e.on < i := by
    intro i o hi e he hbe
    have h1 := List.all_eq_true.1 hback i (List.mem_range.2 (Array.getElem?_eq_some_iff.1 hi).1)
    simp only [hi] at h1
    obtain ⟨k, hk, hke⟩ := Array.getElem_of_mem he
    have h2 := Array.all_eq_true.1 h1 k hk
    rw [hke, hbe] at h2
    exact of_decide_eq_true (by simpa using h2)
  suffices H : ∀ (f n : Nat) (listed : Array Bool) (a : Act) (w : World), listed.size = ops.size → listed.toList.count false = f → n + f = ops.size → J n w → a.tmps.size = a0.tmps.size → a.defers = a0.defers →
      (∀ j o, ops[j]? = some o → listed.getD j false = true → ∀ e ∈ o.after, Region.binds .any e = true → listed.getD e.on false = true) →
      (∀ t, (∀ (i : Nat) (o : Oper), ops[i]? = some o → listed.getD i false = true → o.dst ≠ some t) → a.tmps.getD t undef = a0.tmps.getD t undef) →
      (∀ (i : Nat) (o : Oper), ops[i]? = some o → listed.getD i false = true → F i (slotOf2 ops i a) w) → wpAny P .any ops Q f listed a w by
    refine H _ 0 _ _ _ (by simp) (by simp) (by simp) hJ rfl rfl ?_ ?_ ?_
    · intro j o _ h; rw [getD_replicate_false] at h; cases h
    · intro t _; rfl
    · intro i o _ h; rw [getD_replicate_false] at h; cases h
  intro f
  induction f with
  | zero =>
    intro n listed a w hs hc hnf hj hsz hdf _ hsame hhold
    obtain rfl : n = ops.size := by omega
    have hall : ∀ i, i < ops.size → listed.getD i false = true := by
      intro i hi
      have hnot : false ∉ listed.toList := List.count_eq_zero.1 hc
      rw [Array.getD_eq_getD_getElem?, Array.getElem?_eq_getElem (by omega)]
      simp only [Option.getD_some]
      cases hv : listed[i]'(by omega) with
      | true => rfl
      | false => exact absurd (by rw [← hv]; simp) hnot
    refine ⟨?_, hend a w hj hsz hdf (fun t ht => hsame t fun i o hi _ => ?_) (fun i o hi => hhold i o hi (hall i (Array.getElem?_eq_some_iff.1 hi).1))⟩
    · rw [List.eq_nil_iff_forall_not_mem]
      intro i hi
      obtain ⟨h1, o, ho, _⟩ := mem_ready.1 hi
      have h2 := hall i (Array.getElem?_eq_some_iff.1 ho).1
      rw [Array.getD_eq_getD_getElem?, Array.getElem?_eq_getElem (by have := (Array.getElem?_eq_some_iff.1 ho).1; omega)] at h1 h2
      simp only [Option.getD_some] at h1 h2
      rw [h1] at h2; cases h2
    · have hl := Array.all_eq_true.1 ht i (Array.getElem?_eq_some_iff.1 hi).1
      rw [(Array.getElem?_eq_some_iff.1 hi).2] at hl
      simpa using hl
  | succ f ih =>
    intro n listed a w hs hc hnf hj hsz hdf hcl hsame hhold
    refine ⟨fun h0 => ?_, fun i hi => ?_⟩
    · exfalso
      have hmem : false ∈ listed.toList := List.count_pos_iff.1 (by omega)
      have hex : ∃ i, i < ops.size ∧ listed.getD i true = false := by
        obtain ⟨k, hk, hke⟩ := List.getElem_of_mem hmem
        refine ⟨k, by simpa [hs] using hk, ?_⟩
        rw [Array.getD_eq_getD_getElem?, Array.getElem?_eq_getElem (by simpa using hk)]
        simpa using hke
      obtain ⟨i, ⟨hi, hf⟩, hmin⟩ := exists_least hex
      have hr : i ∈ Region.ready .any ops listed := mem_ready.2 ⟨hf, ops[i], Array.getElem?_eq_getElem hi, fun e he hbe => by
        have hlt := hback' i _ (Array.getElem?_eq_getElem hi) e he hbe
        have := hmin e.on hlt
        rw [Array.getD_eq_getD_getElem?, Array.getElem?_eq_getElem (by omega)] at this ⊢
        simp only [Option.getD_some] at this ⊢
        cases hv : listed[e.on]'(by omega) with
        | true => rfl
        | false => exact absurd ⟨by omega, hv⟩ this⟩
      rw [h0] at hr; cases hr
    · obtain ⟨hun, o, ho, hdeps⟩ := mem_ready.1 hi
      have hil : i < listed.size := by rw [hs]; exact (Array.getElem?_eq_some_iff.1 ho).1
      have hunf : listed.getD i false = false := by
        rw [Array.getD_eq_getD_getElem?, Array.getElem?_eq_getElem hil] at hun ⊢
        simpa using hun
      have hslot := plainG_spec hp ho
      have hwant : Region.wanted o (yielded ops a.tmps) = true := by
        unfold Region.wanted
        cases hgd : o.guard with
        | none => rfl
        | some db =>
          obtain ⟨d, b⟩ := db
          obtain ⟨e, he, hed, hbe, od, hod, t, ht⟩ := guardB_spec hgB ho hgd
          have hl := hdeps e he hbe
          rw [hed] at hl
          have hv := hgrd i o d b ho hgd _ _ (hhold d od hod hl)
          have hs2 : slotOf2 ops d a = a.tmps.getD t undef := by unfold slotOf2; rw [hod]; simp [refOf, ht]
          rw [hs2] at hv
          have hy : yielded ops a.tmps d = some b := by
            unfold yielded
            rw [hod]
            simp only [Option.bind_some, ht]
            rw [Array.getD_eq_getD_getElem?] at hv
            cases hx : a.tmps[t]? with
            | none => rw [hx] at hv; simp [undef] at hv
            | some x => rw [hx] at hv; simp at hv; rw [hv]
          simp [hy]
      unfold wpOp
      simp only [ho]
      rw [if_pos hwant]
      refine .inl (Oper.wp_mono ?_ (hop i o ho n a w (by omega) hj (fun t ht => hsame t fun j o' hj' hl => ?_) (fun e he hbe => ?_)))
      · rintro a' w' ⟨v, rfl, hj', hS, hF'⟩
        have hother : ∀ j o', ops[j]? = some o' → j ≠ i → listed.getD j false = true → slotOf2 ops j (a.put o.dst v) = slotOf2 ops j a := by
          intro j o' hj2 hne hl
          unfold slotOf2
          rw [hj2]
          simp only [Option.bind_some]
          cases ht : refOf o' with
          | none => simp
          | some t =>
            simp only
            cases hd : o.dst with
            | none => simp [Act.put]
            | some u =>
              rw [getD_put _ _ _ _ (by rw [hsz]; exact hdst' i o u ho hd), if_neg]
              rintro rfl
              cases hod : o'.dst with
              | some t' =>
                simp only [refOf, hod, Option.some.injEq] at ht
                subst ht
                exact hslot j o' _ hj2 hne hd hod
              | none =>
                simp only [refOf, hod] at ht
                rcases ptrB_spec hptr hj2 hod ht with hall | ⟨e, he, hbe, o2, ho2, hd2⟩
                · exact hall i o ho hd
                · have hle := hcl j o' hj2 hl e he hbe
                  have hei : e.on ≠ i := by rintro h; rw [h, hunf] at hle; cases hle
                  exact hslot e.on o2 _ ho2 hei hd hd2
        have hget : ∀ j, (listed.setIfInBounds i true).getD j false = true → j = i ∨ listed.getD j false = true := by
          intro j hjl
          by_cases hji : j = i
          · exact .inl hji
          · right
            rw [Array.getD_eq_getD_getElem?, Array.getElem?_setIfInBounds_ne (Ne.symm hji)] at hjl
            rw [Array.getD_eq_getD_getElem?]; exact hjl
        have hget' : ∀ j, listed.getD j false = true → (listed.setIfInBounds i true).getD j false = true := by
          intro j hjl
          by_cases hji : j = i
          · rw [hji] at hjl; rw [hunf] at hjl; cases hjl
          · rw [Array.getD_eq_getD_getElem?, Array.getElem?_setIfInBounds_ne (Ne.symm hji)]
            rw [Array.getD_eq_getD_getElem?] at hjl; exact hjl
        refine ih (n + 1) _ _ _ (by simpa using hs) (by have := count_step listed i hun; omega) (by omega) hj' ?_ ?_ ?_ ?_ ?_
        · unfold Act.put; cases o.dst <;> simp [hsz]
        · unfold Act.put; cases o.dst <;> simp [hdf]
        · intro j oj hoj hl e he hbe
          rcases hget j hl with rfl | hl
          · obtain rfl : oj = o := Option.some.inj (hoj.symm.trans ho)
            exact hget' _ (hdeps e he hbe)
          · exact hget' _ (hcl j oj hoj hl e he hbe)
        · intro t ht
          have hne : o.dst ≠ some t := ht i o ho (by rw [Array.getD_eq_getD_getElem?, Array.getElem?_setIfInBounds_self_of_lt hil]; rfl)
          rw [← hsame t (fun j oj hoj hl => ht j oj hoj (hget' j hl))]
          cases hd : o.dst with
          | none => simp [Act.put]
          | some u =>
            rw [getD_put _ _ _ _ (by rw [hsz]; exact hdst' i o u ho hd), if_neg]
            rintro rfl
            exact hne hd
        · intro j oj hoj hl
          by_cases hji : j = i
          · subst hji
            obtain rfl : oj = o := Option.some.inj (hoj.symm.trans ho)
            have : slotOf2 ops j (a.put oj.dst v) = if oj.dst.isSome then v else slotOf2 ops j a := by
              cases hd : oj.dst with
              | none => simp [Act.put]
              | some u =>
                unfold slotOf2
                rw [hoj]
                simp only [Option.bind_some, refOf, hd]
                rw [getD_put _ _ _ _ (by rw [hsz]; exact hdst' j oj u hoj hd)]
                simp
            rw [this]; exact hF'
          · rcases hget j hl with h | hl
            · exact absurd h hji
            · rw [hother j oj hoj hji hl]
              exact hF j _ w w' hS (hhold j oj hoj hl)
      · have h1 := List.all_eq_true.1 ht j (List.mem_range.2 (Array.getElem?_eq_some_iff.1 hj').1)
        simp only [hj', Bool.or_eq_true, bne_iff_ne, beq_iff_eq] at h1
        rcases h1 with (h1 | h1) | h1
        · exact h1
        · subst h1; rw [hunf] at hl; cases hl
        · obtain ⟨o2, ho2, x, hx, hxb, hon⟩ := Region.waitsFor_spec h1
          obtain rfl : o2 = o' := Option.some.inj (ho2.symm.trans hj')
          have := hcl j o2 hj' hl x hx hxb
          rw [hon, hunf] at this; cases this
      · have hd := hdeps e he hbe
        have hlt := hback' i o ho e he hbe
        exact hhold e.on ops[e.on] (Array.getElem?_eq_getElem (by have := (Array.getElem?_eq_some_iff.1 ho).1; omega)) hd

theorem wp_region_inv3g {id : Nat} {Q : Exit → Act → World → Prop} {a0 : Act} {w0 : World} (hm : P.follows .mixedOrders = true) (hp : plainG ops = true) (hgB : guardB ops = true) (hback : backB ops = true) (hptr : ptrB ops = true)
    (hdst : (ops.all fun o => match o.dst with | some t => decide (t < a0.tmps.size) | none => true) = true)
    (J : Nat → World → Prop) (S : World → World → Prop) (F : Nat → Value → World → Prop) (hJ : J 0 w0.drew) (hF : ∀ i v w w', S w w' → F i v w → F i v w')
    (hgrd : ∀ (i : Nat) (o : Oper) (d : Nat) (b : Bool), ops[i]? = some o → o.guard = some (d, b) → ∀ v w, F d v w → v = .bool b)
    (hop : ∀ (i : Nat) (o : Oper), ops[i]? = some o → ∀ (n : Nat) (a : Act) (w : World), n < ops.size → J n w →
      (∀ t, freshB ops i t = true → a.tmps.getD t undef = a0.tmps.getD t undef) →
      (∀ e ∈ o.after, Region.binds .any e = true → F e.on (slotOf2 ops e.on a) w) →
      o.wp P a w (fun a' w' => ∃ v, a' = a.put o.dst v ∧ J (n + 1) w' ∧ S w w' ∧ F i (if o.dst.isSome then v else slotOf2 ops i a) w') Q)
    (hend : ∀ (tm : Array Value) (w : World), J ops.size w → (∀ (i : Nat) (o : Oper), ops[i]? = some o → F i (slotOf2 ops i ⟨tm, a0.defers⟩) w) → Q .normal ⟨refillL ops.toList a0.tmps tm, a0.defers⟩ w) :
    (Code.region id ops true).wp P Q a0 w0 := by
  refine wp_region_inv2g hm hp hgB hback hptr hdst J S F hJ hF hgrd hop ?_
  rintro ⟨tm, df⟩ w hj hsz hdf hb hFF
  obtain rfl : df = a0.defers := hdf
  have e := refill_eq hsz hb
  have := hend tm w hj hFF
  rw [← e] at this
  exact this

end
end Go.Proofs.YtfdhaigmekmboaaDoor

/- A region that draws its order, held by an invariant; an operation may use up what other ones' slots held. No program in sight. -/
namespace Go.Proofs.YtfdhaigmekmboaaDoor
open Go.RowKit

section
variable {P : Program} {ops : Array Oper}
theorem wp_region_inv2d {id : Nat} {Q : Exit → Act → World → Prop} {a0 : Act} {w0 : World} (hm : P.follows .mixedOrders = true) (hp : plainG ops = true) (hgB : guardB ops = true) (hback : backB ops = true) (hptr : ptrB ops = true)
    (hdst : (ops.all fun o => match o.dst with | some t => decide (t < a0.tmps.size) | none => true) = true)
    (J : Nat → World → Prop) (S : Nat → World → World → Prop) (F : Nat → Value → World → Prop) (cons : Nat → Nat → Bool) (hJ : J 0 w0.drew) (hF : ∀ j i v w w', S j w w' → cons j i = false → i ≠ j → Region.waitsFor .any ops i j = false → (∀ oj, ops[j]? = some oj → ∀ e ∈ oj.after, Region.binds .any e = true → cons e.on i = false) → F i v w → F i v w')
    (hgrd : ∀ (i : Nat) (o : Oper) (d : Nat) (b : Bool), ops[i]? = some o → o.guard = some (d, b) → ∀ v w, F d v w → v = .bool b)
    (hop : ∀ (i : Nat) (o : Oper), ops[i]? = some o → ∀ (n : Nat) (a : Act) (w : World), n < ops.size → J n w →
      (∀ t, freshB ops i t = true → a.tmps.getD t undef = a0.tmps.getD t undef) →
      (∀ e ∈ o.after, Region.binds .any e = true → (∀ j, j < ops.size → cons j e.on = true → j = i) → F e.on (slotOf2 ops e.on a) w) →
      o.wp P a w (fun a' w' => ∃ v, a' = a.put o.dst v ∧ J (n + 1) w' ∧ S i w w' ∧ F i (if o.dst.isSome then v else slotOf2 ops i a) w') Q)
    (hcg : ∀ (i : Nat) (o : Oper) (d : Nat) (b : Bool), ops[i]? = some o → o.guard = some (d, b) → ∀ j, cons j d = false)
    (hend : ∀ (a : Act) (w : World), J ops.size w → a.tmps.size = a0.tmps.size → a.defers = a0.defers → (∀ t, looseB ops t = true → a.tmps.getD t undef = a0.tmps.getD t undef) → (∀ (i : Nat) (o : Oper), ops[i]? = some o → (∀ j, cons j i = false) → F i (slotOf2 ops i a) w) → Q .normal a w) :
    (Code.region id ops true).wp P Q a0 w0 := by
  refine wp_region_any hm ?_
  have hdst' : ∀ (i : Nat) (o : Oper) (t : Tmp), ops[i]? = some o → o.dst = some t → t < a0.tmps.size := by
    intro i o t hi ht
    have hlt := (Array.getElem?_eq_some_iff.1 hi)
    obtain ⟨hlt, he⟩ := hlt
    have h1 := Array.all_eq_true.1 hdst i hlt
    rw [he, ht] at h1
    exact of_decide_eq_true h1
  have hback' : ∀ (i : Nat) (o : Oper), ops[i]? = some o → ∀ e ∈ o.after, Region.binds .any e = true → e.on < i := by
    intro i o hi e he hbe
    have h1 := List.all_eq_true.1 hback i (List.mem_range.2 (Array.getElem?_eq_some_iff.1 hi).1)
    simp only [hi] at h1
    obtain ⟨k, hk, hke⟩ := Array.getElem_of_mem he
    have h2 := Array.all_eq_true.1 h1 k hk
    rw [hke, hbe] at h2
    exact of_decide_eq_true (by simpa using h2)
  suffices H : ∀ (f n : Nat) (listed : Array Bool) (a : Act) (w : World), listed.size = ops.size → listed.toList.count false = f → n + f = ops.size → J n w → a.tmps.size = a0.tmps.size → a.defers = a0.defers →
      (∀ j o, ops[j]? = some o → listed.getD j false = true → ∀ e ∈ o.after, Region.binds .any e = true → listed.getD e.on false = true) →
      (∀ t, (∀ (i : Nat) (o : Oper), ops[i]? = some o → listed.getD i false = true → o.dst ≠ some t) → a.tmps.getD t undef = a0.tmps.getD t undef) →
      (∀ (i : Nat) (o : Oper), ops[i]? = some o → listed.getD i false = true → (∀ j, listed.getD j false = true → cons j i = false) → F i (slotOf2 ops i a) w) → wpAny P .any ops Q f listed a w by
    refine H _ 0 _ _ _ (by simp) (by simp) (by simp) hJ rfl rfl ?_ ?_ ?_
    · intro j o _ h; rw [getD_replicate_false] at h; cases h
    · intro t _; rfl
    · intro i o _ h; rw [getD_replicate_false] at h; cases h
  intro f
  induction f with
  | zero =>
    intro n listed a w hs hc hnf hj hsz hdf _ hsame hhold
    obtain rfl : n = ops.size := by omega
    have hall : ∀ i, i < ops.size → listed.getD i false = true := by
      intro i hi
      have hnot : false ∉ listed.toList := List.count_eq_zero.1 hc
      rw [Array.getD_eq_getD_getElem?, Array.getElem?_eq_getElem (by omega)]
      simp only [Option.getD_some]
      cases hv : listed[i]'(by omega) with
      | true => rfl
      | false => exact absurd (by rw [← hv]; simp) hnot
    refine ⟨?_, hend a w hj hsz hdf (fun t ht => hsame t fun i o hi _ => ?_) (fun i o hi hcn => hhold i o hi (hall i (Array.getElem?_eq_some_iff.1 hi).1) (fun j _ => hcn j))⟩
    · rw [List.eq_nil_iff_forall_not_mem]
      intro i hi
      obtain ⟨h1, o, ho, _⟩ := mem_ready.1 hi
      have h2 := hall i (Array.getElem?_eq_some_iff.1 ho).1
      rw [Array.getD_eq_getD_getElem?, Array.getElem?_eq_getElem (by have := (Array.getElem?_eq_some_iff.1 ho).1; omega)] at h1 h2
      simp only [Option.getD_some] at h1 h2
      rw [h1] at h2; cases h2
    · have hl := Array.all_eq_true.1 ht i (Array.getElem?_eq_some_iff.1 hi).1
      rw [(Array.getElem?_eq_some_iff.1 hi).2] at hl
      simpa using hl
  | succ f ih =>
    intro n listed a w hs hc hnf hj hsz hdf hcl hsame hhold
    refine ⟨fun h0 => ?_, fun i hi => ?_⟩
    · exfalso
      have hmem : false ∈ listed.toList := List.count_pos_iff.1 (by omega)
      have hex : ∃ i, i < ops.size ∧ listed.getD i true = false := by
        obtain ⟨k, hk, hke⟩ := List.getElem_of_mem hmem
        refine ⟨k, by simpa [hs] using hk, ?_⟩
        rw [Array.getD_eq_getD_getElem?, Array.getElem?_eq_getElem (by simpa using hk)]
        simpa using hke
      obtain ⟨i, ⟨hi, hf⟩, hmin⟩ := exists_least hex
      have hr : i ∈ Region.ready .any ops listed := mem_ready.2 ⟨hf, ops[i], Array.getElem?_eq_getElem hi, fun e he hbe => by
        have hlt := hback' i _ (Array.getElem?_eq_getElem hi) e he hbe
        have := hmin e.on hlt
        rw [Array.getD_eq_getD_getElem?, Array.getElem?_eq_getElem (by omega)] at this ⊢
        simp only [Option.getD_some] at this ⊢
        cases hv : listed[e.on]'(by omega) with
        | true => rfl
        | false => exact absurd ⟨by omega, hv⟩ this⟩
      rw [h0] at hr; cases hr
    · obtain ⟨hun, o, ho, hdeps⟩ := mem_ready.1 hi
      have hil : i < listed.size := by rw [hs]; exact (Array.getElem?_eq_some_iff.1 ho).1
      have hunf : listed.getD i false = false := by
        rw [Array.getD_eq_getD_getElem?, Array.getElem?_eq_getElem hil] at hun ⊢
        simpa using hun
      have hslot := plainG_spec hp ho
      have hwant : Region.wanted o (yielded ops a.tmps) = true := by
        unfold Region.wanted
        cases hgd : o.guard with
        | none => rfl
        | some db =>
          obtain ⟨d, b⟩ := db
          obtain ⟨e, he, hed, hbe, od, hod, t, ht⟩ := guardB_spec hgB ho hgd
          have hl := hdeps e he hbe
          rw [hed] at hl
          have hv := hgrd i o d b ho hgd _ _ (hhold d od hod hl (fun j _ => hcg i o d b ho hgd j))
          have hs2 : slotOf2 ops d a = a.tmps.getD t undef := by unfold slotOf2; rw [hod]; simp [refOf, ht]
          rw [hs2] at hv
          have hy : yielded ops a.tmps d = some b := by
            unfold yielded
            rw [hod]
            simp only [Option.bind_some, ht]
            rw [Array.getD_eq_getD_getElem?] at hv
            cases hx : a.tmps[t]? with
            | none => rw [hx] at hv; simp [undef] at hv
            | some x => rw [hx] at hv; simp at hv; rw [hv]
          simp [hy]
      unfold wpOp
      simp only [ho]
      rw [if_pos hwant]
      refine .inl (Oper.wp_mono ?_ (hop i o ho n a w (by omega) hj (fun t ht => hsame t fun j o' hj' hl => ?_) (fun e he hbe hcn => ?_)))
      · rintro a' w' ⟨v, rfl, hj', hS, hF'⟩
        have hother : ∀ j o', ops[j]? = some o' → j ≠ i → listed.getD j false = true → slotOf2 ops j (a.put o.dst v) = slotOf2 ops j a := by
          intro j o' hj2 hne hl
          unfold slotOf2
          rw [hj2]
          simp only [Option.bind_some]
          cases ht : refOf o' with
          | none => simp
          | some t =>
            simp only
            cases hd : o.dst with
            | none => simp [Act.put]
            | some u =>
              rw [getD_put _ _ _ _ (by rw [hsz]; exact hdst' i o u ho hd), if_neg]
              rintro rfl
              cases hod : o'.dst with
              | some t' =>
                simp only [refOf, hod, Option.some.injEq] at ht
                subst ht
                exact hslot j o' _ hj2 hne hd hod
              | none =>
                simp only [refOf, hod] at ht
                rcases ptrB_spec hptr hj2 hod ht with hall | ⟨e, he, hbe, o2, ho2, hd2⟩
                · exact hall i o ho hd
                · have hle := hcl j o' hj2 hl e he hbe
                  have hei : e.on ≠ i := by rintro h; rw [h, hunf] at hle; cases hle
                  exact hslot e.on o2 _ ho2 hei hd hd2
        have hget : ∀ j, (listed.setIfInBounds i true).getD j false = true → j = i ∨ listed.getD j false = true := by
          intro j hjl
          by_cases hji : j = i
          · exact .inl hji
          · right
            rw [Array.getD_eq_getD_getElem?, Array.getElem?_setIfInBounds_ne (Ne.symm hji)] at hjl
            rw [Array.getD_eq_getD_getElem?]; exact hjl
        have hget' : ∀ j, listed.getD j false = true → (listed.setIfInBounds i true).getD j false = true := by
          intro j hjl
          by_cases hji : j = i
          · rw [hji] at hjl; rw [hunf] at hjl; cases hjl
          · rw [Array.getD_eq_getD_getElem?, Array.getElem?_setIfInBounds_ne (Ne.symm hji)]
            rw [Array.getD_eq_getD_getElem?] at hjl; exact hjl
        refine ih (n + 1) _ _ _ (by simpa using hs) (by have := count_step listed i hun; omega) (by omega) hj' ?_ ?_ ?_ ?_ ?_
        · unfold Act.put; cases o.dst <;> simp [hsz]
        · unfold Act.put; cases o.dst <;> simp [hdf]
        · intro j oj hoj hl e he hbe
          rcases hget j hl with rfl | hl
          · obtain rfl : oj = o := Option.some.inj (hoj.symm.trans ho)
            exact hget' _ (hdeps e he hbe)
          · exact hget' _ (hcl j oj hoj hl e he hbe)
        · intro t ht
          have hne : o.dst ≠ some t := ht i o ho (by rw [Array.getD_eq_getD_getElem?, Array.getElem?_setIfInBounds_self_of_lt hil]; rfl)
          rw [← hsame t (fun j oj hoj hl => ht j oj hoj (hget' j hl))]
          cases hd : o.dst with
          | none => simp [Act.put]
          | some u =>
            rw [getD_put _ _ _ _ (by rw [hsz]; exact hdst' i o u ho hd), if_neg]
            rintro rfl
            exact hne hd
        · intro j oj hoj hl hcn
          by_cases hji : j = i
          · subst hji
            obtain rfl : oj = o := Option.some.inj (hoj.symm.trans ho)
            have : slotOf2 ops j (a.put oj.dst v) = if oj.dst.isSome then v else slotOf2 ops j a := by
              cases hd : oj.dst with
              | none => simp [Act.put]
              | some u =>
                unfold slotOf2
                rw [hoj]
                simp only [Option.bind_some, refOf, hd]
                rw [getD_put _ _ _ _ (by rw [hsz]; exact hdst' j oj u hoj hd)]
                simp
            rw [this]; exact hF'
          · rcases hget j hl with h | hl
            · exact absurd h hji
            · rw [hother j oj hoj hji hl]
              exact hF i j _ w w' hS (hcn i (by rw [Array.getD_eq_getD_getElem?, Array.getElem?_setIfInBounds_self_of_lt hil]; rfl)) hji (by
                cases hwt : Region.waitsFor .any ops j i
                · rfl
                · exfalso
                  obtain ⟨o2, ho2, x, hx, hxb, hon⟩ := Region.waitsFor_spec hwt
                  obtain rfl : o2 = oj := Option.some.inj (ho2.symm.trans hoj)
                  have := hcl j o2 hoj hl x hx hxb
                  rw [hon, hunf] at this; cases this) (fun oj' hoj' e he hbe => hcn e.on (hget' _ (by
                obtain rfl : oj' = o := Option.some.inj (hoj'.symm.trans ho)
                exact hdeps e he hbe))) (hhold j oj hoj hl (fun q hq => hcn q (hget' q hq)))
      · have h1 := List.all_eq_true.1 ht j (List.mem_range.2 (Array.getElem?_eq_some_iff.1 hj').1)
        simp only [hj', Bool.or_eq_true, bne_iff_ne, beq_iff_eq] at h1
        rcases h1 with (h1 | h1) | h1
        · exact h1
        · subst h1; rw [hunf] at hl; cases hl
        · obtain ⟨o2, ho2, x, hx, hxb, hon⟩ := Region.waitsFor_spec h1
          obtain rfl : o2 = o' := Option.some.inj (ho2.symm.trans hj')
          have := hcl j o2 hj' hl x hx hxb
          rw [hon, hunf] at this; cases this
      · have hd := hdeps e he hbe
        have hlt := hback' i o ho e he hbe
        refine hhold e.on ops[e.on] (Array.getElem?_eq_getElem (by have := (Array.getElem?_eq_some_iff.1 ho).1; omega)) hd (fun q hq => ?_)
        have hqs : q < ops.size := by
          by_cases h : q < ops.size
          · exact h
          · rw [Array.getD_eq_getD_getElem?, Array.getElem?_eq_none (by omega)] at hq; simp at hq
        cases hc : cons q e.on
        · rfl
        · have hqi := hcn q hqs hc
          subst hqi
          rw [hunf] at hq; cases hq

theorem wp_region_inv3d {id : Nat} {Q : Exit → Act → World → Prop} {a0 : Act} {w0 : World} (hm : P.follows .mixedOrders = true) (hp : plainG ops = true) (hgB : guardB ops = true) (hback : backB ops = true) (hptr : ptrB ops = true)
    (hdst : (ops.all fun o => match o.dst with | some t => decide (t < a0.tmps.size) | none => true) = true)
    (J : Nat → World → Prop) (S : Nat → World → World → Prop) (F : Nat → Value → World → Prop) (cons : Nat → Nat → Bool) (hJ : J 0 w0.drew) (hF : ∀ j i v w w', S j w w' → cons j i = false → i ≠ j → Region.waitsFor .any ops i j = false → (∀ oj, ops[j]? = some oj → ∀ e ∈ oj.after, Region.binds .any e = true → cons e.on i = false) → F i v w → F i v w')
    (hgrd : ∀ (i : Nat) (o : Oper) (d : Nat) (b : Bool), ops[i]? = some o → o.guard = some (d, b) → ∀ v w, F d v w → v = .bool b)
    (hop : ∀ (i : Nat) (o : Oper), ops[i]? = some o → ∀ (n : Nat) (a : Act) (w : World), n < ops.size → J n w →
      (∀ t, freshB ops i t = true → a.tmps.getD t undef = a0.tmps.getD t undef) →
      (∀ e ∈ o.after, Region.binds .any e = true → (∀ j, j < ops.size → cons j e.on = true → j = i) → F e.on (slotOf2 ops e.on a) w) →
      o.wp P a w (fun a' w' => ∃ v, a' = a.put o.dst v ∧ J (n + 1) w' ∧ S i w w' ∧ F i (if o.dst.isSome then v else slotOf2 ops i a) w') Q)
    (hcg : ∀ (i : Nat) (o : Oper) (d : Nat) (b : Bool), ops[i]? = some o → o.guard = some (d, b) → ∀ j, cons j d = false)
    (hend : ∀ (tm : Array Value) (w : World), J ops.size w → (∀ (i : Nat) (o : Oper), ops[i]? = some o → (∀ j, cons j i = false) → F i (slotOf2 ops i ⟨tm, a0.defers⟩) w) → Q .normal ⟨refillL ops.toList a0.tmps tm, a0.defers⟩ w) :
    (Code.region id ops true).wp P Q a0 w0 := by
  refine wp_region_inv2d hm hp hgB hback hptr hdst J S F cons hJ hF hgrd hop hcg ?_
  rintro ⟨tm, df⟩ w hj hsz hdf hb hFF
  obtain rfl : df = a0.defers := hdf
  have e := refill_eq hsz hb
  have := hend tm w hj hFF
  rw [← e] at this
  exact this

end
end Go.Proofs.YtfdhaigmekmboaaDoor

/- Walks of the exact laws' own helpers at slices of numbers and bools: copies, comparisons, marks. -/
namespace Go.Proofs.YtfdhaigmekmboaaDoor
open Go.RowKit


/-- The marks k, k + 1, .. -/
def marks (k : Int) (n : Nat) : List Int := (List.range n).map fun (j : Nat) => k + j
theorem marks_len (k : Int) (n : Nat) : (marks k n).length = n := by simp [marks]
theorem marks_get (k : Int) (n j : Nat) (h : j < n) : (marks k n)[j]? = some (k + j) := by simp [marks, h]
theorem marks_cell (k : Int) (n j : Nat) (h : j < n) : ((marks k n).flatMap encI)[j]? = some (.int .i64 (k + j)) := by
  have := flatMap_get (enc := encI) (fun _ => rfl) (marks k n) j 0 _ _ (marks_get k n j h) rfl
  simpa using this
theorem flat_len1 {α : Type} (f : α → Value) (xs : List α) : (xs.flatMap fun x => [f x]).length = xs.length := by rw [← List.map_eq_flatMap, List.length_map]



def EqPost (r : Bool) (w : World) (e : Ending) (w' : World) : Prop := e = .returned (.bool r) ∧ ∃ n, w' = w.drewN n




end Go.Proofs.YtfdhaigmekmboaaDoor

/- Walks: the text of a mark. -/
namespace Go.Proofs.YtfdhaigmekmboaaDoor
open Go.RowKit

def digs : Nat → Nat → ByteArray → ByteArray
  | 0, _, out => out
  | f + 1, k, out => if k = 0 then out else digs f (k / 10) (⟨#[UInt8.ofNat (48 + k % 10)]⟩ ++ out)
def markT (k : Int) : ByteArray := if k ≤ 0 then ⟨#[109, 48]⟩ else ⟨#[109]⟩ ++ digs 18 k.toNat ⟨#[]⟩
theorem digs_zero : ∀ (f : Nat) (out : ByteArray), digs f 0 out = out
  | 0, _ => rfl
  | f + 1, out => by simp [digs]
theorem digs_step {f k : Nat} (h : 0 < k) (out : ByteArray) : digs (f + 1) k out = digs f (k / 10) (⟨#[UInt8.ofNat (48 + k % 10)]⟩ ++ out) := by
  rw [digs, if_neg (by omega)]
theorem digs_size : ∀ (f k : Nat) (out : ByteArray), (digs f k out).size ≤ out.size + f
  | 0, k, out => by simp [digs]
  | f + 1, k, out => by
    rw [digs]
    split
    · omega
    · have := digs_size f (k / 10) (⟨#[UInt8.ofNat (48 + k % 10)]⟩ ++ out)
      rw [ByteArray.size_append] at this
      have e : (⟨#[UInt8.ofNat (48 + k % 10)]⟩ : ByteArray).size = 1 := rfl
      omega
theorem markT_size (k : Int) : (markT k).size ≤ 20 := by
  unfold markT
  split
  · decide
  · rw [ByteArray.size_append]
    have := digs_size 18 k.toNat ⟨#[]⟩
    have e : (⟨#[109]⟩ : ByteArray).size = 1 := rfl
    have e2 : (⟨#[]⟩ : ByteArray).size = 0 := rfl
    omega



end Go.Proofs.YtfdhaigmekmboaaDoor

/- Walks of the exact laws' own helpers at slices of texts: copies, comparisons, marks, measures. -/
namespace Go.Proofs.YtfdhaigmekmboaaDoor
open Go.RowKit

theorem Rd.strs {w : World} {B n : Nat} {v : Value} {xs : List ByteArray} (h : Strs w B v xs) (hn : xs.length = n) :
    ∃ a c, v = .slice a n c ∧ n ≤ c ∧ c ≤ 9223372036854775807 ∧
      ∀ i, i < n → ∃ b o x, a = some ⟨b, o, none⟩ ∧ b < B ∧ Hid (xs[i]? = some x) ∧ w.cell? ⟨b, o + i, none⟩ = some (.string x) := by
  obtain ⟨a, c, hv, h1, h2, h3⟩ := Rd.openN h (fun _ => rfl) hn
  refine ⟨a, c, hv, h1, h2, fun i hi => ?_⟩
  obtain ⟨b, o, x, ha, hb, hx, hc⟩ := h3 i hi
  exact ⟨b, o, x, ha, hb, hx, by simpa using hc 0 _ rfl⟩


/-- The texts of the marks k, k + 1, .. -/
def marksS (k : Int) (n : Nat) : List ByteArray := (List.range n).map fun (j : Nat) => markT (k + j)
theorem marksS_len (k : Int) (n : Nat) : (marksS k n).length = n := by simp [marksS]
theorem marksS_get (k : Int) (n j : Nat) (h : j < n) : (marksS k n)[j]? = some (markT (k + j)) := by simp [marksS, h]
theorem marksS_cell (k : Int) (n j : Nat) (h : j < n) : ((marksS k n).flatMap encS)[j]? = some (.string (markT (k + j))) := by
  have := flatMap_get (enc := encS) (fun _ => rfl) (marksS k n) j 0 _ _ (marksS_get k n j h) rfl
  simpa using this
theorem row_onS {w w' : World} {base e k n : Nat} {v : Value} {cs : List Value} (h : w.ownsRow base e k v n cs) (hb : Below w.heap.size w w') : w'.ownsRow base e k v n cs := by
  refine ⟨h.1, ?_⟩
  rcases h.2 with h2 | ⟨g, cap, cur, hv, hg, hh, r⟩
  · exact .inl h2
  · exact .inr ⟨g, cap, cur, hv, hg, (hb.block g (Array.getElem?_eq_some_iff.1 hh).1).trans hh, r⟩




def szStrs (xs : List ByteArray) : Nat := (xs.map fun x => x.size).sum
theorem szStrs_succ {xs : List ByteArray} {k : Nat} {x : ByteArray} (h : xs[k]? = some x) : szStrs (xs.take (k + 1)) = szStrs (xs.take k) + x.size := by
  unfold szStrs; rw [take_snoc' h]; simp
theorem szStrs_take (xs : List ByteArray) (k : Nat) : szStrs (xs.take k) ≤ szStrs xs := by
  have : szStrs xs = szStrs (xs.take k) + szStrs (xs.drop k) := by
    unfold szStrs; rw [← List.sum_append, ← List.map_append, List.take_append_drop]
  omega
theorem szStrs_mem {xs : List ByteArray} {x : ByteArray} (h : x ∈ xs) : x.size ≤ szStrs xs := by
  obtain ⟨k, hk, rfl⟩ := List.getElem_of_mem h
  have h1 := szStrs_succ (List.getElem?_eq_getElem hk)
  have h2 := szStrs_take xs (k + 1)
  omega
def szLeftS (left : Int) (xs : List ByteArray) : Int := if left < xs.length + szStrs xs then -1 else left - xs.length - szStrs xs


theorem push_str {ops : Array Oper} {rest : List Oper} {o : Oper} {a : Act} {Q : Exit → Act → World → Prop} {w0 wr : World} (hgd : o.guard = none) (s x : Operand) (ho : o.op = .call { callee := .builtin .append, args := #[s, x], argTypes := #[85, 85] }) (B B0 : Nat) (v : Value) (acc : List ByteArray) (y : ByteArray)
    (hown : OwnS wr B v acc) (hb : Below B0 w0 wr) (hB : B ≤ wr.heap.size) (hB0 : B0 ≤ B) (hs : a.eval s = v) (hx : a.eval x = .slice (some ⟨wr.heap.size, 0, none⟩) 1 1) (hn : acc.length < 1099511627775)
    (h : ∀ v' w', OwnS w' B v' (acc ++ [y]) → Below B0 w0 w' → B ≤ w'.heap.size → wr.grownBy w' v.ownBlock ∧ (∀ g, v'.ownBlock = some g → v.ownBlock = some g ∨ wr.heap.size ≤ g) → wpList Tryd.prog ops Q rest (a.put o.dst v') w') :
    wpList Tryd.prog ops Q (o :: rest) a (wr.alloc (.cells #[.string y] 9)) := by
  obtain ⟨i0, hi, hz0, hz1, hz2⟩ := info_parts info_string
  exact wpList_push (enc := encS) hgd s x 85 ho B B0 9 i0 _ 1 16 Tryd.underlying85 hi hz0 hz1 hz2 rfl (by decide) v acc y hown hb hB hB0 hs hx rfl (by simp [Value.oneCell']) hn (by decide) h

end Go.Proofs.YtfdhaigmekmboaaDoor

/- Walks: files' texts, joined paths, the reference's way. -/
namespace Go.Proofs.YtfdhaigmekmboaaDoor
open Go.RowKit

theorem strL_emp : (strL []).toList.isEmpty = true := by rw [ByteArray.toList_eq]; rfl
theorem strL_nem {T : List UInt8} (h : T ≠ []) : (strL T).toList.isEmpty = false := by
  rw [ByteArray.toList_eq]
  cases T with
  | nil => exact absurd rfl h
  | cons _ _ => rfl

set_option maxHeartbeats 2000000 in
set_option maxRecDepth 100000 in
theorem spec_ContentValid_c (s : ByteArray) (w : World) (hs : s.size ≤ 1000000) :
    Calls Tryd.prog 90 #[.string s] w fun e w' => e = .returned (.bool (contOk (bs s))) ∧ w = w' := by
  have hbl := bs_lenH s
  obtain ⟨y, hy⟩ : ∃ y, textOk (bs s) = y := ⟨_, rfl⟩
  have HY := hid hy
  have HO := hid (show contOk (bs s) = (y && decide (s.size ≤ 40)) by unfold contOk; rw [hy, hbl])
  clear hy
  go_enter Tryd.func90, Tryd.ntmps90
  go_wp2_with (go_at_call 52; refine (spec_TextValid_c s _ (by omega)).mono ?_; rw [HY.out]; rintro e w' ⟨rfl, rfl⟩)
  all_goals go_ret
  all_goals exact ⟨ret_b (by rw [HO.out]; simp_all; try omega), rfl⟩

set_option maxHeartbeats 2000000 in
set_option maxRecDepth 100000 in
theorem spec_FileText_c (s : ByteArray) (w : World) (hs : s.size ≤ 1000000) :
    Calls Tryd.prog 92 #[.string s] w fun e w' => e = .returned (.string (strL (fileText (bs s)))) ∧ w = w' := by
  cases hy : contOk (bs s)
  · have HO := hid (show fileText (bs s) = [] by unfold fileText; rw [hy]; rfl)
    have HY := hid hy
    clear hy
    go_enter Tryd.func92, Tryd.ntmps92
    go_wp2_with (go_at_call 90; refine (spec_ContentValid_c s _ hs).mono ?_; rw [HY.out]; rintro e w' ⟨rfl, rfl⟩)
    go_ret
    exact ⟨by rw [HO.out]; rfl, rfl⟩
  · have HO := hid (show strL (fileText (bs s)) = (⟨#[102]⟩ : ByteArray) ++ s by
      have e1 : (⟨#[102]⟩ : ByteArray) = strL [102] := rfl
      rw [e1]
      conv => rhs; rw [← strL_bs s]
      rw [strL_append]
      unfold fileText; rw [hy]; simp)
    have HY := hid hy
    have e1 : (⟨#[102]⟩ : ByteArray).size = 1 := rfl
    have hq : (⟨#[102]⟩ : ByteArray).size + s.size ≤ 9223372036854775807 := by omega
    clear hy
    go_enter Tryd.func92, Tryd.ntmps92
    go_wp2_with (go_at_call 90; refine (spec_ContentValid_c s _ hs).mono ?_; rw [HY.out]; rintro e w' ⟨rfl, rfl⟩)
    go_ret
    exact ⟨by rw [HO.out]; rfl, rfl⟩

set_option maxHeartbeats 2000000 in
set_option maxRecDepth 100000 in
theorem spec_ReadFile_c (s : ByteArray) (w : World) (hs : s.size ≤ 1000000) :
    Calls Tryd.prog 108 #[.string s] w fun e w' => (∃ t, e = .returned (.tuple #[.string t, .bool (isFile (bs s))])) ∧ w = w' := by
  by_cases h0 : 0 < s.size
  · have hx := bs_get s h0
    have hcons : bs s = s[0] :: (bs s).drop 1 := by
      cases hb : bs s with
      | nil => rw [hb] at hx; cases hx
      | cons a r => rw [hb] at hx; simp at hx; rw [hx]; rfl
    have hF : isFile (bs s) = (decide (s[0] = 102) && contOk ((bs s).drop 1)) := by rw [hcons]; rfl
    have hem : s.toList.isEmpty = false := by
      rw [ByteArray.toList_eq]
      cases hb : s.data.toList with
      | nil => have : (bs s).length = 0 := by unfold bs; rw [hb]; rfl
               rw [bs_len] at this; omega
      | cons _ _ => rfl
    by_cases hc : s[0] = 102
    · have hd0 : (s[0].toNat : Int) = 102 := by rw [hc]; rfl
      have HE := hid (show bs (s.extract 1 s.size) = (bs s).drop 1 by rw [ext_strL, bs_strL, List.take_of_length_le (by rw [bs_len]; omega)])
      have hse : (s.extract 1 s.size).size ≤ 1000000 := by rw [ByteArray.size_extract]; omega
      obtain ⟨y, hy⟩ : ∃ y, contOk (bs (s.extract 1 s.size)) = y := ⟨_, rfl⟩
      have HY := hid hy
      have HO := hid (show isFile (bs s) = y by rw [hF, ← hy, HE.out]; simp [hc])
      have HSE := hid hse
      clear hy hx hcons hF hse
      cases y
      · go_enter Tryd.func108, Tryd.ntmps108
        go_wp2_with (go_at_call 90; refine (spec_ContentValid_c _ _ HSE.out).mono ?_; rw [HY.out]; rintro e w' ⟨rfl, rfl⟩)
        go_ret2
        exact ⟨⟨_, by rw [HO.out]; rfl⟩, rfl⟩
      · go_enter Tryd.func108, Tryd.ntmps108
        go_wp2_with (go_at_call 90; refine (spec_ContentValid_c _ _ HSE.out).mono ?_; rw [HY.out]; rintro e w' ⟨rfl, rfl⟩)
        go_ret2
        exact ⟨⟨_, by rw [HO.out]; rfl⟩, rfl⟩
    · have hd0 : ¬ (s[0].toNat : Int) = 102 := by
        intro e
        have : s[0].toNat = 102 := by omega
        exact hc (UInt8.toNat_inj.1 this)
      have HO := hid (show isFile (bs s) = false by rw [hF]; simp [hc])
      clear hx hcons hF hc
      go_enter Tryd.func108, Tryd.ntmps108
      go_wp2
      go_ret2
      exact ⟨⟨_, by rw [HO.out]; rfl⟩, rfl⟩
  · have hem : s.toList.isEmpty = true := by
      rw [ByteArray.toList_eq]
      have : (bs s).length = 0 := by rw [bs_len]; omega
      unfold bs at this
      rw [List.length_eq_zero_iff.1 this]; rfl
    have HO := hid (show isFile (bs s) = false by
      have : bs s = [] := List.length_eq_zero_iff.1 (by rw [bs_len]; omega)
      rw [this]; rfl)
    clear h0
    go_enter Tryd.func108, Tryd.ntmps108
    go_wp2
    go_ret2
    exact ⟨⟨_, by rw [HO.out]; rfl⟩, rfl⟩

set_option maxHeartbeats 2000000 in
set_option maxRecDepth 100000 in
theorem spec_TextKind_c (s : ByteArray) (w : World) (hs : s.size ≤ 1000000) :
    Calls Tryd.prog 102 #[.string s] w fun e w' => e = .returned (.int .i64 (kindOf (bs s))) ∧ Below w.heap.size w w' := by
  obtain ⟨x, hx⟩ : ∃ x, isFile (bs s) = x := ⟨_, rfl⟩
  obtain ⟨y, hy⟩ : ∃ y, (readFolder (bs s)).isSome = y := ⟨_, rfl⟩
  have HX := hid hx
  have HY := hid hy
  have HO := hid (show kindOf (bs s) = if x = true then 1 else if y = true then 2 else 0 by unfold kindOf; rw [hx, hy])
  clear hx hy
  go_enter Tryd.func102, Tryd.ntmps102
  go_wp2_with (go_at_call 108; refine (spec_ReadFile_c s _ hs).mono ?_; rw [HX.out]; rintro e w' ⟨⟨t, rfl⟩, rfl⟩)
  refine (spec_ReadFolder_c s _ hs).mono ?_
  rw [HY.out]
  rintro e w1 ⟨lv, rfl, _, b1⟩
  cases x
  · cases y
    · go_wp2
      go_ret
      exact ⟨by rw [HO.out]; rfl, b1⟩
    · go_wp2
      go_ret
      exact ⟨by rw [HO.out]; rfl, b1⟩
  · go_wp2
    go_ret
    exact ⟨by rw [HO.out]; rfl, b1⟩

/-- What is joined of the first words. -/
theorem join_succ {ws : List ByteArray} {k : Nat} {x : ByteArray} (h : ws[k]? = some x) : (ws.take (k + 1)).flatMap (fun y => 47 :: bs y) = (ws.take k).flatMap (fun y => 47 :: bs y) ++ (47 :: bs x) := by
  rw [take_snoc' h]; simp
theorem join_bad {ws : List ByteArray} {k : Nat} {x : ByteArray} (h : ws[k]? = some x) (hx : wordOk (bs x) = false) : joinP (ws.map bs) = [] := by
  have hm := List.mem_of_getElem? h
  unfold joinP
  rw [if_neg (fun e => by simp at e; rw [e] at hm; simp at hm), if_neg]
  rintro ⟨_, h2⟩
  have := List.all_eq_true.1 h2 (bs x) (List.mem_map_of_mem hm)
  rw [hx] at this; cases this
theorem join_long {ws : List ByteArray} (h : 3 < ws.length) : joinP (ws.map bs) = [] := by
  unfold joinP
  rw [if_neg (fun e => by simp at e; rw [e] at h; simp at h), if_neg]
  rintro ⟨h1, _⟩
  simp at h1; omega
theorem join_all {ws : List ByteArray} (h0 : ws ≠ []) (h3 : ws.length ≤ 3) (h : ∀ x ∈ ws, wordOk (bs x) = true) : joinP (ws.map bs) = ws.flatMap (fun y => 47 :: bs y) := by
  unfold joinP
  rw [if_neg (by simpa using h0), if_pos ⟨by simpa using h3, by simp [List.all_eq_true]; exact h⟩, List.flatMap_map]

set_option maxHeartbeats 2000000 in
set_option maxRecDepth 100000 in
theorem spec_JoinPath_c (v : Value) (ws : List ByteArray) (w : World) (h : Strs w w.heap.size v ws) (hx0 : ∀ x ∈ ws, x.size ≤ 1000) (hl : ws.length ≤ 1000) :
    Calls Tryd.prog 99 #[v] w fun e w' => e = .returned (.string (strL (joinP (ws.map bs)))) ∧ w = w' := by
  obtain ⟨n, hn⟩ : ∃ n, ws.length = n := ⟨_, rfl⟩
  obtain ⟨a, c, rfl, _, _, h3⟩ := h.strs hn
  rw [hn] at hl
  have HN := hid hn
  have HX := hid hx0
  clear hn h hx0
  go_enter Tryd.func99, Tryd.ntmps99
  go_wp2
  go_loop [3, 4] (fun tv i => ∃ (k : Nat) (T : List UInt8), k ≤ n ∧ i = .int .i64 k ∧ tv = .string (strL T) ∧ (0 < k → n ≤ 3) ∧ T.length ≤ 1001 * k ∧ Hid (T = (ws.take k).flatMap (fun y => 47 :: bs y)) ∧ Hid (∀ x ∈ ws.take k, wordOk (bs x) = true)) (fun _ i => n - (intOf i).toNat)
  case atStart => exact ⟨0, [], Nat.zero_le _, rfl, rfl, fun h => absurd h (by omega), by simp, rfl, hid (by simp)⟩
  case round =>
    obtain ⟨k, T, hk, rfl, rfl, hk3, hTl, hT, hall⟩ := hrel
    by_cases hlt : k < n
    · obtain ⟨b, o, t, rfl, hbl, hx, k0⟩ := h3 k hlt
      have hts := HX.out _ (List.mem_of_getElem? hx.out)
      obtain ⟨y, hy⟩ : ∃ y, wordOk (bs t) = y := ⟨_, rfl⟩
      have HY := hid hy
      clear h3 hk3
      cases y
      · have HO := hid (join_bad hx.out hy)
        clear hy
        go_wp2_with (go_at_call 81; refine (spec_WordValid_c t _ (by omega)).mono ?_; rw [HY.out]; rintro e w' ⟨rfl, rfl⟩)
        go_ret
        exact ⟨by rw [HO.out]; rfl, rfl⟩
      · clear hy
        by_cases hn3 : 3 < n
        · have HO := hid (join_long (ws := ws) (by rw [HN.out]; exact hn3))
          go_wp2_with (go_at_call 81; refine (spec_WordValid_c t _ (by omega)).mono ?_; rw [HY.out]; rintro e w' ⟨rfl, rfl⟩)
          go_ret
          exact ⟨by rw [HO.out]; rfl, rfl⟩
        · have hs0 := strL_size T
          have e1 : (⟨#[47]⟩ : ByteArray).size = 1 := rfl
          have hq1 : (strL T).size + (⟨#[47]⟩ : ByteArray).size ≤ 9223372036854775807 := by omega
          have hq2 : (strL T ++ ⟨#[47]⟩ : ByteArray).size + t.size ≤ 9223372036854775807 := by rw [ByteArray.size_append]; omega
          have HS := hid (show strL T ++ ⟨#[47]⟩ ++ t = strL (T ++ (47 :: bs t)) by
            have e2 : (⟨#[47]⟩ : ByteArray) = strL [47] := rfl
            rw [e2]
            conv => lhs; rw [← strL_bs t]
            rw [strL_append, strL_append]; simp)
          have HT2 := hid (show T ++ (47 :: bs t) = (ws.take (k + 1)).flatMap (fun y => 47 :: bs y) by rw [join_succ hx.out, hT.out])
          have HL2 := hid (show (T ++ (47 :: bs t)).length ≤ 1001 * (k + 1) by have := bs_len t; simp; omega)
          have HA2 := hid (show ∀ x ∈ ws.take (k + 1), wordOk (bs x) = true from fun x hx' => by
            rw [take_snoc' hx.out] at hx'
            rcases List.mem_append.1 hx' with h1 | h1
            · exact hall.out x h1
            · obtain rfl : x = t := by simpa using h1
              exact HY.out)
          go_wp2_with (go_at_call 81; refine (spec_WordValid_c t _ (by omega)).mono ?_; rw [HY.out]; rintro e w' ⟨rfl, rfl⟩)
          go_round
          case rel => exact ⟨k + 1, _, by omega, by go_num, congrArg Value.string HS.out, fun _ => by omega, HL2.out, HT2, HA2⟩
          case measure => simp [intOf]; omega
    · obtain rfl : k = n := by omega
      rcases Nat.eq_zero_or_pos k with h0 | h0
      · subst h0
        have hw0 : ws = [] := List.length_eq_zero_iff.1 HN.out
        have hT0 : T = [] := by rw [hT.out]; simp
        have HO := hid (show joinP (ws.map bs) = [47] by rw [hw0]; rfl)
        subst hT0
        have hem := strL_emp
        clear hw0 h3
        go_wp2
        go_ret
        exact ⟨by rw [HO.out]; rfl, rfl⟩
      · have HO := hid (show joinP (ws.map bs) = T by
          rw [hT.out, take_all HN.out (Nat.le_refl _)]
          exact join_all (fun e => by rw [e] at HN; have := HN.out; simp at this; omega) (by rw [HN.out]; exact hk3 h0) (by have := hall.out; rwa [take_all HN.out (Nat.le_refl _)] at this))
        have hTne2 : (strL T).toList.isEmpty = false := strL_nem (by
          rw [hT.out, take_all HN.out (Nat.le_refl _)]
          cases ws with
          | nil => have := HN.out; simp at this; omega
          | cons x r => simp)
        clear h3
        go_wp2
        go_ret
        exact ⟨by rw [HO.out]; rfl, rfl⟩

end Go.Proofs.YtfdhaigmekmboaaDoor

/- Walks: the reference's entries that are put. -/
namespace Go.Proofs.YtfdhaigmekmboaaDoor
open Go.RowKit

theorem lit_rdE {w : World} {b : Nat} {e : Ent} (h : w.heap[b]? = some (.cells #[.string e.name, .int .i64 e.print] 37 (0, 0))) : Ents w w.heap.size (.slice (some ⟨b, 0, none⟩) 1 1) [e] := by
  refine ⟨_, _, rfl, by simp, by simp [maxLen], by simp, fun _ => ⟨b, 0, rfl, (Array.getElem?_eq_some_iff.1 h).1, fun j u hu => ?_⟩⟩
  rw [Nat.zero_add, cell_of_row w b j _ _ (0, 0) h]
  simpa using hu
theorem encE_one {xs : List Ent} : ∀ y ∈ xs, ∀ u ∈ encE y, u.oneCell' = true := by
  intro y _ u hu
  simp [encE] at hu
  rcases hu with rfl | rfl <;> rfl
theorem flatE_take (xs : List Ent) (i : Nat) : (xs.take i).flatMap encE = (xs.flatMap encE).take (i * 2) := by
  induction xs generalizing i with
  | nil => simp
  | cons x r ih =>
    cases i with
    | zero => simp
    | succ i =>
      rw [List.take_succ_cons, List.flatMap_cons, List.flatMap_cons, ih, show (i + 1) * 2 = i * 2 + 2 by omega]
      rfl
theorem flatE_drop (xs : List Ent) (i : Nat) : (xs.drop i).flatMap encE = (xs.flatMap encE).drop (i * 2) := by
  induction xs generalizing i with
  | nil => simp
  | cons x r ih =>
    cases i with
    | zero => simp
    | succ i =>
      rw [List.drop_succ_cons, List.flatMap_cons, ih, show (i + 1) * 2 = i * 2 + 2 by omega]
      rfl
theorem some_ne' {a b : Nat} (h : a ≠ b) : some a ≠ some b := fun e => h (Option.some.inj e)
def isEmpE (B : Nat) : Value → World → Prop := fun v w => ∃ b, v = .slice (some ⟨b, 0, none⟩) 0 0 ∧ B ≤ b ∧ w.heap[b]? = some (.cells #[] 37 (0, 0)) ∧ OwnE w B v []
def isOwnE (B : Nat) (xs : List Ent) : Value → World → Prop := fun v w => OwnE w B v xs
def isLitE (B : Nat) (e : Ent) : Value → World → Prop := fun v w => ∃ b, v = .slice (some ⟨b, 0, none⟩) 1 1 ∧ B ≤ b ∧ w.heap[b]? = some (.cells #[.string e.name, .int .i64 e.print] 37 (0, 0))
def isRdE (W0 : World) (xs : List Ent) : Value → World → Prop := fun v _ => Ents W0 W0.heap.size v xs
def peF (W0 : World) (sl : Value) (xs : List Ent) (k : Nat) (e : Ent) (rl : List Ent) : List (Value → World → Prop) :=
  [isEmpE W0.heap.size, isV sl, isV (.int .i64 k), isRdE W0 (xs.take k), isOwnE W0.heap.size ([] ++ xs.take k), isV (.agg #[.string e.name, .int .i64 e.print]), isLitE W0.heap.size e,
   isOwnE W0.heap.size ([] ++ xs.take k ++ [e]), isRdE W0 rl, isOwnE W0.heap.size ([] ++ xs.take k ++ [e] ++ rl), isOwnE W0.heap.size ([] ++ xs.take k ++ [e] ++ rl)]
/-- The appends use up what they append to, and the literal. -/
def peCons (j i : Nat) : Bool := (j == 4 && i == 0) || (j == 7 && (i == 4 || i == 6)) || (j == 9 && i == 7)
def peS (j : Nat) (w w' : World) : Prop := w = w' ∨ Below w.heap.size w w' ∨ (j = 4 ∧ ∃ b, w.heap[b]? = some (.cells #[] 37 (0, 0)) ∧ w.grownBy w' (Value.ownBlock (.slice (some ⟨b, 0, none⟩) 0 0))) ∨ j = 7 ∨
  (j = 9 ∧ ∃ (g : Nat) (cs : Array Value), w.heap[g]? = some (.cells cs 37 (0, 0)) ∧ 0 < cs.size ∧ w.grownBy w' (some g))
theorem own_rowE {w : World} {B : Nat} {v : Value} {xs : List Ent} (h : OwnE w B v xs) (h0 : 0 < xs.length) : ∃ (g : Nat) (cs : Array Value), v.ownBlock = some g ∧ w.heap[g]? = some (.cells cs 37 (0, 0)) ∧ 0 < cs.size := by
  rcases h.2 with ⟨_, h2⟩ | ⟨g, cap, cur, rfl, hb, hg, hnc, hcm, hcs, ht⟩
  · omega
  · exact ⟨g, cur, rfl, hg, by omega⟩
theorem own_far_empE {w w' : World} {B b : Nat} {v : Value} {xs : List Ent} (h : OwnE w B v xs) (hh : w.heap[b]? = some (.cells #[] 37 (0, 0))) (hg : w.grownBy w' (Value.ownBlock (.slice (some ⟨b, 0, none⟩) 0 0))) (h0 : 0 < xs.length) : OwnE w' B v xs := by
  obtain ⟨g, cs, hv, h1, h2⟩ := own_rowE h h0
  refine h.kept hg (.inr ?_)
  rw [hv]
  intro e
  have e2 : g = b := Option.some.inj e
  subst e2
  rw [hh] at h1
  simp at h1
  subst h1
  simp at h2

/-- The first so many of a row, and the rest. -/
theorem Rd.frontE {w : World} {B n c q : Nat} {a : Option Addr} {xs : List Ent} (h : Ents w B (.slice a n c) xs) (hn : xs.length = n) (hq : q ≤ n) : Ents w B (.slice a q c) (xs.take q) := by
  obtain ⟨a', c', hv, h1, h2, h3, h4⟩ := h
  simp only [Value.slice.injEq] at hv
  obtain ⟨rfl, rfl, rfl⟩ := hv
  refine ⟨a, c, by rw [List.length_take, Nat.min_eq_left hq], by rw [List.length_take]; omega, h2, by rw [flatE_take, List.length_take, h3, List.length_take, Nat.min_eq_left (by omega), Nat.min_eq_left hq], fun h0 => ?_⟩
  rw [List.length_take] at h0
  obtain ⟨b, o, rfl, hb, hat⟩ := h4 (by omega)
  refine ⟨b, o, rfl, hb, fun j u hu => hat j u ?_⟩
  rw [flatE_take, List.getElem?_take] at hu
  split at hu
  · exact hu
  · cases hu
theorem Rd.backE {w : World} {B n c q : Nat} {a : Option Addr} {xs : List Ent} (h : Ents w B (.slice a n c) xs) (hn : xs.length = n) (hq : q ≤ n) : Ents w B (.slice (if c = q then a else a.map (fun (x : Addr) => x.add (q * 2))) (n - q) (c - q)) (xs.drop q) := by
  obtain ⟨a', c', hv, h1, h2, h3, h4⟩ := h
  simp only [Value.slice.injEq] at hv
  obtain ⟨rfl, rfl, rfl⟩ := hv
  refine ⟨_, c - q, by rw [List.length_drop], by rw [List.length_drop]; omega, Nat.le_trans (Nat.sub_le _ _) h2, by rw [flatE_drop, List.length_drop, h3, List.length_drop, Nat.sub_mul], fun h0 => ?_⟩
  rw [List.length_drop] at h0
  obtain ⟨b, o, rfl, hb, hat⟩ := h4 (by omega)
  have hadd : (⟨b, o, none⟩ : Addr).add (q * 2) = ⟨b, o + q * 2, none⟩ := by unfold Addr.add; split <;> simp_all
  refine ⟨b, o + q * 2, by rw [if_neg (by omega)]; simp [hadd], hb, fun j u hu => ?_⟩
  rw [flatE_drop, List.getElem?_drop] at hu
  have := hat (q * 2 + j) u hu
  rwa [← Nat.add_assoc] at this

theorem str_eqE {u t : ByteArray} : (u.toList == t.toList) = decide (u = t) := by
  rw [Bool.eq_iff_iff, beq_iff_eq, decide_eq_true_iff, ByteArray.toList_eq, ByteArray.toList_eq]
  constructor
  · intro e; exact Go.WideShapes.bytes_inj e
  · rintro rfl; rfl
/-- The world ahead of a region, by a name. -/
theorem drew_out {P : Program} {C : Code} {Q : Exit → Act → World → Prop} {a : Act} {W : World} (W1 : World) (hz : ∃ q, W = W1.drewN q) (H : ∀ W0, (∃ q, W0 = W1.drewN q) → C.wp P Q a W0) : C.wp P Q a W := H W hz

set_option maxHeartbeats 2000000 in
set_option maxRecDepth 100000 in
theorem spec_PutEntry_c (v : Value) (xs : List Ent) (e : Ent) (w : World) (h : Ents w w.heap.size v xs) (hx0 : ∀ x ∈ xs, x.name.size ≤ 1048576) (hl0 : xs.length ≤ 1048570) (hes : e.name.size ≤ 1048576) :
    Calls Tryd.prog 101 #[v, .agg #[.string e.name, .int .i64 e.print]] w fun en w' => ∃ v', en = .returned (.tuple #[v', .bool (putEnt xs e).2]) ∧ OwnE w' w.heap.size v' (putEnt xs e).1 ∧ Below w.heap.size w w' := by
  obtain ⟨n, hn⟩ : ∃ n, xs.length = n := ⟨_, rfl⟩
  obtain ⟨a, c, rfl, hnc, hc63, _⟩ := h.ents hn
  have HN := hid hn
  have HX := hid hx0
  have HES := hid hes
  have HL := hid (show xs.length ≤ 1048576 by omega)
  rw [hn] at hl0
  have hbA : Below w.heap.size w (w.alloc (.cells #[.string e.name, .int .i64 e.print] 37)) := (Below.refl _ _).alloc (Nat.le_refl _) _
  have hA : Ents (w.alloc (.cells #[.string e.name, .int .i64 e.print] 37)) w.heap.size (.slice a n c) xs := h.below hbA (Nat.le_refl _)
  have hbx0 : (w.alloc (.cells #[.string e.name, .int .i64 e.print] 37)).heap[w.heap.size]? = some (.cells #[.string e.name, .int .i64 e.print] 37 (0, 0)) := heap_alloc_new w _
  clear h hes hx0 hn
  cases hok : entsOk xs
  · have HO := hid (show putEnt xs e = ([], false) by unfold putEnt; rw [hok]; rfl)
    have HK := hid hok
    have HA := hid hA
    clear hA hok hbx0
    go_enter Tryd.func101, Tryd.ntmps101
    go_wp2_with fail
    refine (spec_EntriesValid_c _ xs _ _ HA.out HX.out HL.out).mono ?_
    rw [HK.out]
    rintro e' w1 ⟨rfl, z, rfl⟩
    go_wp2
    go_ret2
    exact ⟨_, by rw [HO.out]; rfl, by rw [HO.out]; have h9 := (Own.made (enc := encE) (e := 37) (k := 2) (w.alloc (.cells #[.string e.name, .int .i64 e.print] 37)) hbA.size).drewN z; rw [show (w.alloc (.cells #[.string e.name, .int .i64 e.print] 37)).heap.size = w.heap.size + 1 by simp] at h9; exact h9, bl_drewN (hbA.alloc hbA.size _) z⟩
  have HK := hid hok
  obtain ⟨q, hq⟩ : ∃ q, entAt xs e.name = q := ⟨_, rfl⟩
  have HQ := hid hq
  have hqn := entAt_le xs e.name
  rw [hq, HN.out] at hqn
  have h3 := (ents_in hok).1
  rw [HN.out] at h3
  have HPX := hid (show ∀ x ∈ putE xs e, x.name.size ≤ 1048576 from fun x hx => by
    rcases (putE_mem (ents_asc hok)).1 hx with rfl | h1
    · exact HES.out
    · exact HX.out x h1.1)
  have HPL := hid (show (putE xs e).length ≤ 1048576 by have := putE_len xs e; have := HN.out; omega)
  obtain ⟨i0, hi0, hz0, hz1, hz2⟩ := info_parts info_ent
  have HA := hid hA
  clear hok hq hA
  go_enter Tryd.func101, Tryd.ntmps101
  go_wp2_with fail
  refine (spec_EntriesValid_c _ xs _ _ HA.out HX.out HL.out).mono ?_
  rw [HK.out]
  rintro e' w1 ⟨rfl, z, rfl⟩
  obtain ⟨W1, hW1⟩ : ∃ W1, W1 = (w.alloc (.cells #[.string e.name, .int .i64 e.print] 37)).drewN z := ⟨_, rfl⟩
  have d1 : Below w.heap.size w W1 := by rw [hW1]; exact bl_drewN hbA z
  have hbx1 : W1.heap[w.heap.size]? = some (.cells #[.string e.name, .int .i64 e.print] 37 (0, 0)) := by rw [hW1]; exact hbx0
  have h1 : Ents W1 w.heap.size (.slice a n c) xs := by rw [hW1]; exact HA.out.drewN z
  obtain ⟨a', c', hv0, _, _, h3'⟩ := h1.ents HN.out
  simp only [Value.slice.injEq] at hv0
  obtain ⟨e1, _, e2⟩ := hv0
  subst e1
  subst e2
  rw [← hW1]
  have H1 := hid h1
  have HBX := hid hbx1
  clear hW1 hbx0 HA hbA h1
  obtain ⟨x0, x1, _, _⟩ := two_cells_of hbx1
  clear hbx1
  go_wp2
  go_loopw [6] (fun i wr => ∃ k z' : Nat, k ≤ q ∧ i = .int .i64 k ∧ wr = W1.drewN z') (fun i _ => n - (intOf i).toNat)
  case atStart => exact ⟨0, 0, Nat.zero_le _, rfl, rfl⟩
  case round =>
    obtain ⟨k, z', hk, rfl, rfl⟩ := hrel
    by_cases hlt : k < q
    · obtain ⟨b, o, t, r, rfl, hbl, hx, k0, k1⟩ := h3' k (by omega)
      have hrp := entAt_below (l := xs) (nm := e.name) (by rw [HQ.out]; exact hlt) hx.out
      have hd1 : Go.Op.bytesLess t.toList e.name.toList = true := by rw [ltN_eq]; exact hrp
      have hd0 : decide (k < n) = true := by simp; omega
      have hkn : (k : Int) < n := by omega
      clear h3' hrp
      go_wp2
      go_quiet (fail)
      go_wp2
      go_roundw
      case rel => exact ⟨k + 1, _, by omega, by go_num, rfl⟩
      case measure => simp [intOf]; omega
    · obtain rfl : k = q := by omega
      have hq0 : (k : Int) ≤ n := by omega
      have hqc : (k : Int) ≤ c := by omega
      have hqc2 : (n : Int) ≤ c := by omega
      by_cases hkn : k < n
      · obtain ⟨b, o, t, r, rfl, hbl, hx, k0, k1⟩ := h3' k hkn
        have hge := entAt_from (ents_asc HK.out) (nm := e.name) (by rw [HQ.out]; exact Nat.le_refl k) hx.out
        simp only at hge
        have hd0 : decide (k < n) = true := by simp; omega
        have hd1 : Go.Op.bytesLess t.toList e.name.toList = false := by rw [ltN_eq]; exact hge
        have hkn' : (k : Int) < n := by omega
        have hs := str_eqE (u := t) (t := e.name)
        clear h3' hge
        by_cases hte : t = e.name
        · have hd2 : (t.toList == e.name.toList) = true := by rw [hs]; exact decide_eq_true hte
          have HIS := hid (show isNm xs e.name k = true from isNm_iff.2 ⟨_, hx.out, hte⟩)
          have HPE := hid (show xs.take k ++ [e] ++ xs.drop (k + 1) = putE xs e by rw [putE_eq, HQ.out]; unfold behind; rw [HQ.out, HIS.out]; simp)
          have hw1 : IntKind.i64.wrap ((k : Int) + 1) = ((k + 1 : Nat) : Int) := IntWalk.i64_in _ (by omega)
          have hk1 : ((k : Int) + 1).toNat = k + 1 := by omega
          have hq1 : (k : Int) + 1 ≤ n := by omega
          have hqc1 : (k : Int) + 1 ≤ c := by omega
          obtain ⟨ra, hra⟩ : ∃ ra : Option Addr, (if c = k + 1 then some ⟨b, o, none⟩ else some ⟨b, o + (k + 1) * 2, none⟩) = ra := ⟨_, rfl⟩
          clear hs hte
          go_wp2
          go_quiet (fail)
          go_wp2
          go_quiet (fail)
          go_wp2
          refine drew_out W1 (by first | exact ⟨_, rfl⟩ | exact ⟨_, World.drewN_drewN _ _ _⟩) ?_
          rintro W0 ⟨z0, hW0⟩
          have d0 : Below w.heap.size w W0 := by rw [hW0]; exact bl_drewN d1 _
          have hB0 : w.heap.size ≤ W0.heap.size := d0.size
          have HH : Hid (Ents W0 W0.heap.size (.slice (some ⟨b, o, none⟩) n c) xs) := by rw [hW0]; exact (H1.out.drewN _).more (by have := d1.size; simpa using this)
          have hbox : W0.heap[w.heap.size]? = some (.cells #[.string e.name, .int .i64 e.print] 37 (0, 0)) := by rw [hW0]; exact HBX.out
          have hlt0 := (Array.getElem?_eq_some_iff.1 hbox).1
          have hfr := HH.out.frontE HN.out (q := k) (by omega)
          have hbk := HH.out.backE HN.out (q := k + 1) (by omega)
          rw [show (if c = k + 1 then (some ⟨b, o, none⟩) else ((some ⟨b, o, none⟩) : Option Addr).map (fun (x : Addr) => x.add ((k + 1) * 2))) = ra by rw [← hra]; (split <;> simp [Addr.add])] at hbk
          refine wp_region_inv3d rfl (by kernel_rfl) (by kernel_rfl) (by kernel_rfl) (by kernel_rfl) (by simp) (fun _ w' => Below W0.heap.size W0 w') (fun j w' w'' => peS j w' w'') (fact (peF W0 (.slice (some ⟨b, o, none⟩) n c) xs k e (xs.drop (k + 1)))) peCons (Below.refl _ _).drew ?hF ?grd ?oo ?cg ?fin
          case hF =>
            intro j i v w' w'' hS hc hne hwt hdp hf
            have hi : i < 11 ∨ 11 ≤ i := by omega
            rcases hi with hi | hi
            · obtain rfl | rfl | rfl | rfl | rfl | rfl | rfl | rfl | rfl | rfl | rfl : i = 0 ∨ i = 1 ∨ i = 2 ∨ i = 3 ∨ i = 4 ∨ i = 5 ∨ i = 6 ∨ i = 7 ∨ i = 8 ∨ i = 9 ∨ i = 10 := by omega
              · rcases hS with rfl | hb | ⟨rfl, b, hh, hg⟩ | rfl | ⟨rfl, g, cs, hh, hs, hg⟩
                · exact hf
                · obtain ⟨b0, h1, h2, h3, h4⟩ := hf; exact ⟨b0, h1, h2, (hb.block b0 (Array.getElem?_eq_some_iff.1 h3).1).trans h3, h4.on hb⟩
                · simp [peCons] at hc
                · have h9 := hdp _ rfl ⟨4, .data⟩ (by simp) rfl; simp [peCons] at h9
                · obtain ⟨b0, h1, h2, h3, h4⟩ := hf
                  have hne' : b0 ≠ g := by rintro rfl; rw [h3] at hh; simp at hh; subst hh; simp at hs
                  exact ⟨b0, h1, h2, (hg.block b0 (Array.getElem?_eq_some_iff.1 h3).1 (some_ne' hne')).trans h3, h4.kept hg (.inr (by rw [h1]; exact some_ne' hne'))⟩
              · exact hf
              · exact hf
              · exact hf
              · rcases hS with rfl | hb | ⟨rfl, b, hh, hg⟩ | rfl | ⟨rfl, g, cs, hh, hs, hg⟩
                · exact hf
                · exact Own.on hf hb
                · exact absurd rfl hne
                · simp [peCons] at hc
                · have h9 := hdp _ rfl ⟨7, .data⟩ (by simp) rfl; simp [peCons] at h9
              · exact hf
              · rcases hS with rfl | hb | ⟨rfl, b, hh, hg⟩ | rfl | ⟨rfl, g, cs, hh, hs, hg⟩
                · exact hf
                · obtain ⟨b0, h1, h2, h3⟩ := hf; exact ⟨b0, h1, h2, (hb.block b0 (Array.getElem?_eq_some_iff.1 h3).1).trans h3⟩
                · obtain ⟨b0, h1, h2, h3⟩ := hf; exact ⟨b0, h1, h2, (hg.block b0 (Array.getElem?_eq_some_iff.1 h3).1 (some_ne' (by rintro rfl; rw [hh] at h3; simp at h3))).trans h3⟩
                · simp [peCons] at hc
                · have h9 := hdp _ rfl ⟨7, .data⟩ (by simp) rfl; simp [peCons] at h9
              · rcases hS with rfl | hb | ⟨rfl, b, hh, hg⟩ | rfl | ⟨rfl, g, cs, hh, hs, hg⟩
                · exact hf
                · exact Own.on hf hb
                · exact own_far_empE hf hh hg (by simp <;> omega)
                · exact absurd rfl hne
                · simp [peCons] at hc
              · exact hf
              · rcases hS with rfl | hb | ⟨rfl, b, hh, hg⟩ | rfl | ⟨rfl, g, cs, hh, hs, hg⟩
                · exact hf
                · exact Own.on hf hb
                · exact own_far_empE hf hh hg (by simp <;> omega)
                · exact absurd (hwt.symm.trans (c := true) (by kernel_rfl)) (by decide)
                · exact absurd rfl hne
              · rcases hS with rfl | hb | ⟨rfl, b, hh, hg⟩ | rfl | ⟨rfl, g, cs, hh, hs, hg⟩
                · exact hf
                · exact Own.on hf hb
                · exact own_far_empE hf hh hg (by simp <;> omega)
                · exact absurd (hwt.symm.trans (c := true) (by kernel_rfl)) (by decide)
                · exact absurd (hwt.symm.trans (c := true) (by kernel_rfl)) (by decide)
            · unfold fact at *; rw [List.getD_eq_getElem?_getD, List.getElem?_eq_none (by simpa [peF] using hi)]; trivial
          case grd =>
            intro i oo d bb hi hg v w' hf
            obtain ⟨hlt1, rfl⟩ := Array.getElem?_eq_some_iff.1 hi
            have hlt' : i < 11 := hlt1
            clear hi
            obtain rfl | rfl | rfl | rfl | rfl | rfl | rfl | rfl | rfl | rfl | rfl : i = 0 ∨ i = 1 ∨ i = 2 ∨ i = 3 ∨ i = 4 ∨ i = 5 ∨ i = 6 ∨ i = 7 ∨ i = 8 ∨ i = 9 ∨ i = 10 := by omega
            all_goals simp at hg
          case cg =>
            intro i oo d bb hi hg j
            obtain ⟨hlt1, rfl⟩ := Array.getElem?_eq_some_iff.1 hi
            have hlt' : i < 11 := hlt1
            clear hi
            obtain rfl | rfl | rfl | rfl | rfl | rfl | rfl | rfl | rfl | rfl | rfl : i = 0 ∨ i = 1 ∨ i = 2 ∨ i = 3 ∨ i = 4 ∨ i = 5 ∨ i = 6 ∨ i = 7 ∨ i = 8 ∨ i = 9 ∨ i = 10 := by omega
            all_goals simp at hg
          case oo =>
            intro i oo hi qn a' wk hnn hj hb' hd
            obtain ⟨hlt1, rfl⟩ := Array.getElem?_eq_some_iff.1 hi
            have hlt' : i < 11 := hlt1
            clear hi
            obtain rfl | rfl | rfl | rfl | rfl | rfl | rfl | rfl | rfl | rfl | rfl : i = 0 ∨ i = 1 ∨ i = 2 ∨ i = 3 ∨ i = 4 ∨ i = 5 ∨ i = 6 ∨ i = 7 ∨ i = 8 ∨ i = 9 ∨ i = 10 := by omega
            · exact iv_val (v := .slice (some ⟨wk.heap.size, 0, none⟩) 0 0) (w' := wk.alloc (.cells #[] 37)) (by simp [execOp, go_sem, Result.andThen]) ⟨_, rfl, hj.alloc hj.size _, .inr (.inl ((Below.refl _ _).alloc (Nat.le_refl _) _)), (show isEmpE _ _ _ from ⟨_, rfl, hj.size, heap_alloc_new _ _, Own.made _ hj.size⟩)⟩
            · have b0 : a'.eval (.tmp 0) = .slice (some ⟨b, o, none⟩) n c := hb' 0 (by rfl); have c0 := ev_get b0
              exact iv_val (v := .slice (some ⟨b, o, none⟩) n c) (by simp [execOp, b0]) ⟨_, rfl, hj, .inl rfl, rfl⟩
            · have b6 : a'.eval (.tmp 6) = .int .i64 k := hb' 6 (by rfl); have c6 := ev_get b6
              exact iv_val (v := .int .i64 k) (by simp [execOp, b6]) ⟨_, rfl, hj, .inl rfl, rfl⟩
            · have v1 : a'.eval (.tmp 51) = .slice (some ⟨b, o, none⟩) n c := hd ⟨1, .data⟩ (by simp) rfl (by intro j _ hc; revert hc; unfold peCons; simp; try omega); have u1 := ev_get v1
              have v2 : a'.eval (.tmp 52) = .int .i64 k := hd ⟨2, .data⟩ (by simp) rfl (by intro j _ hc; revert hc; unfold peCons; simp; try omega); have u2 := ev_get v2
              exact iv_val (v := .slice (some ⟨b, o, none⟩) k c) (by simp [execOp, u1, u2, hqc, go_sem, Result.andThen]) ⟨_, rfl, hj, .inl rfl, (show isRdE W0 (xs.take k) _ wk from hfr)⟩
            · have e0 : isEmpE W0.heap.size (a'.eval (.tmp 50)) wk := hd ⟨0, .data⟩ (by simp) rfl (by intro j _ hc; revert hc; unfold peCons; simp; try omega)
              obtain ⟨b0, v0, hb0, hh0, o0⟩ := e0
              have e3 : isRdE W0 (xs.take k) (a'.eval (.tmp 53)) wk := hd ⟨3, .data⟩ (by simp) rfl (by intro j _ hc; revert hc; unfold peCons; simp; try omega)
              obtain ⟨i0, hi0, hz0, hz1, hz2⟩ := info_parts info_ent
              refine wp_cat (enc := encE) wk (.tmp 50) (.tmp 53) 30 rfl W0.heap.size 37 i0 _ 2 24 Tryd.underlying30 hi0 hz0 hz1 hz2 rfl (by decide) (a'.eval (.tmp 50)) (a'.eval (.tmp 53)) [] (xs.take k) rfl rfl o0 _ (Rd.below e3 hj (Nat.le_refl _)) encE_one (by have := HN.out; simp <;> omega) (by decide) hj.size ?_
              intro v' w' ho hg hg'
              rw [v0] at hg
              exact ⟨_, rfl, hj.grown hg hj.size (fun g hg1 => by simp [Value.ownBlock] at hg1; omega), .inr (.inr (.inl ⟨rfl, b0, hh0, hg⟩)), (show isOwnE _ _ _ _ from ho)⟩
            · have b3 : a'.eval (.tmp 3) = .pointer (some ⟨w.heap.size, 0, none⟩) := hb' 3 (by rfl); have c3 := ev_get b3
              obtain ⟨x0, x1, _, _⟩ := two_cells_of ((hj.block _ hlt0).trans hbox)
              exact iv_val (v := .agg #[.string e.name, .int .i64 e.print]) (by simp [execOp, c3, x0, x1, go_sem, Result.andThen]) ⟨_, rfl, hj, .inl rfl, rfl⟩
            · have v5 : a'.eval (.tmp 55) = .agg #[.string e.name, .int .i64 e.print] := hd ⟨5, .data⟩ (by simp) rfl (by intro j _ hc; revert hc; unfold peCons; simp; try omega); have u5 := ev_get v5
              exact iv_val (v := .slice (some ⟨wk.heap.size, 0, none⟩) 1 1) (w' := wk.alloc (.cells #[.string e.name, .int .i64 e.print] 37)) (by simp [execOp, u5, go_sem, Result.andThen]) ⟨_, rfl, hj.alloc hj.size _, .inr (.inl ((Below.refl _ _).alloc (Nat.le_refl _) _)), (show isLitE _ _ _ _ from ⟨_, rfl, hj.size, heap_alloc_new _ _⟩)⟩
            · have e4 : isOwnE W0.heap.size ([] ++ xs.take k) (a'.eval (.tmp 54)) wk := hd ⟨4, .data⟩ (by simp) rfl (by intro j _ hc; revert hc; unfold peCons; simp; try omega)
              have e8 : isLitE W0.heap.size e (a'.eval (.tmp 56)) wk := hd ⟨6, .data⟩ (by simp) rfl (by intro j _ hc; revert hc; unfold peCons; simp; try omega)
              obtain ⟨b8, v8, hb8, hh8⟩ := e8
              obtain ⟨i0, hi0, hz0, hz1, hz2⟩ := info_parts info_ent
              refine wp_cat (enc := encE) wk (.tmp 54) (.tmp 56) 30 rfl W0.heap.size 37 i0 _ 2 24 Tryd.underlying30 hi0 hz0 hz1 hz2 rfl (by decide) (a'.eval (.tmp 54)) (.slice (some ⟨b8, 0, none⟩) 1 1) ([] ++ xs.take k) [e] rfl v8 e4 _ (lit_rdE hh8) encE_one (by have := HN.out; simp <;> omega) (by decide) hj.size ?_
              intro v' w' ho hg hg'
              exact ⟨_, rfl, hj.grown hg hj.size (fun g hg1 => (Own.lt e4 g hg1).1), .inr (.inr (.inr (.inl rfl))), (show isOwnE _ _ _ _ from ho)⟩
            · have b7 : a'.eval (.tmp 7) = (.slice ra (n - (k + 1)) (c - (k + 1))) := hb' 7 (by rfl); have c7 := ev_get b7
              exact iv_val (v := (.slice ra (n - (k + 1)) (c - (k + 1)))) (by simp [execOp, b7]) ⟨_, rfl, hj, .inl rfl, (show isRdE W0 (xs.drop (k + 1)) _ wk from hbk)⟩
            · have e9 : isOwnE W0.heap.size ([] ++ xs.take k ++ [e]) (a'.eval (.tmp 57)) wk := hd ⟨7, .data⟩ (by simp) rfl (by intro j _ hc; revert hc; unfold peCons; simp; try omega)
              have e12 : isRdE W0 (xs.drop (k + 1)) (a'.eval (.tmp 58)) wk := hd ⟨8, .data⟩ (by simp) rfl (by intro j _ hc; revert hc; unfold peCons; simp; try omega)
              obtain ⟨i0, hi0, hz0, hz1, hz2⟩ := info_parts info_ent
              obtain ⟨g9, cs9, hg9, hh9, hs9⟩ := own_rowE e9 (by simp)
              refine wp_cat (enc := encE) wk (.tmp 57) (.tmp 58) 30 rfl W0.heap.size 37 i0 _ 2 24 Tryd.underlying30 hi0 hz0 hz1 hz2 rfl (by decide) (a'.eval (.tmp 57)) (a'.eval (.tmp 58)) ([] ++ xs.take k ++ [e]) (xs.drop (k + 1)) rfl rfl e9 _ (Rd.below e12 hj (Nat.le_refl _)) encE_one (by have := HN.out; simp <;> omega) (by decide) hj.size ?_
              intro v' w' ho hg hg'
              exact ⟨_, rfl, hj.grown hg hj.size (fun g hg1 => (Own.lt e9 g hg1).1), .inr (.inr (.inr (.inr ⟨rfl, g9, cs9, hh9, hs9, hg9 ▸ hg⟩))), (show isOwnE _ _ _ _ from ho)⟩
            · have e13 : isOwnE W0.heap.size ([] ++ xs.take k ++ [e] ++ (xs.drop (k + 1))) (a'.eval (.tmp 59)) wk := hd ⟨9, .data⟩ (by simp) rfl (by intro j _ hc; revert hc; unfold peCons; simp; try omega)
              exact iv_val (v := a'.eval (.tmp 59)) (by simp [execOp]) ⟨_, rfl, hj, .inl rfl, e13⟩
          case fin =>
            intro tm w4 hj hF
            have o15 : OwnE w4 W0.heap.size (tm.getD 8 undef) ([] ++ xs.take k ++ [e] ++ (xs.drop (k + 1))) := hF 10 _ rfl (fun j => by unfold peCons; simp)
            rw [List.nil_append] at o15
            clear hF
            simp only [refillL, List.setIfInBounds_toArray, List.set_cons_succ, List.set_cons_zero]
            obtain ⟨sv, hsv⟩ : ∃ sv, tm.getD 8 undef = sv := ⟨_, rfl⟩
            rw [hsv] at o15 ⊢
            rw [HPE.out] at o15
            clear hsv
            have HO15 := hid o15
            have HJ := hid hj
            clear o15 hj hfr hbk hbox
            cases hpe : entsOk (putE xs e)
            · have HO := hid (show putEnt xs e = (xs, false) by unfold putEnt; rw [HK.out, hpe]; rfl)
              have HPK := hid hpe
              clear hpe
              go_wp2_with fail
              refine (spec_EntriesValid_c _ (putE xs e) _ _ (Rd.of_own HO15.out) HPX.out HPL.out).mono ?_
              rw [HPK.out]
              rintro e' w5 ⟨rfl, z5, rfl⟩
              have d5 := bl_drewN HJ.out z5
              go_wp2_with (at_builtin; refine wpList_cat (enc := encE) (w0 := W0) rfl _ _ 30 rfl (w4.drewN z5).heap.size W0.heap.size 37 i0 _ 2 24 Tryd.underlying30 hi0 hz0 hz1 hz2 rfl (by decide) _ _ [] xs (Own.made _ (Nat.le_refl _)) _ ((HH.out.below d5 (Nat.le_refl _)).below ((Below.refl _ _).alloc (Nat.le_refl _) _) d5.size) (d5.alloc d5.size _) (by simp) d5.size rfl rfl encE_one (by have := HN.out; simp; omega) (by decide) ?_; intro v' w' hown' hb' hB' hg')
              go_ret2
              exact ⟨v', by rw [HO.out]; rfl, by rw [HO.out]; exact hown'.less (Nat.le_trans hB0 d5.size), bl_then d0 hb'⟩
            · have HO := hid (show putEnt xs e = (putE xs e, true) by unfold putEnt; rw [HK.out, hpe]; rfl)
              have HPK := hid hpe
              clear hpe
              go_wp2_with fail
              refine (spec_EntriesValid_c _ (putE xs e) _ _ (Rd.of_own HO15.out) HPX.out HPL.out).mono ?_
              rw [HPK.out]
              rintro e' w5 ⟨rfl, z5, rfl⟩
              go_wp2
              go_ret2
              exact ⟨sv, by rw [HO.out]; rfl, by rw [HO.out]; exact (HO15.out.less hB0).drewN z5, bl_then d0 (bl_drewN HJ.out z5)⟩
        · have hd2 : (t.toList == e.name.toList) = false := by rw [hs]; exact decide_eq_false hte
          have HIS := hid (show isNm xs e.name k = false by
            cases hh : isNm xs e.name k
            · rfl
            · obtain ⟨y, hy, hyn⟩ := isNm_iff.1 hh
              rw [hx.out] at hy
              obtain rfl := Option.some.inj hy
              exact absurd hyn hte)
          have HPE := hid (show xs.take k ++ [e] ++ xs.drop k = putE xs e by rw [putE_eq, HQ.out]; unfold behind; rw [HQ.out, HIS.out]; simp)
          clear hs hte
          go_wp2
          go_quiet (fail)
          go_wp2
          go_quiet (fail)
          go_wp2
          refine drew_out W1 (by first | exact ⟨_, rfl⟩ | exact ⟨_, World.drewN_drewN _ _ _⟩) ?_
          rintro W0 ⟨z0, hW0⟩
          have d0 : Below w.heap.size w W0 := by rw [hW0]; exact bl_drewN d1 _
          have hB0 : w.heap.size ≤ W0.heap.size := d0.size
          have HH : Hid (Ents W0 W0.heap.size (.slice (some ⟨b, o, none⟩) n c) xs) := by rw [hW0]; exact (H1.out.drewN _).more (by have := d1.size; simpa using this)
          have hbox : W0.heap[w.heap.size]? = some (.cells #[.string e.name, .int .i64 e.print] 37 (0, 0)) := by rw [hW0]; exact HBX.out
          have hlt0 := (Array.getElem?_eq_some_iff.1 hbox).1
          have hfr := HH.out.frontE HN.out (q := k) (by omega)
          have hbk := HH.out.backE HN.out (q := k) (by omega)
          rw [show (if c = k then (some ⟨b, o, none⟩) else ((some ⟨b, o, none⟩) : Option Addr).map (fun (x : Addr) => x.add ((k) * 2))) = some ⟨b, o + k * 2, none⟩ by rw [if_neg (by omega)]; simp [Addr.add]] at hbk
          refine wp_region_inv3d rfl (by kernel_rfl) (by kernel_rfl) (by kernel_rfl) (by kernel_rfl) (by simp) (fun _ w' => Below W0.heap.size W0 w') (fun j w' w'' => peS j w' w'') (fact (peF W0 (.slice (some ⟨b, o, none⟩) n c) xs k e (xs.drop k))) peCons (Below.refl _ _).drew ?hF ?grd ?oo ?cg ?fin
          case hF =>
            intro j i v w' w'' hS hc hne hwt hdp hf
            have hi : i < 11 ∨ 11 ≤ i := by omega
            rcases hi with hi | hi
            · obtain rfl | rfl | rfl | rfl | rfl | rfl | rfl | rfl | rfl | rfl | rfl : i = 0 ∨ i = 1 ∨ i = 2 ∨ i = 3 ∨ i = 4 ∨ i = 5 ∨ i = 6 ∨ i = 7 ∨ i = 8 ∨ i = 9 ∨ i = 10 := by omega
              · rcases hS with rfl | hb | ⟨rfl, b, hh, hg⟩ | rfl | ⟨rfl, g, cs, hh, hs, hg⟩
                · exact hf
                · obtain ⟨b0, h1, h2, h3, h4⟩ := hf; exact ⟨b0, h1, h2, (hb.block b0 (Array.getElem?_eq_some_iff.1 h3).1).trans h3, h4.on hb⟩
                · simp [peCons] at hc
                · have h9 := hdp _ rfl ⟨4, .data⟩ (by simp) rfl; simp [peCons] at h9
                · obtain ⟨b0, h1, h2, h3, h4⟩ := hf
                  have hne' : b0 ≠ g := by rintro rfl; rw [h3] at hh; simp at hh; subst hh; simp at hs
                  exact ⟨b0, h1, h2, (hg.block b0 (Array.getElem?_eq_some_iff.1 h3).1 (some_ne' hne')).trans h3, h4.kept hg (.inr (by rw [h1]; exact some_ne' hne'))⟩
              · exact hf
              · exact hf
              · exact hf
              · rcases hS with rfl | hb | ⟨rfl, b, hh, hg⟩ | rfl | ⟨rfl, g, cs, hh, hs, hg⟩
                · exact hf
                · exact Own.on hf hb
                · exact absurd rfl hne
                · simp [peCons] at hc
                · have h9 := hdp _ rfl ⟨7, .data⟩ (by simp) rfl; simp [peCons] at h9
              · exact hf
              · rcases hS with rfl | hb | ⟨rfl, b, hh, hg⟩ | rfl | ⟨rfl, g, cs, hh, hs, hg⟩
                · exact hf
                · obtain ⟨b0, h1, h2, h3⟩ := hf; exact ⟨b0, h1, h2, (hb.block b0 (Array.getElem?_eq_some_iff.1 h3).1).trans h3⟩
                · obtain ⟨b0, h1, h2, h3⟩ := hf; exact ⟨b0, h1, h2, (hg.block b0 (Array.getElem?_eq_some_iff.1 h3).1 (some_ne' (by rintro rfl; rw [hh] at h3; simp at h3))).trans h3⟩
                · simp [peCons] at hc
                · have h9 := hdp _ rfl ⟨7, .data⟩ (by simp) rfl; simp [peCons] at h9
              · rcases hS with rfl | hb | ⟨rfl, b, hh, hg⟩ | rfl | ⟨rfl, g, cs, hh, hs, hg⟩
                · exact hf
                · exact Own.on hf hb
                · exact own_far_empE hf hh hg (by simp <;> omega)
                · exact absurd rfl hne
                · simp [peCons] at hc
              · exact hf
              · rcases hS with rfl | hb | ⟨rfl, b, hh, hg⟩ | rfl | ⟨rfl, g, cs, hh, hs, hg⟩
                · exact hf
                · exact Own.on hf hb
                · exact own_far_empE hf hh hg (by simp <;> omega)
                · exact absurd (hwt.symm.trans (c := true) (by kernel_rfl)) (by decide)
                · exact absurd rfl hne
              · rcases hS with rfl | hb | ⟨rfl, b, hh, hg⟩ | rfl | ⟨rfl, g, cs, hh, hs, hg⟩
                · exact hf
                · exact Own.on hf hb
                · exact own_far_empE hf hh hg (by simp <;> omega)
                · exact absurd (hwt.symm.trans (c := true) (by kernel_rfl)) (by decide)
                · exact absurd (hwt.symm.trans (c := true) (by kernel_rfl)) (by decide)
            · unfold fact at *; rw [List.getD_eq_getElem?_getD, List.getElem?_eq_none (by simpa [peF] using hi)]; trivial
          case grd =>
            intro i oo d bb hi hg v w' hf
            obtain ⟨hlt1, rfl⟩ := Array.getElem?_eq_some_iff.1 hi
            have hlt' : i < 11 := hlt1
            clear hi
            obtain rfl | rfl | rfl | rfl | rfl | rfl | rfl | rfl | rfl | rfl | rfl : i = 0 ∨ i = 1 ∨ i = 2 ∨ i = 3 ∨ i = 4 ∨ i = 5 ∨ i = 6 ∨ i = 7 ∨ i = 8 ∨ i = 9 ∨ i = 10 := by omega
            all_goals simp at hg
          case cg =>
            intro i oo d bb hi hg j
            obtain ⟨hlt1, rfl⟩ := Array.getElem?_eq_some_iff.1 hi
            have hlt' : i < 11 := hlt1
            clear hi
            obtain rfl | rfl | rfl | rfl | rfl | rfl | rfl | rfl | rfl | rfl | rfl : i = 0 ∨ i = 1 ∨ i = 2 ∨ i = 3 ∨ i = 4 ∨ i = 5 ∨ i = 6 ∨ i = 7 ∨ i = 8 ∨ i = 9 ∨ i = 10 := by omega
            all_goals simp at hg
          case oo =>
            intro i oo hi qn a' wk hnn hj hb' hd
            obtain ⟨hlt1, rfl⟩ := Array.getElem?_eq_some_iff.1 hi
            have hlt' : i < 11 := hlt1
            clear hi
            obtain rfl | rfl | rfl | rfl | rfl | rfl | rfl | rfl | rfl | rfl | rfl : i = 0 ∨ i = 1 ∨ i = 2 ∨ i = 3 ∨ i = 4 ∨ i = 5 ∨ i = 6 ∨ i = 7 ∨ i = 8 ∨ i = 9 ∨ i = 10 := by omega
            · exact iv_val (v := .slice (some ⟨wk.heap.size, 0, none⟩) 0 0) (w' := wk.alloc (.cells #[] 37)) (by simp [execOp, go_sem, Result.andThen]) ⟨_, rfl, hj.alloc hj.size _, .inr (.inl ((Below.refl _ _).alloc (Nat.le_refl _) _)), (show isEmpE _ _ _ from ⟨_, rfl, hj.size, heap_alloc_new _ _, Own.made _ hj.size⟩)⟩
            · have b0 : a'.eval (.tmp 0) = .slice (some ⟨b, o, none⟩) n c := hb' 0 (by rfl); have c0 := ev_get b0
              exact iv_val (v := .slice (some ⟨b, o, none⟩) n c) (by simp [execOp, b0]) ⟨_, rfl, hj, .inl rfl, rfl⟩
            · have b6 : a'.eval (.tmp 6) = .int .i64 k := hb' 6 (by rfl); have c6 := ev_get b6
              exact iv_val (v := .int .i64 k) (by simp [execOp, b6]) ⟨_, rfl, hj, .inl rfl, rfl⟩
            · have v1 : a'.eval (.tmp 51) = .slice (some ⟨b, o, none⟩) n c := hd ⟨1, .data⟩ (by simp) rfl (by intro j _ hc; revert hc; unfold peCons; simp; try omega); have u1 := ev_get v1
              have v2 : a'.eval (.tmp 52) = .int .i64 k := hd ⟨2, .data⟩ (by simp) rfl (by intro j _ hc; revert hc; unfold peCons; simp; try omega); have u2 := ev_get v2
              exact iv_val (v := .slice (some ⟨b, o, none⟩) k c) (by simp [execOp, u1, u2, hqc, go_sem, Result.andThen]) ⟨_, rfl, hj, .inl rfl, (show isRdE W0 (xs.take k) _ wk from hfr)⟩
            · have e0 : isEmpE W0.heap.size (a'.eval (.tmp 50)) wk := hd ⟨0, .data⟩ (by simp) rfl (by intro j _ hc; revert hc; unfold peCons; simp; try omega)
              obtain ⟨b0, v0, hb0, hh0, o0⟩ := e0
              have e3 : isRdE W0 (xs.take k) (a'.eval (.tmp 53)) wk := hd ⟨3, .data⟩ (by simp) rfl (by intro j _ hc; revert hc; unfold peCons; simp; try omega)
              obtain ⟨i0, hi0, hz0, hz1, hz2⟩ := info_parts info_ent
              refine wp_cat (enc := encE) wk (.tmp 50) (.tmp 53) 30 rfl W0.heap.size 37 i0 _ 2 24 Tryd.underlying30 hi0 hz0 hz1 hz2 rfl (by decide) (a'.eval (.tmp 50)) (a'.eval (.tmp 53)) [] (xs.take k) rfl rfl o0 _ (Rd.below e3 hj (Nat.le_refl _)) encE_one (by have := HN.out; simp <;> omega) (by decide) hj.size ?_
              intro v' w' ho hg hg'
              rw [v0] at hg
              exact ⟨_, rfl, hj.grown hg hj.size (fun g hg1 => by simp [Value.ownBlock] at hg1; omega), .inr (.inr (.inl ⟨rfl, b0, hh0, hg⟩)), (show isOwnE _ _ _ _ from ho)⟩
            · have b3 : a'.eval (.tmp 3) = .pointer (some ⟨w.heap.size, 0, none⟩) := hb' 3 (by rfl); have c3 := ev_get b3
              obtain ⟨x0, x1, _, _⟩ := two_cells_of ((hj.block _ hlt0).trans hbox)
              exact iv_val (v := .agg #[.string e.name, .int .i64 e.print]) (by simp [execOp, c3, x0, x1, go_sem, Result.andThen]) ⟨_, rfl, hj, .inl rfl, rfl⟩
            · have v5 : a'.eval (.tmp 55) = .agg #[.string e.name, .int .i64 e.print] := hd ⟨5, .data⟩ (by simp) rfl (by intro j _ hc; revert hc; unfold peCons; simp; try omega); have u5 := ev_get v5
              exact iv_val (v := .slice (some ⟨wk.heap.size, 0, none⟩) 1 1) (w' := wk.alloc (.cells #[.string e.name, .int .i64 e.print] 37)) (by simp [execOp, u5, go_sem, Result.andThen]) ⟨_, rfl, hj.alloc hj.size _, .inr (.inl ((Below.refl _ _).alloc (Nat.le_refl _) _)), (show isLitE _ _ _ _ from ⟨_, rfl, hj.size, heap_alloc_new _ _⟩)⟩
            · have e4 : isOwnE W0.heap.size ([] ++ xs.take k) (a'.eval (.tmp 54)) wk := hd ⟨4, .data⟩ (by simp) rfl (by intro j _ hc; revert hc; unfold peCons; simp; try omega)
              have e8 : isLitE W0.heap.size e (a'.eval (.tmp 56)) wk := hd ⟨6, .data⟩ (by simp) rfl (by intro j _ hc; revert hc; unfold peCons; simp; try omega)
              obtain ⟨b8, v8, hb8, hh8⟩ := e8
              obtain ⟨i0, hi0, hz0, hz1, hz2⟩ := info_parts info_ent
              refine wp_cat (enc := encE) wk (.tmp 54) (.tmp 56) 30 rfl W0.heap.size 37 i0 _ 2 24 Tryd.underlying30 hi0 hz0 hz1 hz2 rfl (by decide) (a'.eval (.tmp 54)) (.slice (some ⟨b8, 0, none⟩) 1 1) ([] ++ xs.take k) [e] rfl v8 e4 _ (lit_rdE hh8) encE_one (by have := HN.out; simp <;> omega) (by decide) hj.size ?_
              intro v' w' ho hg hg'
              exact ⟨_, rfl, hj.grown hg hj.size (fun g hg1 => (Own.lt e4 g hg1).1), .inr (.inr (.inr (.inl rfl))), (show isOwnE _ _ _ _ from ho)⟩
            · have b7 : a'.eval (.tmp 7) = (.slice (some ⟨b, o + k * 2, none⟩) (n - k) (c - k)) := hb' 7 (by rfl); have c7 := ev_get b7
              exact iv_val (v := (.slice (some ⟨b, o + k * 2, none⟩) (n - k) (c - k))) (by simp [execOp, b7]) ⟨_, rfl, hj, .inl rfl, (show isRdE W0 (xs.drop k) _ wk from hbk)⟩
            · have e9 : isOwnE W0.heap.size ([] ++ xs.take k ++ [e]) (a'.eval (.tmp 57)) wk := hd ⟨7, .data⟩ (by simp) rfl (by intro j _ hc; revert hc; unfold peCons; simp; try omega)
              have e12 : isRdE W0 (xs.drop k) (a'.eval (.tmp 58)) wk := hd ⟨8, .data⟩ (by simp) rfl (by intro j _ hc; revert hc; unfold peCons; simp; try omega)
              obtain ⟨i0, hi0, hz0, hz1, hz2⟩ := info_parts info_ent
              obtain ⟨g9, cs9, hg9, hh9, hs9⟩ := own_rowE e9 (by simp)
              refine wp_cat (enc := encE) wk (.tmp 57) (.tmp 58) 30 rfl W0.heap.size 37 i0 _ 2 24 Tryd.underlying30 hi0 hz0 hz1 hz2 rfl (by decide) (a'.eval (.tmp 57)) (a'.eval (.tmp 58)) ([] ++ xs.take k ++ [e]) (xs.drop k) rfl rfl e9 _ (Rd.below e12 hj (Nat.le_refl _)) encE_one (by have := HN.out; simp <;> omega) (by decide) hj.size ?_
              intro v' w' ho hg hg'
              exact ⟨_, rfl, hj.grown hg hj.size (fun g hg1 => (Own.lt e9 g hg1).1), .inr (.inr (.inr (.inr ⟨rfl, g9, cs9, hh9, hs9, hg9 ▸ hg⟩))), (show isOwnE _ _ _ _ from ho)⟩
            · have e13 : isOwnE W0.heap.size ([] ++ xs.take k ++ [e] ++ (xs.drop k)) (a'.eval (.tmp 59)) wk := hd ⟨9, .data⟩ (by simp) rfl (by intro j _ hc; revert hc; unfold peCons; simp; try omega)
              exact iv_val (v := a'.eval (.tmp 59)) (by simp [execOp]) ⟨_, rfl, hj, .inl rfl, e13⟩
          case fin =>
            intro tm w4 hj hF
            have o15 : OwnE w4 W0.heap.size (tm.getD 8 undef) ([] ++ xs.take k ++ [e] ++ (xs.drop k)) := hF 10 _ rfl (fun j => by unfold peCons; simp)
            rw [List.nil_append] at o15
            clear hF
            simp only [refillL, List.setIfInBounds_toArray, List.set_cons_succ, List.set_cons_zero]
            obtain ⟨sv, hsv⟩ : ∃ sv, tm.getD 8 undef = sv := ⟨_, rfl⟩
            rw [hsv] at o15 ⊢
            rw [HPE.out] at o15
            clear hsv
            have HO15 := hid o15
            have HJ := hid hj
            clear o15 hj hfr hbk hbox
            cases hpe : entsOk (putE xs e)
            · have HO := hid (show putEnt xs e = (xs, false) by unfold putEnt; rw [HK.out, hpe]; rfl)
              have HPK := hid hpe
              clear hpe
              go_wp2_with fail
              refine (spec_EntriesValid_c _ (putE xs e) _ _ (Rd.of_own HO15.out) HPX.out HPL.out).mono ?_
              rw [HPK.out]
              rintro e' w5 ⟨rfl, z5, rfl⟩
              have d5 := bl_drewN HJ.out z5
              go_wp2_with (at_builtin; refine wpList_cat (enc := encE) (w0 := W0) rfl _ _ 30 rfl (w4.drewN z5).heap.size W0.heap.size 37 i0 _ 2 24 Tryd.underlying30 hi0 hz0 hz1 hz2 rfl (by decide) _ _ [] xs (Own.made _ (Nat.le_refl _)) _ ((HH.out.below d5 (Nat.le_refl _)).below ((Below.refl _ _).alloc (Nat.le_refl _) _) d5.size) (d5.alloc d5.size _) (by simp) d5.size rfl rfl encE_one (by have := HN.out; simp; omega) (by decide) ?_; intro v' w' hown' hb' hB' hg')
              go_ret2
              exact ⟨v', by rw [HO.out]; rfl, by rw [HO.out]; exact hown'.less (Nat.le_trans hB0 d5.size), bl_then d0 hb'⟩
            · have HO := hid (show putEnt xs e = (putE xs e, true) by unfold putEnt; rw [HK.out, hpe]; rfl)
              have HPK := hid hpe
              clear hpe
              go_wp2_with fail
              refine (spec_EntriesValid_c _ (putE xs e) _ _ (Rd.of_own HO15.out) HPX.out HPL.out).mono ?_
              rw [HPK.out]
              rintro e' w5 ⟨rfl, z5, rfl⟩
              go_wp2
              go_ret2
              exact ⟨sv, by rw [HO.out]; rfl, by rw [HO.out]; exact (HO15.out.less hB0).drewN z5, bl_then d0 (bl_drewN HJ.out z5)⟩
      · have hd0 : decide (k < n) = false := by simp; omega
        have HIS := hid (show isNm xs e.name k = false by
          cases hh : isNm xs e.name k
          · rfl
          · obtain ⟨y, hy, hyn⟩ := isNm_iff.1 hh
            have := (List.getElem?_eq_some_iff.1 hy).1
            have := HN.out
            omega)
        have HPE := hid (show xs.take k ++ [e] ++ xs.drop k = putE xs e by rw [putE_eq, HQ.out]; unfold behind; rw [HQ.out, HIS.out]; simp)
        obtain ⟨ra, hra⟩ : ∃ ra : Option Addr, (if c = k then a else Option.map (fun (x : Addr) => x.add (k * 2)) a) = ra := ⟨_, rfl⟩
        clear h3'
        go_wp2
        go_quiet (fail)
        go_wp2
        go_quiet (fail)
        go_wp2
        refine drew_out W1 (by first | exact ⟨_, rfl⟩ | exact ⟨_, World.drewN_drewN _ _ _⟩) ?_
        rintro W0 ⟨z0, hW0⟩
        have d0 : Below w.heap.size w W0 := by rw [hW0]; exact bl_drewN d1 _
        have hB0 : w.heap.size ≤ W0.heap.size := d0.size
        have HH : Hid (Ents W0 W0.heap.size (.slice a n c) xs) := by rw [hW0]; exact (H1.out.drewN _).more (by have := d1.size; simpa using this)
        have hbox : W0.heap[w.heap.size]? = some (.cells #[.string e.name, .int .i64 e.print] 37 (0, 0)) := by rw [hW0]; exact HBX.out
        have hlt0 := (Array.getElem?_eq_some_iff.1 hbox).1
        have hfr := HH.out.frontE HN.out (q := k) (by omega)
        have hbk := HH.out.backE HN.out (q := k) (by omega)
        rw [show (if c = k then a else (a : Option Addr).map (fun (x : Addr) => x.add ((k) * 2))) = ra by rw [← hra]] at hbk
        refine wp_region_inv3d rfl (by kernel_rfl) (by kernel_rfl) (by kernel_rfl) (by kernel_rfl) (by simp) (fun _ w' => Below W0.heap.size W0 w') (fun j w' w'' => peS j w' w'') (fact (peF W0 (.slice a n c) xs k e (xs.drop k))) peCons (Below.refl _ _).drew ?hF ?grd ?oo ?cg ?fin
        case hF =>
          intro j i v w' w'' hS hc hne hwt hdp hf
          have hi : i < 11 ∨ 11 ≤ i := by omega
          rcases hi with hi | hi
          · obtain rfl | rfl | rfl | rfl | rfl | rfl | rfl | rfl | rfl | rfl | rfl : i = 0 ∨ i = 1 ∨ i = 2 ∨ i = 3 ∨ i = 4 ∨ i = 5 ∨ i = 6 ∨ i = 7 ∨ i = 8 ∨ i = 9 ∨ i = 10 := by omega
            · rcases hS with rfl | hb | ⟨rfl, b, hh, hg⟩ | rfl | ⟨rfl, g, cs, hh, hs, hg⟩
              · exact hf
              · obtain ⟨b0, h1, h2, h3, h4⟩ := hf; exact ⟨b0, h1, h2, (hb.block b0 (Array.getElem?_eq_some_iff.1 h3).1).trans h3, h4.on hb⟩
              · simp [peCons] at hc
              · have h9 := hdp _ rfl ⟨4, .data⟩ (by simp) rfl; simp [peCons] at h9
              · obtain ⟨b0, h1, h2, h3, h4⟩ := hf
                have hne' : b0 ≠ g := by rintro rfl; rw [h3] at hh; simp at hh; subst hh; simp at hs
                exact ⟨b0, h1, h2, (hg.block b0 (Array.getElem?_eq_some_iff.1 h3).1 (some_ne' hne')).trans h3, h4.kept hg (.inr (by rw [h1]; exact some_ne' hne'))⟩
            · exact hf
            · exact hf
            · exact hf
            · rcases hS with rfl | hb | ⟨rfl, b, hh, hg⟩ | rfl | ⟨rfl, g, cs, hh, hs, hg⟩
              · exact hf
              · exact Own.on hf hb
              · exact absurd rfl hne
              · simp [peCons] at hc
              · have h9 := hdp _ rfl ⟨7, .data⟩ (by simp) rfl; simp [peCons] at h9
            · exact hf
            · rcases hS with rfl | hb | ⟨rfl, b, hh, hg⟩ | rfl | ⟨rfl, g, cs, hh, hs, hg⟩
              · exact hf
              · obtain ⟨b0, h1, h2, h3⟩ := hf; exact ⟨b0, h1, h2, (hb.block b0 (Array.getElem?_eq_some_iff.1 h3).1).trans h3⟩
              · obtain ⟨b0, h1, h2, h3⟩ := hf; exact ⟨b0, h1, h2, (hg.block b0 (Array.getElem?_eq_some_iff.1 h3).1 (some_ne' (by rintro rfl; rw [hh] at h3; simp at h3))).trans h3⟩
              · simp [peCons] at hc
              · have h9 := hdp _ rfl ⟨7, .data⟩ (by simp) rfl; simp [peCons] at h9
            · rcases hS with rfl | hb | ⟨rfl, b, hh, hg⟩ | rfl | ⟨rfl, g, cs, hh, hs, hg⟩
              · exact hf
              · exact Own.on hf hb
              · exact own_far_empE hf hh hg (by simp <;> omega)
              · exact absurd rfl hne
              · simp [peCons] at hc
            · exact hf
            · rcases hS with rfl | hb | ⟨rfl, b, hh, hg⟩ | rfl | ⟨rfl, g, cs, hh, hs, hg⟩
              · exact hf
              · exact Own.on hf hb
              · exact own_far_empE hf hh hg (by simp <;> omega)
              · exact absurd (hwt.symm.trans (c := true) (by kernel_rfl)) (by decide)
              · exact absurd rfl hne
            · rcases hS with rfl | hb | ⟨rfl, b, hh, hg⟩ | rfl | ⟨rfl, g, cs, hh, hs, hg⟩
              · exact hf
              · exact Own.on hf hb
              · exact own_far_empE hf hh hg (by simp <;> omega)
              · exact absurd (hwt.symm.trans (c := true) (by kernel_rfl)) (by decide)
              · exact absurd (hwt.symm.trans (c := true) (by kernel_rfl)) (by decide)
          · unfold fact at *; rw [List.getD_eq_getElem?_getD, List.getElem?_eq_none (by simpa [peF] using hi)]; trivial
        case grd =>
          intro i oo d bb hi hg v w' hf
          obtain ⟨hlt1, rfl⟩ := Array.getElem?_eq_some_iff.1 hi
          have hlt' : i < 11 := hlt1
          clear hi
          obtain rfl | rfl | rfl | rfl | rfl | rfl | rfl | rfl | rfl | rfl | rfl : i = 0 ∨ i = 1 ∨ i = 2 ∨ i = 3 ∨ i = 4 ∨ i = 5 ∨ i = 6 ∨ i = 7 ∨ i = 8 ∨ i = 9 ∨ i = 10 := by omega
          all_goals simp at hg
        case cg =>
          intro i oo d bb hi hg j
          obtain ⟨hlt1, rfl⟩ := Array.getElem?_eq_some_iff.1 hi
          have hlt' : i < 11 := hlt1
          clear hi
          obtain rfl | rfl | rfl | rfl | rfl | rfl | rfl | rfl | rfl | rfl | rfl : i = 0 ∨ i = 1 ∨ i = 2 ∨ i = 3 ∨ i = 4 ∨ i = 5 ∨ i = 6 ∨ i = 7 ∨ i = 8 ∨ i = 9 ∨ i = 10 := by omega
          all_goals simp at hg
        case oo =>
          intro i oo hi qn a' wk hnn hj hb' hd
          obtain ⟨hlt1, rfl⟩ := Array.getElem?_eq_some_iff.1 hi
          have hlt' : i < 11 := hlt1
          clear hi
          obtain rfl | rfl | rfl | rfl | rfl | rfl | rfl | rfl | rfl | rfl | rfl : i = 0 ∨ i = 1 ∨ i = 2 ∨ i = 3 ∨ i = 4 ∨ i = 5 ∨ i = 6 ∨ i = 7 ∨ i = 8 ∨ i = 9 ∨ i = 10 := by omega
          · exact iv_val (v := .slice (some ⟨wk.heap.size, 0, none⟩) 0 0) (w' := wk.alloc (.cells #[] 37)) (by simp [execOp, go_sem, Result.andThen]) ⟨_, rfl, hj.alloc hj.size _, .inr (.inl ((Below.refl _ _).alloc (Nat.le_refl _) _)), (show isEmpE _ _ _ from ⟨_, rfl, hj.size, heap_alloc_new _ _, Own.made _ hj.size⟩)⟩
          · have b0 : a'.eval (.tmp 0) = .slice a n c := hb' 0 (by rfl); have c0 := ev_get b0
            exact iv_val (v := .slice a n c) (by simp [execOp, b0]) ⟨_, rfl, hj, .inl rfl, rfl⟩
          · have b6 : a'.eval (.tmp 6) = .int .i64 k := hb' 6 (by rfl); have c6 := ev_get b6
            exact iv_val (v := .int .i64 k) (by simp [execOp, b6]) ⟨_, rfl, hj, .inl rfl, rfl⟩
          · have v1 : a'.eval (.tmp 51) = .slice a n c := hd ⟨1, .data⟩ (by simp) rfl (by intro j _ hc; revert hc; unfold peCons; simp; try omega); have u1 := ev_get v1
            have v2 : a'.eval (.tmp 52) = .int .i64 k := hd ⟨2, .data⟩ (by simp) rfl (by intro j _ hc; revert hc; unfold peCons; simp; try omega); have u2 := ev_get v2
            exact iv_val (v := .slice a k c) (by simp [execOp, u1, u2, hqc, go_sem, Result.andThen]) ⟨_, rfl, hj, .inl rfl, (show isRdE W0 (xs.take k) _ wk from hfr)⟩
          · have e0 : isEmpE W0.heap.size (a'.eval (.tmp 50)) wk := hd ⟨0, .data⟩ (by simp) rfl (by intro j _ hc; revert hc; unfold peCons; simp; try omega)
            obtain ⟨b0, v0, hb0, hh0, o0⟩ := e0
            have e3 : isRdE W0 (xs.take k) (a'.eval (.tmp 53)) wk := hd ⟨3, .data⟩ (by simp) rfl (by intro j _ hc; revert hc; unfold peCons; simp; try omega)
            obtain ⟨i0, hi0, hz0, hz1, hz2⟩ := info_parts info_ent
            refine wp_cat (enc := encE) wk (.tmp 50) (.tmp 53) 30 rfl W0.heap.size 37 i0 _ 2 24 Tryd.underlying30 hi0 hz0 hz1 hz2 rfl (by decide) (a'.eval (.tmp 50)) (a'.eval (.tmp 53)) [] (xs.take k) rfl rfl o0 _ (Rd.below e3 hj (Nat.le_refl _)) encE_one (by have := HN.out; simp <;> omega) (by decide) hj.size ?_
            intro v' w' ho hg hg'
            rw [v0] at hg
            exact ⟨_, rfl, hj.grown hg hj.size (fun g hg1 => by simp [Value.ownBlock] at hg1; omega), .inr (.inr (.inl ⟨rfl, b0, hh0, hg⟩)), (show isOwnE _ _ _ _ from ho)⟩
          · have b3 : a'.eval (.tmp 3) = .pointer (some ⟨w.heap.size, 0, none⟩) := hb' 3 (by rfl); have c3 := ev_get b3
            obtain ⟨x0, x1, _, _⟩ := two_cells_of ((hj.block _ hlt0).trans hbox)
            exact iv_val (v := .agg #[.string e.name, .int .i64 e.print]) (by simp [execOp, c3, x0, x1, go_sem, Result.andThen]) ⟨_, rfl, hj, .inl rfl, rfl⟩
          · have v5 : a'.eval (.tmp 55) = .agg #[.string e.name, .int .i64 e.print] := hd ⟨5, .data⟩ (by simp) rfl (by intro j _ hc; revert hc; unfold peCons; simp; try omega); have u5 := ev_get v5
            exact iv_val (v := .slice (some ⟨wk.heap.size, 0, none⟩) 1 1) (w' := wk.alloc (.cells #[.string e.name, .int .i64 e.print] 37)) (by simp [execOp, u5, go_sem, Result.andThen]) ⟨_, rfl, hj.alloc hj.size _, .inr (.inl ((Below.refl _ _).alloc (Nat.le_refl _) _)), (show isLitE _ _ _ _ from ⟨_, rfl, hj.size, heap_alloc_new _ _⟩)⟩
          · have e4 : isOwnE W0.heap.size ([] ++ xs.take k) (a'.eval (.tmp 54)) wk := hd ⟨4, .data⟩ (by simp) rfl (by intro j _ hc; revert hc; unfold peCons; simp; try omega)
            have e8 : isLitE W0.heap.size e (a'.eval (.tmp 56)) wk := hd ⟨6, .data⟩ (by simp) rfl (by intro j _ hc; revert hc; unfold peCons; simp; try omega)
            obtain ⟨b8, v8, hb8, hh8⟩ := e8
            obtain ⟨i0, hi0, hz0, hz1, hz2⟩ := info_parts info_ent
            refine wp_cat (enc := encE) wk (.tmp 54) (.tmp 56) 30 rfl W0.heap.size 37 i0 _ 2 24 Tryd.underlying30 hi0 hz0 hz1 hz2 rfl (by decide) (a'.eval (.tmp 54)) (.slice (some ⟨b8, 0, none⟩) 1 1) ([] ++ xs.take k) [e] rfl v8 e4 _ (lit_rdE hh8) encE_one (by have := HN.out; simp <;> omega) (by decide) hj.size ?_
            intro v' w' ho hg hg'
            exact ⟨_, rfl, hj.grown hg hj.size (fun g hg1 => (Own.lt e4 g hg1).1), .inr (.inr (.inr (.inl rfl))), (show isOwnE _ _ _ _ from ho)⟩
          · have b7 : a'.eval (.tmp 7) = (.slice ra (n - k) (c - k)) := hb' 7 (by rfl); have c7 := ev_get b7
            exact iv_val (v := (.slice ra (n - k) (c - k))) (by simp [execOp, b7]) ⟨_, rfl, hj, .inl rfl, (show isRdE W0 (xs.drop k) _ wk from hbk)⟩
          · have e9 : isOwnE W0.heap.size ([] ++ xs.take k ++ [e]) (a'.eval (.tmp 57)) wk := hd ⟨7, .data⟩ (by simp) rfl (by intro j _ hc; revert hc; unfold peCons; simp; try omega)
            have e12 : isRdE W0 (xs.drop k) (a'.eval (.tmp 58)) wk := hd ⟨8, .data⟩ (by simp) rfl (by intro j _ hc; revert hc; unfold peCons; simp; try omega)
            obtain ⟨i0, hi0, hz0, hz1, hz2⟩ := info_parts info_ent
            obtain ⟨g9, cs9, hg9, hh9, hs9⟩ := own_rowE e9 (by simp)
            refine wp_cat (enc := encE) wk (.tmp 57) (.tmp 58) 30 rfl W0.heap.size 37 i0 _ 2 24 Tryd.underlying30 hi0 hz0 hz1 hz2 rfl (by decide) (a'.eval (.tmp 57)) (a'.eval (.tmp 58)) ([] ++ xs.take k ++ [e]) (xs.drop k) rfl rfl e9 _ (Rd.below e12 hj (Nat.le_refl _)) encE_one (by have := HN.out; simp <;> omega) (by decide) hj.size ?_
            intro v' w' ho hg hg'
            exact ⟨_, rfl, hj.grown hg hj.size (fun g hg1 => (Own.lt e9 g hg1).1), .inr (.inr (.inr (.inr ⟨rfl, g9, cs9, hh9, hs9, hg9 ▸ hg⟩))), (show isOwnE _ _ _ _ from ho)⟩
          · have e13 : isOwnE W0.heap.size ([] ++ xs.take k ++ [e] ++ (xs.drop k)) (a'.eval (.tmp 59)) wk := hd ⟨9, .data⟩ (by simp) rfl (by intro j _ hc; revert hc; unfold peCons; simp; try omega)
            exact iv_val (v := a'.eval (.tmp 59)) (by simp [execOp]) ⟨_, rfl, hj, .inl rfl, e13⟩
        case fin =>
          intro tm w4 hj hF
          have o15 : OwnE w4 W0.heap.size (tm.getD 8 undef) ([] ++ xs.take k ++ [e] ++ (xs.drop k)) := hF 10 _ rfl (fun j => by unfold peCons; simp)
          rw [List.nil_append] at o15
          clear hF
          simp only [refillL, List.setIfInBounds_toArray, List.set_cons_succ, List.set_cons_zero]
          obtain ⟨sv, hsv⟩ : ∃ sv, tm.getD 8 undef = sv := ⟨_, rfl⟩
          rw [hsv] at o15 ⊢
          rw [HPE.out] at o15
          clear hsv
          have HO15 := hid o15
          have HJ := hid hj
          clear o15 hj hfr hbk hbox
          cases hpe : entsOk (putE xs e)
          · have HO := hid (show putEnt xs e = (xs, false) by unfold putEnt; rw [HK.out, hpe]; rfl)
            have HPK := hid hpe
            clear hpe
            go_wp2_with fail
            refine (spec_EntriesValid_c _ (putE xs e) _ _ (Rd.of_own HO15.out) HPX.out HPL.out).mono ?_
            rw [HPK.out]
            rintro e' w5 ⟨rfl, z5, rfl⟩
            have d5 := bl_drewN HJ.out z5
            go_wp2_with (at_builtin; refine wpList_cat (enc := encE) (w0 := W0) rfl _ _ 30 rfl (w4.drewN z5).heap.size W0.heap.size 37 i0 _ 2 24 Tryd.underlying30 hi0 hz0 hz1 hz2 rfl (by decide) _ _ [] xs (Own.made _ (Nat.le_refl _)) _ ((HH.out.below d5 (Nat.le_refl _)).below ((Below.refl _ _).alloc (Nat.le_refl _) _) d5.size) (d5.alloc d5.size _) (by simp) d5.size rfl rfl encE_one (by have := HN.out; simp; omega) (by decide) ?_; intro v' w' hown' hb' hB' hg')
            go_ret2
            exact ⟨v', by rw [HO.out]; rfl, by rw [HO.out]; exact hown'.less (Nat.le_trans hB0 d5.size), bl_then d0 hb'⟩
          · have HO := hid (show putEnt xs e = (putE xs e, true) by unfold putEnt; rw [HK.out, hpe]; rfl)
            have HPK := hid hpe
            clear hpe
            go_wp2_with fail
            refine (spec_EntriesValid_c _ (putE xs e) _ _ (Rd.of_own HO15.out) HPX.out HPL.out).mono ?_
            rw [HPK.out]
            rintro e' w5 ⟨rfl, z5, rfl⟩
            go_wp2
            go_ret2
            exact ⟨sv, by rw [HO.out]; rfl, by rw [HO.out]; exact (HO15.out.less hB0).drewN z5, bl_then d0 (bl_drewN HJ.out z5)⟩

end Go.Proofs.YtfdhaigmekmboaaDoor

/- Walks: the reference's entries of which one is dropped. -/
namespace Go.Proofs.YtfdhaigmekmboaaDoor
open Go.RowKit

theorem drop_succ {xs : List Ent} {nm : ByteArray} {k : Nat} {x : Ent} (h : xs[k]? = some x) : dropE (xs.take (k + 1)) nm = dropE (xs.take k) nm ++ (if x.name = nm then [] else [x]) := by
  unfold dropE
  rw [take_snoc' h, List.filter_append]
  by_cases hx : x.name = nm <;> simp [hx]
theorem str_neE {u t : ByteArray} : (u.toList != t.toList) = !decide (u = t) := by
  rw [bne, str_eqE]

set_option maxHeartbeats 2000000 in
set_option maxRecDepth 100000 in
theorem spec_DropEntry_c (v : Value) (xs : List Ent) (nm : ByteArray) (w : World) (h : Ents w w.heap.size v xs) (hx0 : ∀ x ∈ xs, x.name.size ≤ 1048576) (hl0 : xs.length ≤ 1048570) :
    Calls Tryd.prog 100 #[v, .string nm] w fun en w' => ∃ v', en = .returned (.tuple #[v', .bool (dropEnt xs nm).2]) ∧ OwnE w' w.heap.size v' (dropEnt xs nm).1 ∧ Below w.heap.size w w' := by
  obtain ⟨n, hn⟩ : ∃ n, xs.length = n := ⟨_, rfl⟩
  obtain ⟨a, c, rfl, hnc, hc63, h3⟩ := h.ents hn
  have HN := hid hn
  have HX := hid hx0
  have HL := hid (show xs.length ≤ 1048576 by omega)
  rw [hn] at hl0
  have HH := hid h
  have hal : Below w.heap.size w (w.alloc (.cells #[] 37)) := (Below.refl _ _).alloc (Nat.le_refl _) _
  have hown0 : OwnE (w.alloc (.cells #[] 37)) w.heap.size (.slice (some ⟨w.heap.size, 0, none⟩) 0 0) [] := Own.made _ (Nat.le_refl _)
  clear h hx0 hn
  cases hok : entsOk xs
  · have HO := hid (show dropEnt xs nm = ([], false) by unfold dropEnt; rw [hok]; rfl)
    have HK := hid hok
    have hn0 : 0 < n := by
      rcases Nat.eq_zero_or_pos n with h0 | h0
      · have := HN.out
        rw [h0] at this
        rw [List.eq_nil_of_length_eq_zero this] at hok; cases hok
      · exact h0
    have hd0 : decide ((0 : Int) < (n : Int)) = true := by simp; omega
    have hd1 : decide (0 < n) = true := by simp; omega
    have HOWN := hid hown0
    clear hok h3 hown0
    go_enter Tryd.func100, Tryd.ntmps100
    go_wp2
    go_loopw [6, 7] (fun out i wr => out = .slice (some ⟨w.heap.size, 0, none⟩) 0 0 ∧ i = .int .i64 (0 : Nat) ∧ wr = w.alloc (.cells #[] 37)) (fun _ _ _ => 0)
    case atStart => exact ⟨rfl, rfl, rfl⟩
    case round =>
      obtain ⟨rfl, rfl, rfl⟩ := hrel
      go_wp2_with fail
      refine (spec_EntriesValid_c _ xs _ _ (HH.out.below hal (Nat.le_refl _)) HX.out HL.out).mono ?_
      rw [HK.out]
      rintro e' w1 ⟨rfl, z, rfl⟩
      go_wp2_with fail
      refine (spec_EntriesValid_c _ xs _ _ ((HH.out.below hal (Nat.le_refl _)).drewN z) HX.out HL.out).mono ?_
      rw [HK.out]
      rintro e' w2 ⟨rfl, z2, rfl⟩
      go_wp2
      go_ret2
      exact ⟨_, by rw [HO.out]; rfl, by rw [HO.out]; exact HOWN.out.drewN (z + z2), bl_drewN hal (z + z2)⟩
  have HO := hid (show dropEnt xs nm = (dropE xs nm, decide ((dropE xs nm).length < xs.length)) by unfold dropEnt; rw [hok]; rfl)
  have HK := hid hok
  have HOWN := hid hown0
  clear hok hown0
  go_enter Tryd.func100, Tryd.ntmps100
  go_wp2
  go_loopw [6, 7] (fun out i wr => ∃ (k : Nat) (acc : List Ent), k ≤ n ∧ i = .int .i64 k ∧ OwnE wr w.heap.size out acc ∧ Hid (acc = dropE (xs.take k) nm) ∧ acc.length ≤ k ∧ Below w.heap.size w wr) (fun _ i _ => n - (intOf i).toNat)
  case atStart => exact ⟨0, [], Nat.zero_le _, rfl, HOWN.out, rfl, Nat.zero_le _, hal⟩
  case round =>
    obtain ⟨k, acc, hk, rfl, hown, hacc, hlen, hb⟩ := hrel
    have hB := hb.size
    clear hal
    by_cases hlt : k < n
    · obtain ⟨b, o, t, r, rfl, hbl, hx, k0, k1⟩ := h3 k hlt
      have hd0 : decide ((k : Int) < (n : Int)) = true := by simp; omega
      have hd1 : decide (k < n) = true := by simp; omega
      have j0 := (hb.cell (p := ⟨b, o + k * 2, none⟩) hbl).trans k0
      have j1 := (hb.cell (p := ⟨b, o + k * 2 + 1, none⟩) hbl).trans k1
      have hs := str_eqE (u := t) (t := nm)
      have HF := hid (drop_succ (nm := nm) hx.out)
      have hkn' : (k : Int) < n := by omega
      clear h3 k0 k1
      go_wp2_with fail
      refine (spec_EntriesValid_c _ xs _ _ (HH.out.below hb (Nat.le_refl _)) HX.out HL.out).mono ?_
      rw [HK.out]
      rintro e' w1 ⟨rfl, z, rfl⟩
      have hb1 := bl_drewN hb z
      have hown1 := hown.drewN z
      by_cases hte : t = nm
      · have hd2 : (t.toList == nm.toList) = true := by rw [hs]; exact decide_eq_true hte
        have HF2 := hid (HF.out.trans (by rw [if_pos hte, List.append_nil]))
        clear hs hte hown
        go_wp2
        go_roundw
        case rel => exact ⟨k + 1, acc, by omega, by go_num, hown1, hid (by rw [HF2.out]; exact hacc.out), by omega, hb1⟩
        case measure => simp [intOf]; omega
      · have hd2 : (t.toList == nm.toList) = false := by rw [hs]; exact decide_eq_false hte
        have HF2 := hid (HF.out.trans (congrArg (dropE (xs.take k) nm ++ ·) (if_neg hte)))
        obtain ⟨W2, hW2⟩ : ∃ W2, W2 = wr.drewN z := ⟨_, rfl⟩
        have l0 : W2.cell? ⟨b, o + k * 2, none⟩ = some (.string t) := by rw [hW2]; exact j0
        have l1 : W2.cell? ⟨b, o + k * 2 + 1, none⟩ = some (.int .i64 r) := by rw [hW2]; exact j1
        rw [← hW2] at hb1 hown1 ⊢
        clear hs hte hown j0 j1 hW2 hb
        have hB2 := hb1.size
        go_wp2_with (at_builtin; refine push_ent (w0 := w) rfl _ _ rfl w.heap.size w.heap.size _ acc ⟨t, r⟩ hown1 hb1 hB2 (Nat.le_refl _) rfl rfl (by omega) ?_; intro v' w' hown' hb' hB' hg')
        go_roundw
        case rel => exact ⟨k + 1, acc ++ [⟨t, r⟩], by omega, by go_num, hown', hid (by rw [HF2.out, ← hacc.out]), by simp; omega, hb'⟩
        case measure => simp [intOf]; omega
    · have HA := hid (show acc = dropE xs nm by rw [hacc.out, take_all HN.out (show n ≤ k by omega)])
      have hd0 : decide ((k : Int) < (n : Int)) = false := by simp; omega
      have hd1 : decide (k < n) = false := by simp; omega
      obtain ⟨m, hm⟩ : ∃ m, acc.length = m := ⟨_, rfl⟩
      have HM := hid hm
      have HDM := hid (show decide ((dropE xs nm).length < xs.length) = decide ((m : Int) < (n : Int)) by rw [← HA.out, hm, HN.out]; simp)
      obtain ⟨a0, c0, rfl, _, _, _⟩ := (Rd.of_own hown).ents hm
      clear h3 hm
      go_wp2_with fail
      refine (spec_EntriesValid_c _ xs _ _ (HH.out.below hb (Nat.le_refl _)) HX.out HL.out).mono ?_
      rw [HK.out]
      rintro e' w1 ⟨rfl, z, rfl⟩
      have hb1 := bl_drewN hb z
      have hown1 := hown.drewN z
      go_wp2
      go_ret2
      exact ⟨.slice a0 m c0, by rw [HO.out, HDM.out]; simp, by rw [HO.out]; rw [HA.out] at hown1; exact hown1, hb1⟩

end Go.Proofs.YtfdhaigmekmboaaDoor

/- Rows of pieces of a call's own: append, copies, insertion. -/
namespace Go.Proofs.YtfdhaigmekmboaaDoor
open Go.RowKit

theorem info_pcO : (Tryd.prog.info? 34).map (fun i => (i.zero, i.size, i.bytes)) = some (some (.agg #[.int .i64 0, .string ByteArray.empty]), 2, 24) := by kernel_rfl
abbrev OwnP := Own encP 34 2
theorem lit_rdP {w : World} {b : Nat} {r : Int} {t : ByteArray} (h : w.heap[b]? = some (.cells #[.int .i64 r, .string t] 34 (0, 0))) : Pcs w w.heap.size (.slice (some ⟨b, 0, none⟩) 1 1) [⟨r, t⟩] := by
  refine ⟨_, _, rfl, by simp, by simp [maxLen], by simp, fun _ => ⟨_, _, rfl, (Array.getElem?_eq_some_iff.1 h).1, fun j u hu => ?_⟩⟩
  rw [Nat.zero_add]
  simp only [World.cell?, h]
  simpa using hu
theorem encP_one {xs : List Pc} : ∀ y ∈ xs, ∀ u ∈ encP y, u.oneCell' = true := by
  intro y _ u hu
  simp at hu
  rcases hu with rfl | rfl <;> rfl

theorem flatP_take (xs : List Pc) (i : Nat) : (xs.take i).flatMap encP = (xs.flatMap encP).take (i * 2) := by
  induction xs generalizing i with
  | nil => simp
  | cons x r ih =>
    cases i with
    | zero => simp
    | succ i => rw [List.take_succ_cons, List.flatMap_cons, List.flatMap_cons, ih, show (i + 1) * 2 = i * 2 + 1 + 1 by omega]; rfl
theorem flatP_drop (xs : List Pc) (i : Nat) : (xs.drop i).flatMap encP = (xs.flatMap encP).drop (i * 2) := by
  induction xs generalizing i with
  | nil => simp
  | cons x r ih =>
    cases i with
    | zero => simp
    | succ i => rw [List.drop_succ_cons, List.flatMap_cons, ih, show (i + 1) * 2 = i * 2 + 1 + 1 by omega]; rfl

/-- copy on elements of k cells: all is read before anything is written. -/
theorem run_copy_rowK {P : Program} (w : World) (dT sT ty elem : TypeId) (g o dLen dCap : Nat) (a : Addr) (sLen sCap : Nat) (cur : Array Value) (t : TypeId) (cs : List Value) (k n : Nat)
    (hu : P.underlying dT = some (.slice elem)) (hs : (P.info? elem).map (·.size) = some k)
    (hg : w.heap[g]? = some (.cells cur t (0, 0))) (hm : Nat.min sLen dLen = n) (hn : cs.length = n * k)
    (hsrc : ∀ j v, cs[j]? = some v → w.cell? (a.add j) = some v) (hfit : o + cs.length ≤ cur.size) (h1 : ∀ v ∈ cs, v.oneCell' = true) :
    (Builtin.copy_ #[dT, sT] ty #[.slice (some ⟨g, o, none⟩) dLen dCap, .slice (some a) sLen sCap]).run P w =
      .ok (goInt n) (w.setRow g (cur.toList.take o ++ cs ++ cur.toList.drop (o + cs.length)).toArray) := by
  have hl := run_loadCells_list (P := P) w a cs hsrc
  have hst := run_storeCells_at P g o t cs 0 cur w hg (by simpa using hfit) h1
  cases hq : P.info? elem with
  | none => simp [hq] at hs
  | some i =>
    have hi : i.size = k := by simpa [hq] using hs
    simp [Builtin.copy_, run_underlying hu, Builtin.lenOf, Builtin.firstCells, sizeOf, typeInfo, hq, hi, hm, ← hn, hl, hst]

theorem grownBy_setRow (w : World) (g : Nat) (cs : Array Value) : w.grownBy (w.setRow g cs) (some g) :=
  ⟨rfl, rfl, rfl, by simp [World.setRow], fun k _ hk => setRow_other w g k cs (fun e => hk (by rw [e]))⟩

/-- The two copies of an insertion, in place. -/
theorem shift_list {α : Type} (cur X : List α) (i n : Nat) (hX : X.length = n) (hn : n ≤ cur.length) (hcur : cur.take n = X) (k : Nat) (e : List α) (he : e.length = k) (hk : n + k ≤ cur.length) (hi : i ≤ n) :
    (let r1 := cur.take (i + k) ++ X.drop i ++ cur.drop (i + k + (X.drop i).length)
     (r1.take i ++ e ++ r1.drop (i + e.length))).take (n + k) = X.take i ++ (e ++ X.drop i) := by
  subst hX
  simp only
  have hl : (X.drop i).length = X.length - i := by simp
  have h1 : (cur.take (i + k)).length = i + k := by simp; omega
  rw [hl, he]
  have e1 : (cur.take (i + k) ++ X.drop i ++ cur.drop (i + k + (X.length - i))).take i = X.take i := by
    rw [List.append_assoc, List.take_append_of_le_length (by omega), List.take_take, Nat.min_eq_left (by omega), ← hcur, List.take_take, Nat.min_eq_left hi]
  have e2 : (cur.take (i + k) ++ X.drop i ++ cur.drop (i + k + (X.length - i))).drop (i + k) = X.drop i ++ cur.drop (i + k + (X.length - i)) := by
    rw [List.append_assoc, List.drop_append_of_le_length (by omega), List.drop_of_length_le (by omega), List.nil_append]
  rw [e1, e2, ← List.append_assoc, ← List.append_assoc]
  rw [List.take_append_of_le_length (by simp; omega), List.take_of_length_le (by simp; omega)]


end Go.Proofs.YtfdhaigmekmboaaDoor
