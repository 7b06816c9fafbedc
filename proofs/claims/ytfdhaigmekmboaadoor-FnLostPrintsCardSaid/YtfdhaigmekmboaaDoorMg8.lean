/- Walks and plain facts, joined: InvF, Reach, DrawAs, DrawRo, Reach2, ReachS, Put, Take, Sync, Same. -/
import Derived.Test.YtfdhaigmekmboaaDoorMg2
import Derived.Test.YtfdhaigmekmboaaDoorMg3
import Derived.Test.YtfdhaigmekmboaaDoorMg4
import Derived.Test.YtfdhaigmekmboaaDoorMg5
import Derived.Test.YtfdhaigmekmboaaDoorMg6
import Derived.Test.YtfdhaigmekmboaaDoorMg7
import Derived.Deep.LoopGhost
import Derived.WalkSmall
import Derived.OneCell
set_option linter.unusedVariables false

/- A region that draws its order, held by an invariant that knows which operations are done. No program in sight. -/
namespace Go.Proofs.YtfdhaigmekmboaaDoor
open Go.RowKit

section
variable {P : Program} {ops : Array Oper}
theorem wp_region_inv2f {id : Nat} {Q : Exit → Act → World → Prop} {a0 : Act} {w0 : World} (hm : P.follows .mixedOrders = true) (hp : plainG ops = true) (hgB : guardB ops = true) (hback : backB ops = true) (hptr : ptrB ops = true)
    (hdst : (ops.all fun o => match o.dst with | some t => decide (t < a0.tmps.size) | none => true) = true)
    (J : (Nat → Bool) → Nat → World → Prop) (S : Nat → World → World → Prop) (F : Nat → Value → World → Prop) (cons : Nat → Nat → Bool) (hJ : J (fun _ => false) 0 w0.drew) (hF : ∀ j i v w w', S j w w' → cons j i = false → i ≠ j → Region.waitsFor .any ops i j = false → (∀ oj, ops[j]? = some oj → ∀ e ∈ oj.after, Region.binds .any e = true → cons e.on i = false) → F i v w → F i v w')
    (hgrd : ∀ (i : Nat) (o : Oper) (d : Nat) (b : Bool), ops[i]? = some o → o.guard = some (d, b) → ∀ v w, F d v w → v = .bool b)
    (hop : ∀ (i : Nat) (o : Oper), ops[i]? = some o → ∀ (L : Nat → Bool) (n : Nat) (a : Act) (w : World), n < ops.size → L i = false → J L n w →
      (∀ t, freshT ops i t = true → a.tmps.getD t undef = a0.tmps.getD t undef) →
      (∀ e ∈ o.after, Region.binds .any e = true → (∀ j, j < ops.size → cons j e.on = true → j = i) → F e.on (slotOf2 ops e.on a) w) →
      o.wp P a w (fun a' w' => ∃ v, a' = a.put o.dst v ∧ J (fun k => if k = i then true else L k) (n + 1) w' ∧ S i w w' ∧ F i (if o.dst.isSome then v else slotOf2 ops i a) w') Q)
    (hcg : ∀ (i : Nat) (o : Oper) (d : Nat) (b : Bool), ops[i]? = some o → o.guard = some (d, b) → ∀ j, cons j d = false)
    (hend : ∀ (a : Act) (w : World), (∃ L : Nat → Bool, (∀ i, i < ops.size → L i = true) ∧ J L ops.size w) → a.tmps.size = a0.tmps.size → a.defers = a0.defers → (∀ t, looseB ops t = true → a.tmps.getD t undef = a0.tmps.getD t undef) → (∀ (i : Nat) (o : Oper), ops[i]? = some o → (∀ j, cons j i = false) → F i (slotOf2 ops i a) w) → Q .normal a w) :
    (Code.region id ops true).wp P Q a0 w0 := by
  refine wp_region_any hm ?_
  have hdst' : ∀ (i : Nat) (o : Oper) (t : Tmp), ops[i]? = some o → o.dst = some t → t < a0.tmps.size := by
    intro i o t hi ht
    have hlt := (Array.getElem?_eq_some_iff.1 hi)
    obtain ⟨hlt, he⟩ := hlt
    have h1 := Array.all_eq_true.1 hdst i hlt
    rw [he, ht] at h1
    exact of_decide_eq_true h1
  have hback' : ∀ (i : Nat) (o : Oper), ops[i]? = some o → ∀ e ∈ o.after, Region.binds .any e = true → e.on < i := by
    intro i o hi e he hbe
    have h1 := List.all_eq_true.1 hback i (List.mem_range.2 (Array.getElem?_eq_some_iff.1 hi).1)
    simp only [hi] at h1
    obtain ⟨k, hk, hke⟩ := Array.getElem_of_mem he
    have h2 := Array.all_eq_true.1 h1 k hk
    rw [hke, hbe] at h2
    exact of_decide_eq_true (by simpa using h2)
  suffices H : ∀ (f n : Nat) (listed : Array Bool) (a : Act) (w : World), listed.size = ops.size → listed.toList.count false = f → n + f = ops.size → J (fun k => listed.getD k false) n w → a.tmps.size = a0.tmps.size → a.defers = a0.defers →
      (∀ j o, ops[j]? = some o → listed.getD j false = true → ∀ e ∈ o.after, Region.binds .any e = true → listed.getD e.on false = true) →
      (∀ t, (∀ (i : Nat) (o : Oper), ops[i]? = some o → listed.getD i false = true → o.dst ≠ some t) → a.tmps.getD t undef = a0.tmps.getD t undef) →
      (∀ (i : Nat) (o : Oper), ops[i]? = some o → listed.getD i false = true → (∀ j, listed.getD j false = true → cons j i = false) → F i (slotOf2 ops i a) w) → wpAny P .any ops Q f listed a w by
    have hJ' : J (fun k => (Array.replicate ops.size false).getD k false) 0 w0.drew := by
      have e : (fun k => (Array.replicate ops.size false).getD k false) = fun _ => false := funext fun k => getD_replicate_false _ _
      rw [e]; exact hJ
    refine H _ 0 _ _ _ (by simp) (by simp) (by simp) hJ' rfl rfl ?_ ?_ ?_
    · intro j o _ h; rw [getD_replicate_false] at h; cases h
    · intro t _; rfl
    · intro i o _ h; rw [getD_replicate_false] at h; cases h
  intro f
  induction f with
  | zero =>
    intro n listed a w hs hc hnf hj hsz hdf _ hsame hhold
    obtain rfl : n = ops.size := by omega
    have hall : ∀ i, i < ops.size → listed.getD i false = true := by
      intro i hi
      have hnot : false ∉ listed.toList := List.count_eq_zero.1 hc
      rw [Array.getD_eq_getD_getElem?, Array.getElem?_eq_getElem (by omega)]
      simp only [Option.getD_some]
      cases hv : listed[i]'(by omega) with
      | true => rfl
      | false => exact absurd (by rw [← hv]; simp) hnot
    refine ⟨?_, hend a w ⟨_, hall, hj⟩ hsz hdf (fun t ht => hsame t fun i o hi _ => ?_) (fun i o hi hcn => hhold i o hi (hall i (Array.getElem?_eq_some_iff.1 hi).1) (fun j _ => hcn j))⟩
    · rw [List.eq_nil_iff_forall_not_mem]
      intro i hi
      obtain ⟨h1, o, ho, _⟩ := mem_ready.1 hi
      have h2 := hall i (Array.getElem?_eq_some_iff.1 ho).1
      rw [Array.getD_eq_getD_getElem?, Array.getElem?_eq_getElem (by have := (Array.getElem?_eq_some_iff.1 ho).1; omega)] at h1 h2
      simp only [Option.getD_some] at h1 h2
      rw [h1] at h2; cases h2
    · have hl := Array.all_eq_true.1 ht i (Array.getElem?_eq_some_iff.1 hi).1
      rw [(Array.getElem?_eq_some_iff.1 hi).2] at hl
      simpa using hl
  | succ f ih =>
    intro n listed a w hs hc hnf hj hsz hdf hcl hsame hhold
    refine ⟨fun h0 => ?_, fun i hi => ?_⟩
    · exfalso
      have hmem : false ∈ listed.toList := List.count_pos_iff.1 (by omega)
      have hex : ∃ i, i < ops.size ∧ listed.getD i true = false := by
        obtain ⟨k, hk, hke⟩ := List.getElem_of_mem hmem
        refine ⟨k, by simpa [hs] using hk, ?_⟩
        rw [Array.getD_eq_getD_getElem?, Array.getElem?_eq_getElem (by simpa using hk)]
        simpa using hke
      obtain ⟨i, ⟨hi, hf⟩, hmin⟩ := exists_least hex
      have hr : i ∈ Region.ready .any ops listed := mem_ready.2 ⟨hf, ops[i], Array.getElem?_eq_getElem hi, fun e he hbe => by
        have hlt := hback' i _ (Array.getElem?_eq_getElem hi) e he hbe
        have := hmin e.on hlt
        rw [Array.getD_eq_getD_getElem?, Array.getElem?_eq_getElem (by omega)] at this ⊢
        simp only [Option.getD_some] at this ⊢
        cases hv : listed[e.on]'(by omega) with
        | true => rfl
        | false => exact absurd ⟨by omega, hv⟩ this⟩
      rw [h0] at hr; cases hr
    · obtain ⟨hun, o, ho, hdeps⟩ := mem_ready.1 hi
      have hil : i < listed.size := by rw [hs]; exact (Array.getElem?_eq_some_iff.1 ho).1
      have hunf : listed.getD i false = false := by
        rw [Array.getD_eq_getD_getElem?, Array.getElem?_eq_getElem hil] at hun ⊢
        simpa using hun
      have hslot := plainG_spec hp ho
      have hwant : Region.wanted o (yielded ops a.tmps) = true := by
        unfold Region.wanted
        cases hgd : o.guard with
        | none => rfl
        | some db =>
          obtain ⟨d, b⟩ := db
          obtain ⟨e, he, hed, hbe, od, hod, t, ht⟩ := guardB_spec hgB ho hgd
          have hl := hdeps e he hbe
          rw [hed] at hl
          have hv := hgrd i o d b ho hgd _ _ (hhold d od hod hl (fun j _ => hcg i o d b ho hgd j))
          have hs2 : slotOf2 ops d a = a.tmps.getD t undef := by unfold slotOf2; rw [hod]; simp [refOf, ht]
          rw [hs2] at hv
          have hy : yielded ops a.tmps d = some b := by
            unfold yielded
            rw [hod]
            simp only [Option.bind_some, ht]
            rw [Array.getD_eq_getD_getElem?] at hv
            cases hx : a.tmps[t]? with
            | none => rw [hx] at hv; simp [undef] at hv
            | some x => rw [hx] at hv; simp at hv; rw [hv]
          simp [hy]
      unfold wpOp
      simp only [ho]
      rw [if_pos hwant]
      refine .inl (Oper.wp_mono ?_ (hop i o ho _ n a w (by omega) hunf hj (fun t ht => hsame t fun j o' hj' hl => ?_) (fun e he hbe hcn => ?_)))
      · rintro a' w' ⟨v, rfl, hj', hS, hF'⟩
        have hother : ∀ j o', ops[j]? = some o' → j ≠ i → listed.getD j false = true → slotOf2 ops j (a.put o.dst v) = slotOf2 ops j a := by
          intro j o' hj2 hne hl
          unfold slotOf2
          rw [hj2]
          simp only [Option.bind_some]
          cases ht : refOf o' with
          | none => simp
          | some t =>
            simp only
            cases hd : o.dst with
            | none => simp [Act.put]
            | some u =>
              rw [getD_put _ _ _ _ (by rw [hsz]; exact hdst' i o u ho hd), if_neg]
              rintro rfl
              cases hod : o'.dst with
              | some t' =>
                simp only [refOf, hod, Option.some.injEq] at ht
                subst ht
                exact hslot j o' _ hj2 hne hd hod
              | none =>
                simp only [refOf, hod] at ht
                rcases ptrB_spec hptr hj2 hod ht with hall | ⟨e, he, hbe, o2, ho2, hd2⟩
                · exact hall i o ho hd
                · have hle := hcl j o' hj2 hl e he hbe
                  have hei : e.on ≠ i := by rintro h; rw [h, hunf] at hle; cases hle
                  exact hslot e.on o2 _ ho2 hei hd hd2
        have hget : ∀ j, (listed.setIfInBounds i true).getD j false = true → j = i ∨ listed.getD j false = true := by
          intro j hjl
          by_cases hji : j = i
          · exact .inl hji
          · right
            rw [Array.getD_eq_getD_getElem?, Array.getElem?_setIfInBounds_ne (Ne.symm hji)] at hjl
            rw [Array.getD_eq_getD_getElem?]; exact hjl
        have hget' : ∀ j, listed.getD j false = true → (listed.setIfInBounds i true).getD j false = true := by
          intro j hjl
          by_cases hji : j = i
          · rw [hji] at hjl; rw [hunf] at hjl; cases hjl
          · rw [Array.getD_eq_getD_getElem?, Array.getElem?_setIfInBounds_ne (Ne.symm hji)]
            rw [Array.getD_eq_getD_getElem?] at hjl; exact hjl
        refine ih (n + 1) _ _ _ (by simpa using hs) (by have := count_step listed i hun; omega) (by omega) (by
          have e : (fun k => (listed.setIfInBounds i true).getD k false) = fun k => if k = i then true else listed.getD k false := funext fun k => by
            by_cases hki : k = i
            · rw [if_pos hki, hki, Array.getD_eq_getD_getElem?, Array.getElem?_setIfInBounds_self_of_lt hil]; rfl
            · rw [if_neg hki, Array.getD_eq_getD_getElem?, Array.getElem?_setIfInBounds_ne (Ne.symm hki), ← Array.getD_eq_getD_getElem?]
          rw [e]; exact hj') ?_ ?_ ?_ ?_ ?_
        · unfold Act.put; cases o.dst <;> simp [hsz]
        · unfold Act.put; cases o.dst <;> simp [hdf]
        · intro j oj hoj hl e he hbe
          rcases hget j hl with rfl | hl
          · obtain rfl : oj = o := Option.some.inj (hoj.symm.trans ho)
            exact hget' _ (hdeps e he hbe)
          · exact hget' _ (hcl j oj hoj hl e he hbe)
        · intro t ht
          have hne : o.dst ≠ some t := ht i o ho (by rw [Array.getD_eq_getD_getElem?, Array.getElem?_setIfInBounds_self_of_lt hil]; rfl)
          rw [← hsame t (fun j oj hoj hl => ht j oj hoj (hget' j hl))]
          cases hd : o.dst with
          | none => simp [Act.put]
          | some u =>
            rw [getD_put _ _ _ _ (by rw [hsz]; exact hdst' i o u ho hd), if_neg]
            rintro rfl
            exact hne hd
        · intro j oj hoj hl hcn
          by_cases hji : j = i
          · subst hji
            obtain rfl : oj = o := Option.some.inj (hoj.symm.trans ho)
            have : slotOf2 ops j (a.put oj.dst v) = if oj.dst.isSome then v else slotOf2 ops j a := by
              cases hd : oj.dst with
              | none => simp [Act.put]
              | some u =>
                unfold slotOf2
                rw [hoj]
                simp only [Option.bind_some, refOf, hd]
                rw [getD_put _ _ _ _ (by rw [hsz]; exact hdst' j oj u hoj hd)]
                simp
            rw [this]; exact hF'
          · rcases hget j hl with h | hl
            · exact absurd h hji
            · rw [hother j oj hoj hji hl]
              exact hF i j _ w w' hS (hcn i (by rw [Array.getD_eq_getD_getElem?, Array.getElem?_setIfInBounds_self_of_lt hil]; rfl)) hji (by
                cases hwt : Region.waitsFor .any ops j i
                · rfl
                · exfalso
                  obtain ⟨o2, ho2, x, hx, hxb, hon⟩ := Region.waitsFor_spec hwt
                  obtain rfl : o2 = oj := Option.some.inj (ho2.symm.trans hoj)
                  have := hcl j o2 hoj hl x hx hxb
                  rw [hon, hunf] at this; cases this) (fun oj' hoj' e he hbe => hcn e.on (hget' _ (by
                obtain rfl : oj' = o := Option.some.inj (hoj'.symm.trans ho)
                exact hdeps e he hbe))) (hhold j oj hoj hl (fun q hq => hcn q (hget' q hq)))
      · have h1 := List.all_eq_true.1 ht j (List.mem_range.2 (Array.getElem?_eq_some_iff.1 hj').1)
        simp only [hj', Bool.or_eq_true, bne_iff_ne, beq_iff_eq] at h1
        rcases h1 with (h1 | h1) | h1
        · exact h1
        · subst h1; rw [hunf] at hl; cases hl
        · have := reachT_closed hcl 6 j i h1 hl
          rw [hunf] at this; cases this
      · have hd := hdeps e he hbe
        have hlt := hback' i o ho e he hbe
        refine hhold e.on ops[e.on] (Array.getElem?_eq_getElem (by have := (Array.getElem?_eq_some_iff.1 ho).1; omega)) hd (fun q hq => ?_)
        have hqs : q < ops.size := by
          by_cases h : q < ops.size
          · exact h
          · rw [Array.getD_eq_getD_getElem?, Array.getElem?_eq_none (by omega)] at hq; simp at hq
        cases hc : cons q e.on
        · rfl
        · have hqi := hcn q hqs hc
          subst hqi
          rw [hunf] at hq; cases hq

theorem wp_region_inv3f {id : Nat} {Q : Exit → Act → World → Prop} {a0 : Act} {w0 : World} (hm : P.follows .mixedOrders = true) (hp : plainG ops = true) (hgB : guardB ops = true) (hback : backB ops = true) (hptr : ptrB ops = true)
    (hdst : (ops.all fun o => match o.dst with | some t => decide (t < a0.tmps.size) | none => true) = true)
    (J : (Nat → Bool) → Nat → World → Prop) (S : Nat → World → World → Prop) (F : Nat → Value → World → Prop) (cons : Nat → Nat → Bool) (hJ : J (fun _ => false) 0 w0.drew) (hF : ∀ j i v w w', S j w w' → cons j i = false → i ≠ j → Region.waitsFor .any ops i j = false → (∀ oj, ops[j]? = some oj → ∀ e ∈ oj.after, Region.binds .any e = true → cons e.on i = false) → F i v w → F i v w')
    (hgrd : ∀ (i : Nat) (o : Oper) (d : Nat) (b : Bool), ops[i]? = some o → o.guard = some (d, b) → ∀ v w, F d v w → v = .bool b)
    (hop : ∀ (i : Nat) (o : Oper), ops[i]? = some o → ∀ (L : Nat → Bool) (n : Nat) (a : Act) (w : World), n < ops.size → L i = false → J L n w →
      (∀ t, freshT ops i t = true → a.tmps.getD t undef = a0.tmps.getD t undef) →
      (∀ e ∈ o.after, Region.binds .any e = true → (∀ j, j < ops.size → cons j e.on = true → j = i) → F e.on (slotOf2 ops e.on a) w) →
      o.wp P a w (fun a' w' => ∃ v, a' = a.put o.dst v ∧ J (fun k => if k = i then true else L k) (n + 1) w' ∧ S i w w' ∧ F i (if o.dst.isSome then v else slotOf2 ops i a) w') Q)
    (hcg : ∀ (i : Nat) (o : Oper) (d : Nat) (b : Bool), ops[i]? = some o → o.guard = some (d, b) → ∀ j, cons j d = false)
    (hend : ∀ (tm : Array Value) (w : World), (∃ L : Nat → Bool, (∀ i, i < ops.size → L i = true) ∧ J L ops.size w) → (∀ (i : Nat) (o : Oper), ops[i]? = some o → (∀ j, cons j i = false) → F i (slotOf2 ops i ⟨tm, a0.defers⟩) w) → Q .normal ⟨refillL ops.toList a0.tmps tm, a0.defers⟩ w) :
    (Code.region id ops true).wp P Q a0 w0 := by
  refine wp_region_inv2f hm hp hgB hback hptr hdst J S F cons hJ hF hgrd hop hcg ?_
  rintro ⟨tm, df⟩ w hj hsz hdf hb hFF
  obtain rfl : df = a0.defers := hdf
  have e := refill_eq hsz hb
  have := hend tm w hj hFF
  rw [← e] at this
  exact this

end
end Go.Proofs.YtfdhaigmekmboaaDoor

/- Walks: what roots reach, the program's way. -/
namespace Go.Proofs.YtfdhaigmekmboaaDoor
open Go.RowKit

/-- From a world to another one all blocks stay but some. -/
structure Frm (S : Nat → Prop) (w w' : World) : Prop where
  os : w'.os = w.os
  tape : w'.tape = w.tape
  output : w'.output = w.output
  size : w.heap.size ≤ w'.heap.size
  block : ∀ k, k < w.heap.size → ¬ S k → w'.heap[k]? = w.heap[k]?
theorem Frm.refl (S : Nat → Prop) (w : World) : Frm S w w := ⟨rfl, rfl, rfl, Nat.le_refl _, fun _ _ _ => rfl⟩
theorem Frm.below {S : Nat → Prop} {w w' : World} {B : Nat} (h : Frm S w w') (hS : ∀ k, S k → B ≤ k) (hB : B ≤ w.heap.size) : Below B w w' :=
  ⟨h.os, h.tape, h.output, h.size, fun k hk => h.block k (by omega) (fun e => by have := hS k e; omega)⟩
theorem Frm.of_below {S : Nat → Prop} {w w' : World} (h : Below w.heap.size w w') : Frm S w w' := ⟨h.os, h.tape, h.output, h.size, fun k hk _ => h.block k hk⟩
theorem Frm.of_grown {S : Nat → Prop} {w w' : World} {row : Option Nat} (h : w.grownBy w' row) (hr : ∀ g, row = some g → S g) : Frm S w w' :=
  ⟨h.os, h.tape, h.output, h.size, fun k hk hn => h.block k hk (fun e => hn (hr k e.symm))⟩
theorem Frm.set {S : Nat → Prop} {w : World} {g i : Nat} (hS : S g) (v : Value) : Frm S w (w.setCell ⟨g, i, none⟩ v) := by
  have h : Below g w (w.setCell ⟨g, i, none⟩ v) := (Below.refl g w).setCell (Nat.le_refl _) v
  exact ⟨h.os, h.tape, h.output, h.size, fun k _ hn => Below.heap_setCell _ _ _ _ (fun e => hn (by rw [e]; exact hS))⟩
theorem Frm.trans {S S' : Nat → Prop} {a b c : World} (h : Frm S a b) (k : Frm S' b c) (hs : ∀ x, x < a.heap.size → S' x → S x) : Frm S a c :=
  ⟨k.os.trans h.os, k.tape.trans h.tape, k.output.trans h.output, Nat.le_trans h.size k.size, fun x hx hn => (k.block x (Nat.lt_of_lt_of_le hx h.size) (fun e => hn (hs x hx e))).trans (h.block x hx hn)⟩

theorem Frm.mono {S S' : Nat → Prop} {w w' : World} (h : Frm S w w') (hs : ∀ k, S k → S' k) : Frm S' w w' := ⟨h.os, h.tape, h.output, h.size, fun k hk hn => h.block k hk (fun e => hn (hs k e))⟩
theorem Own.frm {α : Type} {enc : α → List Value} {e k B : Nat} {S : Nat → Prop} {w w' : World} {v : Value} {xs : List α} (h : Own enc e k w B v xs) (hf : Frm S w w') (hne : ∀ g, v.ownBlock = some g → ¬ S g) : Own enc e k w' B v xs := by
  refine ⟨h.1, ?_⟩
  rcases h.2 with h2 | ⟨g, cap, cur, hv, hg, hh, r⟩
  · exact .inl h2
  · exact .inr ⟨g, cap, cur, hv, hg, (hf.block g (lt_of_block hh) (hne g (by rw [hv]; rfl))).trans hh, r⟩
theorem set_flatB (xs : List Bool) (i : Nat) (z : Bool) : (xs.flatMap encB).set i (.bool z) = (xs.set i z).flatMap encB := by
  unfold encB
  rw [← List.map_eq_flatMap, ← List.map_eq_flatMap, List.map_set]

abbrev nats (l : List Nat) : List Int := l.map fun (i : Nat) => (i : Int)

/-- The variables that the closure shares with its maker: the store, the marks, what is to be looked at. -/
structure RVars (w : World) (g0 g1 g2 g3 : Nat) (a : Option Addr) (n c : Nat) (A : List Bool) (tv : Value) (todo : List Nat) : Prop where
  vs : w.heap[g0]? = some (.cells #[.slice a n c] 23 (0, 0))
  vr : w.heap[g2]? = some (.cells #[.slice (some ⟨g1, 0, none⟩) n n] 52 (0, 0))
  row : OwnB w g1 (.slice (some ⟨g1, 0, none⟩) n n) A
  vt : w.heap[g3]? = some (.cells #[tv] 25 (0, 0))
  own : OwnI w (g3 + 1) tv (nats todo)
  lt : g0 < g1 ∧ g1 < g2 ∧ g2 < g3

theorem RVars.on {w w' : World} {g0 g1 g2 g3 : Nat} {a : Option Addr} {n c : Nat} {A : List Bool} {tv : Value} {todo : List Nat} (h : RVars w g0 g1 g2 g3 a n c A tv todo) (hb : Below w.heap.size w w') : RVars w' g0 g1 g2 g3 a n c A tv todo :=
  ⟨(hb.block _ (lt_of_block h.vs)).trans h.vs, (hb.block _ (lt_of_block h.vr)).trans h.vr, h.row.on hb, (hb.block _ (lt_of_block h.vt)).trans h.vt, h.own.on hb, h.lt⟩

set_option maxHeartbeats 2000000 in
set_option maxRecDepth 100000 in
theorem reach_no_c (g0 g1 g2 g3 n c : Nat) (a : Option Addr) (xs : List Pc) (y : Int) (A : List Bool) (tv : Value) (todo : List Nat) (w : World) (h : Pcs w w.heap.size (.slice a n c) xs) (hs : storeOk xs = true) (hn : xs.length = n) (hA : A.length = n)
    (hv : RVars w g0 g1 g2 g3 a n c A tv todo) (hno : ¬ (hasP xs y = true ∧ A[findAt xs y]? = some false)) :
    Calls Tryd.prog 63 #[.int .i64 y, .pointer (some ⟨g0, 0, none⟩), .pointer (some ⟨g2, 0, none⟩), .pointer (some ⟨g3, 0, none⟩)] w fun e w' => e = .returned (.tuple #[]) ∧ Below w.heap.size w w' := by
  have c0 := cell_of_one hv.vs
  have HV := hid hv
  have HS := hid hs
  have HN := hid hn
  have HA := hid hA
  cases hp : hasP xs y
  · have HP := hid hp
    clear hv hs hn hA hno hp
    go_enter Tryd.func63, Tryd.ntmps63
    go_wp2_with fail
    refine (impl_findPiece_c _ xs y _ h HS.out).mono ?_
    rw [HP.out]
    rintro e w1 ⟨rfl, b1⟩
    go_wp2
    go_end0
    exact ⟨rfl, b1⟩
  · obtain ⟨x, hx, hxy⟩ := has_spot hs hp
    obtain ⟨i, hi⟩ : ∃ i, findAt xs y = i := ⟨_, rfl⟩
    rw [hi] at hx hno
    have hin : i < n := by have := (List.getElem?_eq_some_iff.1 hx).1; omega
    have hAi : A[i]? = some true := by
      rw [List.getElem?_eq_getElem (by omega)]
      cases hb : A[i]'(by omega) with
      | true => rfl
      | false => exact absurd ⟨hp, by rw [List.getElem?_eq_getElem (by omega), hb]⟩ hno
    have HP := hid hp
    have HI := hid hi
    have HAi := hid hAi
    clear hv hs hn hA hno hp hx hxy hi hAi
    go_enter Tryd.func63, Tryd.ntmps63
    go_wp2_with fail
    refine (impl_findPiece_c _ xs y _ h HS.out).mono ?_
    rw [HP.out, HI.out]
    rintro e w1 ⟨rfl, b1⟩
    have hv1 := HV.out.on b1
    have c2 := cell_of_one hv1.vr
    have d1 : w1.cell? ⟨g1, i, none⟩ = some (.bool true) := by
      have hR := hv1.row
      unfold OwnB Own at hR
      rw [HA.out] at hR
      have := flatMap_get (enc := encB) (fun _ => rfl) A i 0 _ _ HAi.out rfl
      exact (hR.cellAt i (by omega)).trans (by simpa using this)
    clear hv1
    go_wp2
    go_end0
    exact ⟨rfl, b1⟩

set_option maxHeartbeats 2000000 in
set_option maxRecDepth 100000 in
theorem reach_yes_c (g0 g1 g2 g3 n c : Nat) (a : Option Addr) (xs : List Pc) (y : Int) (A : List Bool) (tv : Value) (todo : List Nat) (w : World) (h : Pcs w w.heap.size (.slice a n c) xs) (hs : storeOk xs = true) (hn : xs.length = n) (hA : A.length = n)
    (hv : RVars w g0 g1 g2 g3 a n c A tv todo) (ht : todo.length ≤ 1000) (hp : hasP xs y = true) (hAi : A[findAt xs y]? = some false) :
    Calls Tryd.prog 63 #[.int .i64 y, .pointer (some ⟨g0, 0, none⟩), .pointer (some ⟨g2, 0, none⟩), .pointer (some ⟨g3, 0, none⟩)] w fun e w' => e = .returned (.tuple #[]) ∧
      ∃ tv', RVars w' g0 g1 g2 g3 a n c (A.set (findAt xs y) true) tv' (todo ++ [findAt xs y]) ∧ Frm (fun k => k = g1 ∨ k = g3 ∨ tv.ownBlock = some k) w w' ∧ (∀ g, tv'.ownBlock = some g → tv.ownBlock = some g ∨ w.heap.size ≤ g) := by
  have c0 := cell_of_one hv.vs
  have HV := hid hv
  have HS := hid hs
  have HA := hid hA
  have HT := hid ht
  obtain ⟨i, hi⟩ : ∃ i, findAt xs y = i := ⟨_, rfl⟩
  rw [hi] at hAi ⊢
  have hin : i < n := by have := (List.getElem?_eq_some_iff.1 hAi).1; omega
  have HP := hid hp
  have HI := hid hi
  have HAi := hid hAi
  clear hv hs hn hA hp hi hAi ht
  go_enter Tryd.func63, Tryd.ntmps63
  go_wp2_with fail
  refine (impl_findPiece_c _ xs y _ h HS.out).mono ?_
  rw [HP.out, HI.out]
  rintro e w1 ⟨rfl, b1⟩
  have HV1 := hid (HV.out.on b1)
  have c2 := cell_of_one HV1.out.vr
  have hR : w1.ownsRow g1 4 1 (.slice (some ⟨g1, 0, none⟩) n n) n (A.flatMap encB) := by
    have := HV1.out.row
    unfold OwnB Own at this
    rw [HA.out] at this
    exact this
  have d1 : w1.cell? ⟨g1, i, none⟩ = some (.bool false) := by
    have := flatMap_get (enc := encB) (fun _ => rfl) A i 0 _ _ HAi.out rfl
    exact (hR.cellAt i (by omega)).trans (by simpa using this)
  have f1 : w1.frozen? ⟨g1, i, none⟩ = false := hR.frozenAt i
  have hst := hid (hR.stored i (.bool true))
  obtain ⟨l1, l2, l3⟩ := HV1.out.lt
  have L1 := hid l1
  have L2 := hid l2
  have L3 := hid l3
  obtain ⟨W2, hW2⟩ : ∃ W2, W2 = w1.setCell ⟨g1, i, none⟩ (.bool true) := ⟨_, rfl⟩
  have F2 : Frm (fun k => k = g1) w1 W2 := by rw [hW2]; exact Frm.set (S := fun k => k = g1) rfl _
  have hown2 : OwnI W2 (g3 + 1) tv (nats todo) := by
    rw [hW2]
    exact ownsRow_setCell_below HV1.out.own (by show g1 < g3 + 1; omega) _
  have vt2 : W2.heap[g3]? = some (.cells #[tv] 25 (0, 0)) := (F2.block _ (lt_of_block HV1.out.vt) (by omega)).trans HV1.out.vt
  have e2 : (w1.setCell ⟨g1, i, none⟩ (.bool true)).cell? ⟨g3, 0, none⟩ = some tv := by rw [← hW2]; exact cell_of_one vt2
  have hb2 := Below.refl (g3 + 1) W2
  have hs2 : g3 + 1 ≤ W2.heap.size := lt_of_block vt2
  have HR2 := hid hst.out.1
  clear hR l1 l2 l3 hst
  go_wp2_with (at_builtin; rw [← hW2]; refine push_int (w0 := W2) rfl _ _ rfl (g3 + 1) (g3 + 1) tv (nats todo) i hown2 hb2 hs2 (Nat.le_refl _) rfl (by rw [hW2]; simp [Act.eval]) (by have := HT.out; simp; omega) ?_; intro v' w' hown' hb' hB' hg'; have vt3 : w'.heap[g3]? = some (.cells #[tv] 25 (0, 0)) := (hb'.block g3 (by omega)).trans vt2; have c3 := cell_of_one vt3; have f3 := free_of_one vt3; obtain ⟨a5, c5, hv5, _, _, _⟩ := (Rd.of_own hown').ints (n := todo.length + 1) (by simp [nats]); subst hv5)
  go_end0
  have tvl : ∀ g, tv.ownBlock = some g → g3 + 1 ≤ g := fun g hg => (HV1.out.own.lt g hg).1
  have F3 : Frm (fun k => tv.ownBlock = some k) W2 w' := Frm.of_grown hg'.1 (fun g h => h)
  have F4 : Frm (fun k => k = g3) w' (w'.setCell ⟨g3, 0, none⟩ (.slice a5 (todo.length + 1) c5)) := Frm.set (S := fun k => k = g3) rfl _
  have l1 := L1.out
  have l2 := L2.out
  have l3 := L3.out
  have F : Frm (fun k => k = g1 ∨ k = g3 ∨ tv.ownBlock = some k) w (w'.setCell ⟨g3, 0, none⟩ (.slice a5 (todo.length + 1) c5)) :=
    (Frm.of_below b1).trans ((F2.mono (S' := fun k => k = g1 ∨ k = g3 ∨ tv.ownBlock = some k) (fun k e => .inl e)).trans ((F3.mono (S' := fun k => k = g1 ∨ k = g3 ∨ tv.ownBlock = some k) (fun k e => .inr (.inr e))).trans (F4.mono (S' := fun k => k = g1 ∨ k = g3 ∨ tv.ownBlock = some k) (fun k e => .inr (.inl e))) (fun _ _ e => e)) (fun _ _ e => e)) (fun _ _ e => e)
  refine ⟨rfl, _, ⟨?_, ?_, ?_, one_setCell vt3, ?_, HV.out.lt⟩, F, fun g hg => ?_⟩
  · refine (F.block g0 (lt_of_block HV.out.vs) ?_).trans HV.out.vs
    rintro (e | e | e)
    · omega
    · omega
    · have := tvl _ e; omega
  · refine (F.block g2 (lt_of_block HV.out.vr) ?_).trans HV.out.vr
    rintro (e | e | e)
    · omega
    · omega
    · have := tvl _ e; omega
  · have hR := HR2.out
    rw [set_flatB, ← hW2] at hR
    have hR' : OwnB W2 g1 (.slice (some ⟨g1, 0, none⟩) n n) (A.set i true) := by
      unfold OwnB Own
      rw [List.length_set, HA.out]
      exact hR
    refine (hR'.frm F3 (fun g hg e => ?_)).frm F4 (fun g hg e => ?_)
    · have := tvl _ e
      simp only [Value.ownBlock, Option.some.injEq] at hg
      omega
    · simp only [Value.ownBlock, Option.some.injEq] at hg
      omega
  · have := ownsRow_setCell_below (a := ⟨g3, 0, none⟩) hown' (by show g3 < g3 + 1; omega) (.slice a5 (todo.length + 1) c5)
    unfold OwnI Own nats
    rw [List.map_append]
    exact this
  · rcases hg'.2 g hg with h1 | h1
    · exact .inl h1
    · exact .inr (Nat.le_trans (Nat.le_trans b1.size F2.size) h1)

/-- What one call of the closure leaves. -/
def ReachPost (xs : List Pc) (y : Int) (g0 g1 g2 g3 n c : Nat) (a : Option Addr) (A : List Bool) (tv : Value) (todo : List Nat) (w : World) : Ending → World → Prop := fun e w' => e = .returned (.tuple #[]) ∧
  ∃ A' todo' tv', reachStep xs y (A, todo) = (A', todo') ∧ RVars w' g0 g1 g2 g3 a n c A' tv' todo' ∧ Frm (fun k => k = g1 ∨ k = g3 ∨ tv.ownBlock = some k) w w' ∧ (∀ g, tv'.ownBlock = some g → tv.ownBlock = some g ∨ w.heap.size ≤ g)

theorem reach_c (g0 g1 g2 g3 n c : Nat) (a : Option Addr) (xs : List Pc) (y : Int) (A : List Bool) (tv : Value) (todo : List Nat) (w : World) (h : Pcs w w.heap.size (.slice a n c) xs) (hs : storeOk xs = true) (hn : xs.length = n) (hA : A.length = n)
    (hv : RVars w g0 g1 g2 g3 a n c A tv todo) (ht : todo.length ≤ 1000) :
    Calls Tryd.prog 63 #[.int .i64 y, .pointer (some ⟨g0, 0, none⟩), .pointer (some ⟨g2, 0, none⟩), .pointer (some ⟨g3, 0, none⟩)] w (ReachPost xs y g0 g1 g2 g3 n c a A tv todo w) := by
  by_cases hc : hasP xs y = true ∧ A[findAt xs y]? = some false
  · refine (reach_yes_c g0 g1 g2 g3 n c a xs y A tv todo w h hs hn hA hv ht hc.1 hc.2).mono ?_
    rintro e w' ⟨he, tv', h1, h2, h3⟩
    exact ⟨he, _, _, tv', by unfold reachStep; rw [if_pos hc], h1, h2, h3⟩
  · refine (reach_no_c g0 g1 g2 g3 n c a xs y A tv todo w h hs hn hA hv hc).mono ?_
    rintro e w' ⟨he, hb⟩
    exact ⟨he, A, todo, tv, by unfold reachStep; rw [if_neg hc], hv.on hb, Frm.of_below hb, fun g hg => .inl hg⟩

end Go.Proofs.YtfdhaigmekmboaaDoor

/- Walks: drawn stores with prints that are asked for, with roots. -/
namespace Go.Proofs.YtfdhaigmekmboaaDoor
open Go.RowKit

theorem lit_rdN {w : World} {b : Nat} {x : Int} (h : w.heap[b]? = some (.cells #[.int .i64 x] 3 (0, 0))) : Ints w w.heap.size (.slice (some ⟨b, 0, none⟩) 1 1) [x] := by
  refine ⟨_, _, rfl, by simp, by simp [maxLen], by simp, fun _ => ⟨b, 0, rfl, (Array.getElem?_eq_some_iff.1 h).1, fun j u hu => ?_⟩⟩
  rw [Nat.zero_add, cell_of_row w b j _ _ (0, 0) h]
  simpa using hu

theorem Reader.drewR {w : World} {g p : Nat} {l : List Int} (h : Reader w g l p) : Reader w.drew g l p := h.on (bl_drewN (Below.refl _ _) 1)

/-- The reader; what was written is its block, the row that is appended to, and new ones; that row stands as long as nothing was appended. -/
def QJ (W0 : World) (g : Nat) (l : List Int) (pq : Nat) (ov : Value) (B : Nat) (acc : List Int) (app : Nat) (L : Nat → Bool) (n : Nat) (w : World) : Prop :=
  ∃ p', p' ≤ pq + 4 * n ∧ Reader w g l p' ∧ Frm (fun k => k = g ∨ ov.ownBlock = some k) W0 w ∧ (L app = false → OwnI w B ov acc)

section
variable {W0 w w' : World} {g pq B app i n : Nat} {l acc : List Int} {ov : Value} {L : Nat → Bool}

theorem QJ.frm (h : QJ W0 g l pq ov B acc app L n w) : Frm (fun k => k = g ∨ ov.ownBlock = some k) W0 w := by obtain ⟨_, _, _, h, _⟩ := h; exact h

theorem QJ.step (h : QJ W0 g l pq ov B acc app L n w) : QJ W0 g l pq ov B acc app (fun k => if k = i then true else L k) (n + 1) w := by
  obtain ⟨p', h1, h2, h3, h4⟩ := h
  refine ⟨p', by omega, h2, h3, fun hL => h4 ?_⟩
  simp only at hL
  split at hL
  · cases hL
  · exact hL

theorem QJ.ne_g (h : QJ W0 g l pq ov B acc app L n w) : w.heap.size ≠ g := by
  obtain ⟨p', h1, h2, h3, h4⟩ := h
  have := h2.lt
  omega

theorem QJ.ne_o (h : QJ W0 g l pq ov B acc app L n w) (ho : ∀ b, ov.ownBlock = some b → b < W0.heap.size) : ov.ownBlock ≠ some w.heap.size := by
  intro e
  have := ho _ e
  have := h.frm.size
  omega

theorem QJ.alloc (hne : i ≠ app) (h : QJ W0 g l pq ov B acc app L n w) (o : Obj) : QJ W0 g l pq ov B acc app (fun k => if k = i then true else L k) (n + 1) (w.alloc o) := by
  obtain ⟨p', h1, h2, h3, h4⟩ := h
  refine ⟨p', by omega, h2.alloc o, h3.trans (S' := fun _ => False) (Frm.of_below ((Below.refl _ _).alloc (Nat.le_refl _) _)) (fun _ _ e => e.elim), fun hL => ?_⟩
  simp only [if_neg (Ne.symm hne)] at hL
  exact (h4 hL).alloc o

theorem QJ.read {p9 : Nat} (hB : g < B) (hne : i ≠ app) (h : QJ W0 g l pq ov B acc app L n w) (r : Reader w' g l p9) (hp : p9 ≤ pq + 4 * (n + 1)) (gr : w.grownBy w' (some g)) : QJ W0 g l pq ov B acc app (fun k => if k = i then true else L k) (n + 1) w' := by
  obtain ⟨p', h1, h2, h3, h4⟩ := h
  refine ⟨p9, hp, r, h3.trans (S' := fun k => k = g) (Frm.of_grown gr (fun b hb => (Option.some.inj hb).symm)) (fun x hx e => .inl e), fun hL => ?_⟩
  simp only [if_neg (Ne.symm hne)] at hL
  exact (h4 hL).far gr (fun b hb => by simp at hb; omega)

theorem QJ.appd (h : QJ W0 g l pq ov B acc app L n w) (gr : w.grownBy w' ov.ownBlock) (hb : ∀ b, ov.ownBlock = some b → g < b) : QJ W0 g l pq ov B acc app (fun k => if k = app then true else L k) (n + 1) w' := by
  obtain ⟨p', h1, h2, h3, h4⟩ := h
  refine ⟨p', by omega, h2.kept gr hb, h3.trans (S' := fun k => ov.ownBlock = some k) (Frm.of_grown gr (fun b hb => hb)) (fun x hx e => .inr e), fun hL => ?_⟩
  simp at hL
end

def isPcP (gs n : Nat) : Value → World → Prop := fun v _ => ∃ j : Nat, j < n ∧ v = .pointer (some ⟨gs, j * 2, none⟩)
def isN : Value → World → Prop := fun v _ => ∃ x : Int, v = .int .i64 x
def isIRow (g : Nat) (ov : Value) (K : Nat) : Value → World → Prop := fun v w => ∃ (b : Nat) (cs : Array Value), v = .slice (some ⟨b, 0, none⟩) K K ∧ b ≠ g ∧ ov.ownBlock ≠ some b ∧ w.heap[b]? = some (.cells cs 3 (0, 0)) ∧ cs.size = K ∧ (cs.toList.all fun v => match v with | .int .i64 _ => true | _ => false) = true
def isICell (g : Nat) (ov : Value) : Value → World → Prop := fun v w => ∃ (b i : Nat) (y : Int), v = .pointer (some ⟨b, i, none⟩) ∧ b ≠ g ∧ ov.ownBlock ≠ some b ∧ w.cell? ⟨b, i, none⟩ = some (.int .i64 y)
def isLitI (g : Nat) (ov : Value) : Value → World → Prop := fun v w => ∃ (b : Nat) (y : Int), v = .slice (some ⟨b, 0, none⟩) 1 1 ∧ b ≠ g ∧ ov.ownBlock ≠ some b ∧ w.heap[b]? = some (.cells #[.int .i64 y] 3 (0, 0))
def isMore (B : Nat) (acc : List Int) : Value → World → Prop := fun v w => ∃ y : Int, OwnI w B v (acc ++ [y])
theorem irow_cell {w : World} {b K j : Nat} {cs : Array Value} (h : w.heap[b]? = some (.cells cs 3 (0, 0))) (hK : cs.size = K) (ha : (cs.toList.all fun v => match v with | .int .i64 _ => true | _ => false) = true) (hj : j < K) : ∃ y : Int, w.cell? ⟨b, j, none⟩ = some (.int .i64 y) := by
  have hj' : j < cs.size := by omega
  have h1 := List.all_eq_true.1 ha cs[j] (by simp)
  cases hv : cs[j] with
  | int k x =>
    rw [hv] at h1
    cases k <;> simp at h1
    exact ⟨x, by simp [World.cell?, h, hj', hv]⟩
  | _ => rw [hv] at h1; cases h1

section
variable {w w' : World} {g j J B K : Nat} {ov v : Value} {acc : List Int}
theorem frm_block {b : Nat} {o : Obj} (hS : Frm (fun k => k = g ∨ (j = J ∧ ov.ownBlock = some k)) w w') (h1 : b ≠ g) (h2 : ov.ownBlock ≠ some b) (hb : w.heap[b]? = some o) : w'.heap[b]? = some o :=
  (hS.block b (Array.getElem?_eq_some_iff.1 hb).1 (fun h => h.elim h1 (fun h => h2 h.2))).trans hb
theorem isIRow_frm (hS : Frm (fun k => k = g ∨ (j = J ∧ ov.ownBlock = some k)) w w') (h : isIRow g ov K v w) : isIRow g ov K v w' := by
  obtain ⟨b, cs, h1, h2, h3, h4, h5⟩ := h
  exact ⟨b, cs, h1, h2, h3, frm_block hS h2 h3 h4, h5⟩
theorem isLitI_frm (hS : Frm (fun k => k = g ∨ (j = J ∧ ov.ownBlock = some k)) w w') (h : isLitI g ov v w) : isLitI g ov v w' := by
  obtain ⟨b, y, h1, h2, h3, h4⟩ := h
  exact ⟨b, y, h1, h2, h3, frm_block hS h2 h3 h4⟩
theorem isICell_frm (hS : Frm (fun k => k = g ∨ (j = J ∧ ov.ownBlock = some k)) w w') (h : isICell g ov v w) : isICell g ov v w' := by
  obtain ⟨b, i, y, h1, h2, h3, h4⟩ := h
  refine ⟨b, i, y, h1, h2, h3, ?_⟩
  have hb := World.block_lt_of_cell? w _ h4
  rw [← h4]
  exact World.cell?_of_block (hS.block b hb (fun h => h.elim h2 (fun h => h3 h.2)))
theorem isMore_frm (hgB : g < B) (hne : j ≠ J) (hS : Frm (fun k => k = g ∨ (j = J ∧ ov.ownBlock = some k)) w w') (h : isMore B acc v w) : isMore B acc v w' := by
  obtain ⟨y, ho⟩ := h
  exact ⟨y, ho.frm hS (fun b hb e => by
    have h2 := (ho.lt b hb).1
    rcases e with rfl | e
    · omega
    · exact hne e.1)⟩
end

theorem gb_frm {w1 wr w' : World} {g0 : Nat} {T : Option Nat} (h : w1.grownBy wr (some g0)) (hf : Frm (fun k => k = g0 ∨ T = some k) wr w') (hr : ∀ b, T = some b → w1.heap.size ≤ b) : w1.grownBy w' (some g0) :=
  ⟨hf.os.trans h.os, hf.tape.trans h.tape, hf.output.trans h.output, Nat.le_trans h.size hf.size, fun k hk hne => (hf.block k (Nat.lt_of_lt_of_le hk h.size) (fun e => by
    rcases e with rfl | e
    · exact hne rfl
    · have := hr k e; omega)).trans (h.block k hk hne)⟩

/-- A drawn store with numbers. -/
def AskedD (w : World) (g : Nat) (l : List Int) (m : Nat) (e : Ending) (w' : World) : Prop :=
  ∃ (v u : Value) (xs : List Pc) (ns : List Int) (p' : Nat), e = .returned (.tuple #[v, u]) ∧ OwnP w' w.heap.size v xs ∧ Drawn xs ∧ OwnI w' w.heap.size u ns ∧ ns.length ≤ m ∧ (∀ a b, v.ownBlock = some a → u.ownBlock = some b → a ≠ b) ∧ p' ≤ 1000 ∧ Reader w' g l p' ∧ w.grownBy w' (some g)



end Go.Proofs.YtfdhaigmekmboaaDoor

/- Walks: drawn stores with roots. -/
namespace Go.Proofs.YtfdhaigmekmboaaDoor
open Go.RowKit

/-- A drawn store with roots. -/
def RootsB (w : World) (m : Nat) (e : Ending) (w' : World) : Prop :=
  ∃ (v u : Value) (xs : List Pc) (ns : List Int), e = .returned (.tuple #[v, u]) ∧ OwnP w' w.heap.size v xs ∧ Drawn xs ∧ OwnI w' w.heap.size u ns ∧ ns.length ≤ m ∧ Below w.heap.size w w'

set_option maxHeartbeats 2000000 in
set_option maxRecDepth 100000 in
theorem spec_l20Roots_c (v : Value) (l0 : List Int) (w : World) (h : Rd encU 1 w w.heap.size v l0) (hl : ∀ x ∈ l0, 0 ≤ x ∧ x ≤ 255) :
    Calls Tryd.prog 44 #[v] w (RootsB w 4) := by
  go_enter Tryd.func44, Tryd.ntmps44
  go_wp2_with fail
  refine (spec_l20Open_c v l0 w h hl).mono ?_
  rintro e w0 ⟨l, rfl, r0, b0⟩
  clear h hl
  obtain ⟨g, hg⟩ : ∃ g, w.heap.size = g := ⟨_, rfl⟩
  rw [hg] at r0 ⊢
  have HGG := hid hg
  clear hg
  have hgl : g < w0.heap.size := r0.lt
  have HB0 := hid b0
  clear b0
  go_wp2_with fail
  refine (spec_l20Store_c g 0 l 9 w0 r0 (by omega) (by omega) (by omega)).mono ?_
  rintro e w1 ⟨v, xs, root, p1, rfl, o1, _, hd, hp1, r1, g1⟩
  obtain ⟨n, hn⟩ : ∃ n, xs.length = n := ⟨_, rfl⟩
  have HN := hid hn
  have hnp : 0 < n := by
    rw [← hn]
    have h0 := hd.1
    cases xs with
    | nil => exact absurd rfl h0
    | cons x r => simp
  have hn41 : n ≤ 41 := by rw [← hn]; exact hd.2.1
  obtain ⟨gs, c, rfl, hgs0, hgs, hnc⟩ := own_pc_slice o1 hn hnp
  have O1 := hid o1
  have HD := hid hd
  have R1 := hid r1
  have G1 := hid g1
  have s1 := g1.size
  obtain ⟨B, hB⟩ : ∃ B, w1.heap.size = B := ⟨_, rfl⟩
  have HBB := hid hB
  have hown0 : Hid (OwnI (w1.alloc (.cells #[] 3)) B (.slice (some ⟨w1.heap.size, 0, none⟩) 0 0) []) := hid (Own.made _ (by omega))
  clear o1 hd r1 g1 r0 hn hB
  go_wp2_with fail
  refine (spec_pick_c g p1 l 4 _ (R1.out.alloc _) (by omega)).mono ?_
  rintro e w2 ⟨x, rfl, x0, x3, _, r2, g2⟩
  have x3' := x3 (by omega)
  obtain ⟨m, rfl⟩ : ∃ m : Nat, x = m := ⟨x.toNat, by omega⟩
  have R2 := hid r2
  have G2 := hid (G1.out.trans (gb_unalloc g2))
  have O2 := hid ((O1.out.alloc _).far g2 (fun b hb => by simp at hb; omega))
  have A2 := hid (hown0.out.far g2 (fun b hb => by simp at hb; have := HBB.out; omega))
  have s2 := g2.size
  clear r2 g2 x3 O1 hown0 R1 G1
  go_wp2
  go_loopw [7, 8] (fun uv kv wr => ∃ (ov : Value) (q p' : Nat) (ns : List Int), ov = uv ∧ B ≤ wr.heap.size ∧ q ≤ m ∧ kv = .int .i64 q ∧ Hid (OwnI wr B uv ns) ∧ ns.length + q = m ∧ Hid (OwnP wr w0.heap.size (.slice (some ⟨gs, 0, none⟩) n c) xs) ∧ p' + 80 * q ≤ p1 + 1 + 80 * m ∧ Hid (Reader wr g l p') ∧ Hid (w0.grownBy wr (some g))) (fun _ k _ => (intOf k).toNat)
  case atStart => exact ⟨_, m, p1 + 1, [], rfl, by simp at s2; have := HBB.out; omega, Nat.le_refl _, rfl, A2, by simp, O2, by omega, R2, G2⟩
  case round =>
    obtain ⟨ov, q, pq, acc, rfl, hbw, hq, rfl, A, hal, O, hp', R, G⟩ := hrel
    clear A2 O2 R2 G2
    by_cases hq0 : 0 < q
    · have hq0' : (0 : Int) < q := by omega
      go_wp2
      refine drew_out wr ⟨0, rfl⟩ ?_
      rintro W0 ⟨z00, hW0⟩
      have hw05 : Below wr.heap.size wr W0 := by rw [hW0]; exact bl_drewN (Below.refl _ _) z00
      have HRW := hid (R.out.on hw05)
      have HOW := hid (A.out.on hw05)
      have HAC := hid (show acc.length ≤ 100 by omega)
      have hgW := HRW.out.lt
      have hBW : B ≤ W0.heap.size := by have := hw05.size; omega
      have hgB : g < B := by have := HBB.out; omega
      have hgsB : gs < B := by have := HBB.out; omega
      have HOV := hid (show ∀ b, ov.ownBlock = some b → b < W0.heap.size from fun b hb => (HOW.out.lt b hb).2)
      have HSC := hid (show ∀ wk, Frm (fun k => k = g ∨ ov.ownBlock = some k) W0 wk → ∀ j, j < n → ∃ y : Int, wk.cell? ⟨gs, j * 2, none⟩ = some (.int .i64 y) from fun wk hf j hj => by
        obtain ⟨a', c', hv', _, _, h3'⟩ := ((Rd.of_own O.out).on hw05).pcs HN.out
        simp only [Value.slice.injEq] at hv'
        obtain ⟨rfl, _, rfl⟩ := hv'
        obtain ⟨b, o, r, t, hbo, hbl, hx, k0, _⟩ := h3' j hj
        simp only [Option.some.injEq, Addr.mk.injEq, and_true] at hbo
        obtain ⟨rfl, rfl⟩ := hbo
        rw [Nat.zero_add] at k0
        refine ⟨r, ?_⟩
        rw [← k0]
        refine World.cell?_of_block (hf.block gs hbl (fun e => ?_))
        rcases e with rfl | e
        · omega
        · have := (HOW.out.lt _ e).1; omega)
      have OO := hid (O.out.on hw05)
      have GG := hid (G.out.trans (gb_of_below hw05 (some g)))
      have hpq9 : pq ≤ 1000 := by omega
      clear hW0 A O R G hw05
      refine wp_region_inv3f rfl (by kernel_rfl) (by kernel_rfl) (by kernel_rfl) (by kernel_rfl) (by simp) (QJ W0 g l pq ov B acc 18) (fun j w' w'' => Frm (fun k => k = g ∨ (j = 18 ∧ ov.ownBlock = some k)) w' w'') (fact [isV (ov), isV (.int .i64 root), isV (.slice (some ⟨gs, 0, none⟩) n c), isV (.pointer (some ⟨g, 0, none⟩)), isV (.slice (some ⟨gs, 0, none⟩) n c), isV (.int .i64 n), isI 0 (n - 1), isPcP gs n, isPcP gs n, isN, isV (.pointer (some ⟨g, 0, none⟩)), isN, isIRow g ov 3, isV (.pointer (some ⟨g, 0, none⟩)), isI 0 (3 - 1), isICell g ov, isN, isLitI g ov, isMore B acc, isMore B acc]) (fun _ _ => false) ⟨pq, by omega, HRW.out.drewR, Frm.of_below (bl_drewN (Below.refl _ _) 1), fun _ => HOW.out.drewN 1⟩ ?hF ?grd ?oo ?cg ?fin
      case hF =>
        intro j i v w' w'' hS hc hne hwt hdp hf
        have hi : i < 20 ∨ 20 ≤ i := by omega
        rcases hi with hi | hi
        · obtain rfl | rfl | rfl | rfl | rfl | rfl | rfl | rfl | rfl | rfl | rfl | rfl | rfl | rfl | rfl | rfl | rfl | rfl | rfl | rfl : i = 0 ∨ i = 1 ∨ i = 2 ∨ i = 3 ∨ i = 4 ∨ i = 5 ∨ i = 6 ∨ i = 7 ∨ i = 8 ∨ i = 9 ∨ i = 10 ∨ i = 11 ∨ i = 12 ∨ i = 13 ∨ i = 14 ∨ i = 15 ∨ i = 16 ∨ i = 17 ∨ i = 18 ∨ i = 19 := by omega
          · exact hf
          · exact hf
          · exact hf
          · exact hf
          · exact hf
          · exact hf
          · exact hf
          · exact hf
          · exact hf
          · exact hf
          · exact hf
          · exact hf
          · exact isIRow_frm hS hf
          · exact hf
          · exact hf
          · exact isICell_frm hS hf
          · exact hf
          · exact isLitI_frm hS hf
          · exact isMore_frm hgB (fun e => hne e.symm) hS hf
          · exact isMore_frm hgB (by rintro rfl; exact absurd (hwt.symm.trans (c := true) (by kernel_rfl)) (by decide)) hS hf
        · unfold fact at *; rw [List.getD_eq_getElem?_getD, List.getElem?_eq_none (by simpa using hi)]; trivial
      case grd =>
        intro i oo d bb hi hg v w' hf
        obtain ⟨hlt1, rfl⟩ := Array.getElem?_eq_some_iff.1 hi
        have hlt' : i < 20 := hlt1
        clear hi
        obtain rfl | rfl | rfl | rfl | rfl | rfl | rfl | rfl | rfl | rfl | rfl | rfl | rfl | rfl | rfl | rfl | rfl | rfl | rfl | rfl : i = 0 ∨ i = 1 ∨ i = 2 ∨ i = 3 ∨ i = 4 ∨ i = 5 ∨ i = 6 ∨ i = 7 ∨ i = 8 ∨ i = 9 ∨ i = 10 ∨ i = 11 ∨ i = 12 ∨ i = 13 ∨ i = 14 ∨ i = 15 ∨ i = 16 ∨ i = 17 ∨ i = 18 ∨ i = 19 := by omega
        all_goals simp at hg
      case cg =>
        intro i oo d bb hi hg j
        rfl
      case oo =>
        intro i oo hi L qn a' wk hnn hL hj hb' hd
        have hnn' : qn < 20 := hnn
        obtain ⟨hlt1, rfl⟩ := Array.getElem?_eq_some_iff.1 hi
        have hlt' : i < 20 := hlt1
        clear hi hnn
        obtain rfl | rfl | rfl | rfl | rfl | rfl | rfl | rfl | rfl | rfl | rfl | rfl | rfl | rfl | rfl | rfl | rfl | rfl | rfl | rfl : i = 0 ∨ i = 1 ∨ i = 2 ∨ i = 3 ∨ i = 4 ∨ i = 5 ∨ i = 6 ∨ i = 7 ∨ i = 8 ∨ i = 9 ∨ i = 10 ∨ i = 11 ∨ i = 12 ∨ i = 13 ∨ i = 14 ∨ i = 15 ∨ i = 16 ∨ i = 17 ∨ i = 18 ∨ i = 19 := by omega
        · have b7 : a'.eval (.tmp 7) = ov := hb' 7 (by kernel_rfl); have c7 := ev_get b7
          exact iv_val (v := ov) (by simp [execOp, b7]) ⟨_, rfl, QJ.step hj, Frm.refl _ _, rfl⟩
        · have b6 : a'.eval (.tmp 6) = .int .i64 root := hb' 6 (by kernel_rfl); have c6 := ev_get b6
          exact iv_val (v := .int .i64 root) (by simp [execOp, b6]) ⟨_, rfl, QJ.step hj, Frm.refl _ _, rfl⟩
        · have b5 : a'.eval (.tmp 5) = .slice (some ⟨gs, 0, none⟩) n c := hb' 5 (by kernel_rfl); have c5 := ev_get b5
          exact iv_val (v := .slice (some ⟨gs, 0, none⟩) n c) (by simp [execOp, b5]) ⟨_, rfl, QJ.step hj, Frm.refl _ _, rfl⟩
        · have b4 : a'.eval (.tmp 4) = .pointer (some ⟨g, 0, none⟩) := hb' 4 (by kernel_rfl); have c4 := ev_get b4
          exact iv_val (v := .pointer (some ⟨g, 0, none⟩)) (by simp [execOp, b4]) ⟨_, rfl, QJ.step hj, Frm.refl _ _, rfl⟩
        · have b5 : a'.eval (.tmp 5) = .slice (some ⟨gs, 0, none⟩) n c := hb' 5 (by kernel_rfl); have c5 := ev_get b5
          exact iv_val (v := .slice (some ⟨gs, 0, none⟩) n c) (by simp [execOp, b5]) ⟨_, rfl, QJ.step hj, Frm.refl _ _, rfl⟩
        · have v4 : a'.eval (.tmp 27) = .slice (some ⟨gs, 0, none⟩) n c := hd ⟨4, .data⟩ (by simp) rfl (fun j _ hc => by cases hc); have u4 := ev_get v4
          exact iv_val (v := .int .i64 n) (by simp [execOp, u4, go_sem]) ⟨_, rfl, QJ.step hj, Frm.refl _ _, rfl⟩
        · have v3 : a'.eval (.tmp 26) = .pointer (some ⟨g, 0, none⟩) := hd ⟨3, .data⟩ (by simp) rfl (fun j _ hc => by cases hc); have u3 := ev_get v3
          have v5 : a'.eval (.tmp 28) = .int .i64 n := hd ⟨5, .data⟩ (by simp) rfl (fun j _ hc => by cases hc); have u5 := ev_get v5
          obtain ⟨p', hp', hr, hfm, how⟩ := hj
          refine iv_enter (f := 48) (args := #[.pointer (some ⟨g, 0, none⟩), .int .i64 n]) (by simp [execOp, u3, u5, go_sem]) ?_
          refine (spec_pick_c g p' l n wk hr (by omega)).mono ?_
          rintro e w9 ⟨x9, rfl, x90, x91, _, r9, g9⟩
          have x92 := x91 (by omega)
          exact ⟨_, rfl, _, rfl, QJ.read hgB (by decide) ⟨p', hp', hr, hfm, how⟩ r9 (by omega) g9, Frm.of_grown g9 (fun b hb => .inl (Option.some.inj hb).symm), (show isI 0 (n - 1) _ w9 from ⟨x9, rfl, x90, by omega⟩)⟩
        · have v2 : a'.eval (.tmp 25) = .slice (some ⟨gs, 0, none⟩) n c := hd ⟨2, .data⟩ (by simp) rfl (fun j _ hc => by cases hc); have u2 := ev_get v2
          have e6 : isI 0 ((n : Int) - 1) (a'.eval (.tmp 29)) wk := hd ⟨6, .data⟩ (by simp) rfl (fun j _ hc => by cases hc)
          obtain ⟨x6, v6, x60, x61⟩ := e6
          have u6 := ev_get v6
          obtain ⟨j, rfl⟩ : ∃ j : Nat, x6 = j := ⟨x6.toNat, by omega⟩
          have hjn : (j : Int) < n := by omega
          exact iv_val (v := .pointer (some ⟨gs, j * 2, none⟩)) (by simp [execOp, u2, u6, hjn, go_sem, Result.andThen]) ⟨_, rfl, QJ.step hj, Frm.refl _ _, (show isPcP gs n _ wk from ⟨j, by omega, rfl⟩)⟩
        · have e7 : isPcP gs n (a'.eval (.tmp 30)) wk := hd ⟨7, .data⟩ (by simp) rfl (fun j _ hc => by cases hc)
          obtain ⟨j, hjn, v7⟩ := e7
          have u7 := ev_get v7
          exact iv_val (v := .pointer (some ⟨gs, j * 2, none⟩)) (by simp [execOp, u7, go_sem, Result.andThen]) ⟨_, rfl, QJ.step hj, Frm.refl _ _, (show isPcP gs n _ wk from ⟨j, hjn, rfl⟩)⟩
        · have e8 : isPcP gs n (a'.eval (.tmp 31)) wk := hd ⟨8, .data⟩ (by simp) rfl (fun j _ hc => by cases hc)
          obtain ⟨j, hjn, v8⟩ := e8
          have u8 := ev_get v8
          obtain ⟨y, hy⟩ := HSC.out wk hj.frm j hjn
          exact iv_val (v := .int .i64 y) (by simp [execOp, u8, hy, go_sem, Result.andThen]) ⟨_, rfl, QJ.step hj, Frm.refl _ _, (show isN _ wk from ⟨y, rfl⟩)⟩
        · have b4 : a'.eval (.tmp 4) = .pointer (some ⟨g, 0, none⟩) := hb' 4 (by kernel_rfl); have c4 := ev_get b4
          exact iv_val (v := .pointer (some ⟨g, 0, none⟩)) (by simp [execOp, b4]) ⟨_, rfl, QJ.step hj, Frm.refl _ _, rfl⟩
        · have v10 : a'.eval (.tmp 33) = .pointer (some ⟨g, 0, none⟩) := hd ⟨10, .data⟩ (by simp) rfl (fun j _ hc => by cases hc); have u10 := ev_get v10
          obtain ⟨p', hp', hr, hfm, how⟩ := hj
          refine iv_enter (f := 64) (args := #[.pointer (some ⟨g, 0, none⟩), .int .i64 6]) (by simp [execOp, u10, go_sem]) ?_
          refine (spec_l20Print_c g p' l 6 wk hr (by omega) (by omega) (by omega)).mono ?_
          rintro e w9 ⟨x9, p9, rfl, hp9, r9, g9⟩
          exact ⟨_, rfl, _, rfl, QJ.read hgB (by decide) ⟨p', hp', hr, hfm, how⟩ r9 (by omega) g9, Frm.of_grown g9 (fun b hb => .inl (Option.some.inj hb).symm), (show isN _ w9 from ⟨x9, rfl⟩)⟩
        · have v1 : a'.eval (.tmp 24) = .int .i64 root := hd ⟨1, .data⟩ (by simp) rfl (fun j _ hc => by cases hc); have u1 := ev_get v1
          have e9 : isN (a'.eval (.tmp 32)) wk := hd ⟨9, .data⟩ (by simp) rfl (fun j _ hc => by cases hc)
          obtain ⟨y9, v9⟩ := e9
          have u9 := ev_get v9
          have e10 : isN (a'.eval (.tmp 34)) wk := hd ⟨11, .data⟩ (by simp) rfl (fun j _ hc => by cases hc)
          obtain ⟨y10, v10⟩ := e10
          have u10 := ev_get v10
          exact iv_val (v := .slice (some ⟨wk.heap.size, 0, none⟩) 3 3) (w' := wk.alloc (.cells #[.int .i64 root, .int .i64 y9, .int .i64 y10] 3)) (by simp [execOp, u1, u9, u10, go_sem, Result.andThen]) ⟨_, rfl, QJ.alloc (by decide) hj _, Frm.of_below ((Below.refl _ _).alloc (Nat.le_refl _) _), (show isIRow g ov 3 _ _ from ⟨wk.heap.size, _, rfl, hj.ne_g, hj.ne_o HOV.out, heap_alloc_new _ _, rfl, rfl⟩)⟩
        · have b4 : a'.eval (.tmp 4) = .pointer (some ⟨g, 0, none⟩) := hb' 4 (by kernel_rfl); have c4 := ev_get b4
          exact iv_val (v := .pointer (some ⟨g, 0, none⟩)) (by simp [execOp, b4]) ⟨_, rfl, QJ.step hj, Frm.refl _ _, rfl⟩
        · have v13 : a'.eval (.tmp 36) = .pointer (some ⟨g, 0, none⟩) := hd ⟨13, .data⟩ (by simp) rfl (fun j _ hc => by cases hc); have u13 := ev_get v13
          obtain ⟨p', hp', hr, hfm, how⟩ := hj
          refine iv_enter (f := 48) (args := #[.pointer (some ⟨g, 0, none⟩), .int .i64 3]) (by simp [execOp, u13, go_sem]) ?_
          refine (spec_pick_c g p' l 3 wk hr (by omega)).mono ?_
          rintro e w9 ⟨x9, rfl, x90, x91, _, r9, g9⟩
          have x92 := x91 (by omega)
          exact ⟨_, rfl, _, rfl, QJ.read hgB (by decide) ⟨p', hp', hr, hfm, how⟩ r9 (by omega) g9, Frm.of_grown g9 (fun b hb => .inl (Option.some.inj hb).symm), (show isI 0 (3 - 1) _ w9 from ⟨x9, rfl, x90, by omega⟩)⟩
        · have e12 : isIRow g ov 3 (a'.eval (.tmp 35)) wk := hd ⟨12, .data⟩ (by simp) rfl (fun j _ hc => by cases hc)
          obtain ⟨b12, cs12, v12, h12a, h12b, h12c, h12d, h12e⟩ := e12
          have u12 := ev_get v12
          have e13 : isI 0 (3 - 1) (a'.eval (.tmp 37)) wk := hd ⟨14, .data⟩ (by simp) rfl (fun j _ hc => by cases hc)
          obtain ⟨x6, v13, x60, x61⟩ := e13
          have u13 := ev_get v13
          obtain ⟨j, rfl⟩ : ∃ j : Nat, x6 = j := ⟨x6.toNat, by omega⟩
          have hjn : (j : Int) < 3 := by omega
          obtain ⟨y, hy⟩ := irow_cell h12c h12d h12e (j := j) (by omega)
          exact iv_val (v := .pointer (some ⟨b12, j, none⟩)) (by simp [execOp, u12, u13, hjn, go_sem, Result.andThen]) ⟨_, rfl, QJ.step hj, Frm.refl _ _, (show isICell g ov _ wk from ⟨b12, j, y, rfl, h12a, h12b, hy⟩)⟩
        · have e14 : isICell g ov (a'.eval (.tmp 38)) wk := hd ⟨15, .data⟩ (by simp) rfl (fun j _ hc => by cases hc)
          obtain ⟨b14, i14, y14, v14, _, _, h14⟩ := e14
          have u14 := ev_get v14
          exact iv_val (v := .int .i64 y14) (by simp [execOp, u14, h14, go_sem, Result.andThen]) ⟨_, rfl, QJ.step hj, Frm.refl _ _, (show isN _ wk from ⟨y14, rfl⟩)⟩
        · have e15 : isN (a'.eval (.tmp 39)) wk := hd ⟨16, .data⟩ (by simp) rfl (fun j _ hc => by cases hc)
          obtain ⟨y15, v15⟩ := e15
          have u15 := ev_get v15
          exact iv_val (v := .slice (some ⟨wk.heap.size, 0, none⟩) 1 1) (w' := wk.alloc (.cells #[.int .i64 y15] 3)) (by simp [execOp, u15, go_sem, Result.andThen]) ⟨_, rfl, QJ.alloc (by decide) hj _, Frm.of_below ((Below.refl _ _).alloc (Nat.le_refl _) _), (show isLitI g ov _ _ from ⟨wk.heap.size, y15, rfl, hj.ne_g, hj.ne_o HOV.out, heap_alloc_new _ _⟩)⟩
        · have v0 : a'.eval (.tmp 23) = ov := hd ⟨0, .data⟩ (by simp) rfl (fun j _ hc => by cases hc); have u0 := ev_get v0
          have e16 : isLitI g ov (a'.eval (.tmp 40)) wk := hd ⟨17, .data⟩ (by simp) rfl (fun j _ hc => by cases hc)
          obtain ⟨b16, y16, v16, _, _, h16⟩ := e16
          obtain ⟨p', hp', hr, hfm, how⟩ := hj
          have how1 := how hL
          obtain ⟨i0, hi0, hz0, hz1, hz2⟩ := info_parts info_int
          refine wp_cat (enc := encI) wk (.tmp 23) (.tmp 40) 25 rfl B 3 i0 _ 1 8 Tryd.underlying25 hi0 hz0 hz1 hz2 rfl (by decide) ov (.slice (some ⟨b16, 0, none⟩) 1 1) acc [y16] v0 v16 how1 _ (lit_rdN h16) (by simp [Value.oneCell']) (by have := HAC.out; simp <;> omega) (by decide) (Nat.le_trans hBW hfm.size) ?_
          intro v' w' ho hg hg'
          exact ⟨_, rfl, QJ.appd ⟨p', hp', hr, hfm, how⟩ hg (fun b hb => by have := (Own.lt how1 b hb).1; omega), Frm.of_grown hg (fun b hb => .inr ⟨rfl, hb⟩), (show isMore B acc _ _ from ⟨y16, ho⟩)⟩
        · have e17 : isMore B acc (a'.eval (.tmp 41)) wk := hd ⟨18, .data⟩ (by simp) rfl (fun j _ hc => by cases hc)
          exact iv_val (v := a'.eval (.tmp 41)) (by simp [execOp]) ⟨_, rfl, QJ.step hj, Frm.refl _ _, e17⟩
      case fin =>
        intro tm w9 hLL hF
        obtain ⟨LL, _, p9, hp9, r9, fm9, _⟩ := hLL
        have o15 : isMore B acc (tm.getD 7 undef) w9 := hF 19 _ rfl (fun j => rfl)
        clear hF
        simp only [refillL, List.setIfInBounds_toArray, List.set_cons_succ, List.set_cons_zero]
        obtain ⟨sv, hsv⟩ : ∃ sv, tm.getD 7 undef = sv := ⟨_, rfl⟩
        rw [hsv] at o15 ⊢
        clear hsv
        obtain ⟨y15, o15⟩ := o15
        have O15 := hid o15
        have R15 := hid r9
        have F15 := hid fm9
        have hp9' : p9 ≤ pq + 80 := hp9
        have hB9 : B ≤ w9.heap.size := Nat.le_trans hBW fm9.size
        clear o15 r9 fm9 hp9
        have OP := hid (OO.out.frm F15.out (fun b hb e => by
          simp [Value.ownBlock] at hb
          rcases e with rfl | e
          · omega
          · have := (HOW.out.lt b e).1; omega))
        have GP := hid (show w0.grownBy w9 (some g) from gb_frm GG.out F15.out (fun b hb => by have := (HOW.out.lt b hb).1; have := HBB.out; omega))
        clear OO GG HRW HOW HOV HSC F15
        go_wp2
        go_roundw
        case rel => exact ⟨_, q - 1, p9, _, rfl, hB9, by omega, by go_num, O15, by simp; omega, OP, by omega, R15, GP⟩
        case measure => simp [intOf]; omega
    · have hg0 := HB0.out.size
      have d9 := HB0.out.grown G.out hg0 (fun b hb => by have := HGG.out; simp at hb; omega)
      go_wp2
      go_ret2
      exact ⟨_, _, xs, acc, rfl, O.out.less hg0, HD.out, A.out.less (by have := HBB.out; omega), by omega, d9⟩

set_option maxHeartbeats 2000000 in
set_option maxRecDepth 100000 in
theorem spec_DrawLostPrints_c (v : Value) (l0 : List Int) (w : World) (h : Rd encU 1 w w.heap.size v l0) (hl : ∀ x ∈ l0, 0 ≤ x ∧ x ≤ 255) :
    Calls Tryd.prog 24 #[v] w (RootsB w 4) := by
  go_enter Tryd.func24, Tryd.ntmps24
  go_wp2_with fail
  refine (spec_l20Roots_c v l0 w h hl).mono ?_
  rintro e w1 ⟨u, t, xs, ns, rfl, o, hd, a, hn, b⟩
  go_wp2
  go_ret2
  exact ⟨_, _, xs, ns, rfl, o, hd, a, hn, b⟩


end Go.Proofs.YtfdhaigmekmboaaDoor

/- Walks: what roots reach, the program's way: the whole. -/
namespace Go.Proofs.YtfdhaigmekmboaaDoor
open Go.RowKit

theorem todo_le {A : List Bool} {todo : List Nat} {m : Nat} (h : reachMu (A, todo) ≤ m) : todo.length ≤ m := by simp only [reachMu] at h; omega
theorem nil_or_snoc {α : Type} (l : List α) : l = [] ∨ ∃ (t : List α) (i : α), l = t ++ [i] := by
  rcases List.eq_nil_or_concat l with h | ⟨t, x, h⟩
  · exact .inl h
  · exact .inr ⟨t, x, by simpa using h⟩
theorem hmf_c (fn : Fn) (first cap : Array Value) (w : World) : (Instr.makeFunc fn first cap).run Tryd.prog w = .ok (.func fn first cap) w := rfl
theorem drop_at {α : Type} {xs : List α} {k : Nat} {x : α} (h : xs[k]? = some x) : xs.drop k = x :: xs.drop (k + 1) := by
  obtain ⟨h1, h2⟩ := List.getElem?_eq_some_iff.1 h
  rw [List.drop_eq_getElem_cons h1, h2]

set_option maxHeartbeats 2000000 in
set_option maxRecDepth 100000 in
theorem impl_reachedPieces_c (v u : Value) (xs : List Pc) (rts : List Int) (w : World) (h : Pcs w w.heap.size v xs) (h' : Ints w w.heap.size u rts) (hs : storeOk xs = true) (hl : rts.length ≤ 1048576) (hg : Glob w) :
    Calls Tryd.prog 43 #[v, u] w fun e w' => ∃ v', e = .returned v' ∧ OwnB w' w.heap.size v' (reachB xs rts) ∧ Below w.heap.size w w' := by
  obtain ⟨n, hn⟩ : ∃ n, xs.length = n := ⟨_, rfl⟩
  obtain ⟨a, c, rfl, _, _, hp3⟩ := h.pcs hn
  obtain ⟨q, hq⟩ : ∃ q, rts.length = q := ⟨_, rfl⟩
  obtain ⟨a', c', rfl, _, _, hi3⟩ := h'.ints hq
  have hn40 : n ≤ 40 := by have := (st_in hs).1; omega
  have HP : Hid (∀ wx, Below w.heap.size w wx → Pcs wx wx.heap.size (.slice a n c) xs) := fun wx hx' => h.on hx'
  have HX := hid (fun (x : Pc) (hx : x ∈ xs) => show x.text.size ≤ 1048576 by have := textOk_size (pcOk_iff.1 (st_all hs hx)).1; omega)
  have HP3 := hid hp3
  have HI3 := hid hi3
  have HS := hid hs
  have HN := hid hn
  have HQ := hid hq
  have HG := hid hg
  rw [hq] at hl
  obtain ⟨i0, hi, hz0, hz1, hz2⟩ := info_parts info_bool
  have b0 : Below w.heap.size w (w.alloc (.cells #[.slice a n c] 23)) := (Below.refl _ _).alloc (Nat.le_refl _) _
  have v0 : (w.alloc (.cells #[.slice a n c] 23)).heap[w.heap.size]? = some (.cells #[.slice a n c] 23 (0, 0)) := heap_alloc_new _ _
  have B0 := hid b0
  have V0 := hid v0
  clear b0 v0
  have hmf := hmf_c
  clear hp3 hi3 hs hn hq hg h h'
  go_enter Tryd.func43, Tryd.ntmps43
  go_wp2_with (at_make; refine wpList_make_full _ rfl _ _ 52 rfl (w.heap.size + 1) 4 i0 (.bool false) 1 Tryd.underlying52 hi hz0 hz1 _ _ _ _ n rfl rfl rfl rfl ?b2 ?b3 ?b4 ?_)
  case b2 => rw [hz2]; omega
  case b3 => unfold maxLen; omega
  case b4 => simp
  intro w1 o1 g1
  have b1 : Below w.heap.size w w1 := B0.out.grown g1 B0.out.size (by simp)
  have b1' : Below (w.heap.size + 1) (w.alloc (.cells #[.slice a n c] 23)) w1 := (Below.refl _ _).grown g1 (by simp) (by simp)
  have v1 := (b1'.block _ (Nat.lt_succ_self _)).trans V0.out
  have q1 : OwnB w1 (w.heap.size + 1) (.slice (some ⟨(w.heap.size + 1), 0, none⟩) n n) (List.replicate n false) := by
    unfold OwnB Own
    rw [List.length_replicate, ← made_flat (enc := encB) (.bool false) false rfl n]
    exact o1
  have l1 : w.heap.size + 1 < w1.heap.size := (q1.lt _ rfl).2
  obtain ⟨W3, hW3⟩ : ∃ W3, W3 = (w1.alloc (.cells #[.slice (some ⟨(w.heap.size + 1), 0, none⟩) n n] 52)).alloc (.cells #[.slice none 0 0] 25) := ⟨_, rfl⟩
  have hR : RVars W3 w.heap.size (w.heap.size + 1) w1.heap.size (w1.heap.size + 1) a n c (List.replicate n false) (.slice none 0 0) [] := by
    have b2 : Below w1.heap.size w1 W3 := by rw [hW3]; exact ((Below.refl _ _).alloc (Nat.le_refl _) _).alloc (by simp) _
    refine ⟨(b2.block _ (lt_of_block v1)).trans v1, ?_, q1.on b2, ?_, Own.nil_, Nat.lt_succ_self _, l1, Nat.lt_succ_self _⟩
    · rw [hW3]
      have : (w1.alloc (.cells #[.slice (some ⟨(w.heap.size + 1), 0, none⟩) n n] 52)).heap[w1.heap.size]? = some (.cells #[.slice (some ⟨(w.heap.size + 1), 0, none⟩) n n] 52 (0, 0)) := heap_alloc_new _ _
      exact (((Below.refl _ _).alloc (Nat.le_refl _) (.cells #[.slice none 0 0] 25)).block _ (lt_of_block this)).trans this
    · rw [hW3]
      have := heap_alloc_new (w1.alloc (.cells #[.slice (some ⟨(w.heap.size + 1), 0, none⟩) n n] 52)) (.cells #[.slice none 0 0] 25)
      simpa using this
  have b3 : Below w.heap.size w W3 := by rw [hW3]; exact (b1.alloc b1.size _).alloc (by simp; exact Nat.le_succ_of_le b1.size) _
  have HD0 := hid (dinv_start (l := xs) (roots := rts))
  have HB1 := hid b1.size
  clear o1 g1 hi hz0 hz1 hz2 v1 q1 b1 b1'
  go_wp2
  rw [← hW3]
  go_loopw [21] (fun iv wr => ∃ (k : Nat) (A : List Bool) (todo : List Nat) (tv : Value), k ≤ q ∧ iv = .int .i64 k ∧ RVars wr w.heap.size (w.heap.size + 1) w1.heap.size (w1.heap.size + 1) a n c A tv todo ∧ Hid (DInv xs rts A todo (rts.drop k)) ∧ reachMu (A, todo) ≤ 2 * n ∧ Below w.heap.size w wr) (fun iv _ => q - (intOf iv).toNat)
  case atStart => exact ⟨0, _, [], _, Nat.zero_le _, rfl, hR, by have := HD0.out; rw [HN.out] at this; exact hid this, by simp [reachMu], b3⟩
  case round =>
    obtain ⟨k, A, todo, tv, hk, rfl, hRv, hD, hmu, hb⟩ := hrel
    clear hR b3 hW3
    by_cases hlt : k < q
    · obtain ⟨b, o, y, rfl, hbl, hx, k0⟩ := HI3.out k hlt
      have j0 := (hb.cell (p := ⟨b, o + k, none⟩) hbl).trans k0
      have HDr := hid (drop_at hx.out)
      have HRv := hid hRv
      have HMu := hid hmu
      clear k0 hRv hmu
      go_wp2_with fail
      refine (reach_c w.heap.size (w.heap.size + 1) w1.heap.size (w1.heap.size + 1) n c a xs y A tv todo _ (HP.out _ hb) HS.out HN.out (hD.out.len.trans HN.out) HRv.out (by have := todo_le HMu.out; omega)).mono ?_
      rintro e w4 ⟨rfl, A', todo', tv', hst, hRv', hF, _⟩
      have hD' : Hid (DInv xs rts A' todo' (rts.drop (k + 1))) := by
        have h1 := hD.out
        rw [HDr.out] at h1
        have := dinv_step HS.out h1
        rw [hst] at this
        exact this
      have hmu' : reachMu (A', todo') ≤ 2 * n := by
        have := reachMu_step xs y (A, todo)
        rw [hst] at this
        exact Nat.le_trans this HMu.out
      have hb' : Below w.heap.size w w4 := hb.trans (hF.below (fun g e => by
        have hl := HRv.out.lt
        rcases e with e | e | e
        · omega
        · omega
        · have := (HRv.out.own.lt g e).1; omega) hb.size)
      clear hst hF hD hb
      go_wp2
      go_roundw
      case rel => exact ⟨k + 1, A', todo', tv', by omega, by go_num, hRv', hD', hmu', hb'⟩
      case measure => simp [intOf]; omega
    · have HD1 := hid (show DInv xs rts A todo [] by have := hD.out; rw [List.drop_eq_nil_of_le (by rw [HQ.out]; omega)] at this; exact this)
      have HMu := hid hmu
      have HRv := hid hRv
      clear hD hmu hRv
      go_wp2
      go_loopg [10] (2 * n) (fun gk s10 wr2 => ∃ (A : List Bool) (todo : List Nat) (tv : Value), RVars wr2 w.heap.size (w.heap.size + 1) w1.heap.size (w1.heap.size + 1) a n c A tv todo ∧ Hid (DInv xs rts A todo []) ∧ reachMu (A, todo) ≤ gk ∧ gk ≤ 2 * n ∧ Below w.heap.size w wr2)
      case atStart => exact ⟨A, todo, tv, HRv.out, HD1, HMu.out, Nat.le_refl _, hb⟩
      case round =>
        obtain ⟨A, todo, tv, hRv, hD, hmu, hgk, hb⟩ := hrel
        have HRv := hid hRv
        have c3 := cell_of_one hRv.vt
        rcases nil_or_snoc todo with rfl | ⟨t0, i, rfl⟩
        · obtain ⟨at', ct', rfl, _, _, _⟩ := (Rd.of_own hRv.own).ints (n := 0) rfl
          have c5 := cell_of_one hRv.vr
          have HE := hid (dinv_end HS.out hD.out)
          have hlt0 := hRv.lt
          clear hRv hD hmu
          go_wp2
          go_ret
          exact ⟨_, rfl, by rw [← HE.out]; exact HRv.out.row.less (by omega), hb⟩
        · obtain ⟨m, hm⟩ : ∃ m, t0.length = m := ⟨_, rfl⟩
          have hlen : (nats (t0 ++ [i])).length = m + 1 := by simp [hm]
          rcases hRv.own.2 with ⟨_, h00⟩ | ⟨g, cap, cur, htv, hge, hh, hnc, hcm, hcs, htk⟩
          · omega
          rw [hlen] at htv hnc
          subst htv
          have own1 : wr.ownsRow (w1.heap.size + 1 + 1) 3 1 (.slice (some ⟨g, 0, none⟩) (m + 1) cap) (m + 1) ((nats t0).flatMap encI ++ [.int .i64 (i : Int)]) := by
            have := hRv.own
            unfold OwnI Own at this
            rw [hlen] at this
            simpa [nats, encI] using this
          have hfl : ((nats t0).flatMap encI).length = m * 1 := by rw [← List.map_eq_flatMap]; simp [nats, hm]
          have d0 : wr.cell? ⟨g, m, none⟩ = some (.int .i64 (i : Int)) := (own1.cellAt m (by omega)).trans (by rw [List.getElem?_append_right (by omega), hfl]; simp)
          have own2 := ownsRow_pop hfl own1
          have hAi := hD.out.tin i (by simp)
          have hin : i < n := by have := (List.getElem?_eq_some_iff.1 hAi).1; have := hD.out.len; have := HN.out; omega
          obtain ⟨b, o, pr, t, rfl, hbl, hx, _, k1⟩ := HP3.out i hin
          have f3 := free_of_one hRv.vt
          obtain ⟨l1, l2, l3⟩ := hRv.lt
          obtain ⟨W4, hW4⟩ : ∃ W4, W4 = wr.setCell ⟨w1.heap.size + 1, 0, none⟩ (.slice (some ⟨g, 0, none⟩) m cap) := ⟨_, rfl⟩
          have F4 : Frm (fun k => k = w1.heap.size + 1) wr W4 := by rw [hW4]; exact Frm.set (S := fun k => k = w1.heap.size + 1) rfl _
          have hRv4 : RVars W4 w.heap.size (w.heap.size + 1) w1.heap.size (w1.heap.size + 1) (some ⟨b, o, none⟩) n c A (.slice (some ⟨g, 0, none⟩) m cap) t0 := by
            refine ⟨(F4.block _ (lt_of_block hRv.vs) (by omega)).trans hRv.vs, (F4.block _ (lt_of_block hRv.vr) (by omega)).trans hRv.vr, hRv.row.frm F4 (fun g hg e => by simp only [Value.ownBlock, Option.some.injEq] at hg; omega), by rw [hW4]; exact one_setCell hRv.vt, ?_, l1, l2, l3⟩
            have := ownsRow_setCell_below (a := ⟨w1.heap.size + 1, 0, none⟩) own2 (by show w1.heap.size + 1 < _; omega) (.slice (some ⟨g, 0, none⟩) m cap)
            rw [← hW4] at this
            unfold OwnI Own
            rw [show (nats t0).length = m by simp [hm]]
            exact this
          have hb4 : Below w.heap.size w W4 := hb.trans (F4.below (fun k e => by omega) hb.size)
          have e0 : (wr.setCell ⟨w1.heap.size + 1, 0, none⟩ (.slice (some ⟨g, 0, none⟩) m cap)).cell? ⟨w.heap.size, 0, none⟩ = some (.slice (some ⟨b, o, none⟩) n c) := by rw [← hW4]; exact cell_of_one hRv4.vs
          have e1 : (wr.setCell ⟨w1.heap.size + 1, 0, none⟩ (.slice (some ⟨g, 0, none⟩) m cap)).cell? ⟨b, o + i * 2 + 1, none⟩ = some (.string t) := by rw [← hW4]; exact (hb4.cell (p := ⟨b, o + i * 2 + 1, none⟩) hbl).trans k1
          have HD4 := hid (dinv_pop hD.out hx.out)
          have hmu4 : reachMu (A, t0) + 1 ≤ gk := by simp only [reachMu, List.length_append, List.length_cons, List.length_nil] at hmu ⊢; omega
          have HMu4 := hid hmu4
          have hm80 : m ≤ 80 := by have := todo_le hmu; simp at this; omega
          have HRv4 := hid hRv4
          have HT := hid (HX.out _ (List.mem_of_getElem? hx.out))
          obtain ⟨es, hes⟩ : ∃ es, entsOf (bs t) = es := ⟨_, rfl⟩
          have HES := hid hes
          have hm3 := entsOf_len (bs t)
          rw [hes] at hm3
          obtain ⟨mm, hmm⟩ : ∃ mm, es.length = mm := ⟨_, rfl⟩
          have HM := hid hmm
          have hmm4 : mm ≤ 3 := by omega
          have HB4 := hid hb4
          have hgkp : 0 < gk := by omega
          clear hRv hD hmu hh hcm hcs htk own1 own2 hfl hAi k1 F4 hRv4 hmu4 hes hm3 hlen hm hge hb l1 l2 l3 hb4
          go_wp2_with fail
          rw [← hW4]
          refine (impl_ReadFolder_c t _ HT.out (HG.out.on HB4.out)).mono ?_
          rw [HES.out]
          rintro e w5 ⟨lv, rfl, o5, b5⟩
          have hRv5 := HRv4.out.on b5
          have hb5 := bl_then HB4.out b5
          have hlt5 := hid o5.lt
          have hpb : Hid (∀ g', Value.ownBlock (.slice (some ⟨g, 0, none⟩) m cap) = some g' → g' < W4.heap.size) := hid fun g' hg' => (HRv4.out.own.lt g' hg').2
          have hg34 : w1.heap.size + 1 < W4.heap.size := lt_of_block HRv4.out.vt
          have hsz5 := b5.size
          obtain ⟨la, lc, rfl, _, _, _⟩ := (Rd.of_own o5).ents hmm
          have HXP := hid (show prs ⟨pr, t⟩ = es.map (·.print) by unfold prs; rw [HES.out])
          clear hW4 b5 hmm c3 f3 d0 e0 e1
          go_wp2
          go_loopw [54] (fun iv wr3 => ∃ (j : Nat) (A' : List Bool) (todo' : List Nat) (tv' : Value), j ≤ mm ∧ iv = .int .i64 j ∧ RVars wr3 w.heap.size (w.heap.size + 1) w1.heap.size (w1.heap.size + 1) (some ⟨b, o, none⟩) n c A' tv' todo' ∧ Hid (DInv xs rts A' todo' ((es.map (·.print)).drop j)) ∧ reachMu (A', todo') + 1 ≤ gk ∧ OwnE wr3 W4.heap.size (.slice la mm lc) es ∧ Hid (∀ g', tv'.ownBlock = some g' → g' < W4.heap.size ∨ w5.heap.size ≤ g') ∧ Below w.heap.size w wr3 ∧ w5.heap.size ≤ wr3.heap.size) (fun iv _ => mm - (intOf iv).toNat)
          case atStart => exact ⟨0, A, t0, _, Nat.zero_le _, rfl, hRv5, by have := HD4.out; rw [HXP.out] at this; exact hid this, HMu4.out, o5, hid fun g' hg' => .inl (hpb.out g' hg'), hb5, Nat.le_refl _⟩
          case round =>
            obtain ⟨j, A', todo', tv', hj, rfl, hRv6, hD6, hmu6, hol, hpb6, hb6, hsz6⟩ := hrel
            clear o5 hRv5 hb5
            by_cases hjm : j < mm
            · obtain ⟨_, _, hv, _, _, hcs⟩ := (Rd.of_own hol).ents HM.out
              simp only [Value.slice.injEq] at hv
              obtain ⟨e1, _, e2⟩ := hv
              subst e1
              subst e2
              obtain ⟨eb, eo, nm, y, rfl, hebl, hex, c0, c1⟩ := hcs j hjm
              have HDr := hid (drop_at (show (es.map (·.print))[j]? = some y by rw [List.getElem?_map, hex.out]; rfl))
              obtain ⟨W7, hW7⟩ : ∃ W7, W7 = wr.alloc (.cells #[.string nm, .int .i64 y] 37) := ⟨_, rfl⟩
              have hbl7 : Below wr.heap.size wr W7 := by rw [hW7]; exact (Below.refl _ _).alloc (Nat.le_refl _) _
              have hRv7 := hid (hRv6.on hbl7)
              have hol7 := hid (hol.on hbl7)
              have hb7 := hid (bl_then hb6 hbl7)
              have HS7 := hid hbl7.size
              have HMu6 := hid hmu6
              clear hcs hRv6 hol hb6 hmu6 hbl7
              go_wp2_with fail
              rw [← hW7]
              refine (reach_c w.heap.size (w.heap.size + 1) w1.heap.size (w1.heap.size + 1) n c (some ⟨b, o, none⟩) xs y A' tv' todo' _ (HP.out _ hb7.out) HS.out HN.out (hD6.out.len.trans HN.out) hRv7.out (by have := todo_le (show reachMu (A', todo') ≤ gk by have := HMu6.out; omega); omega)).mono ?_
              rintro e w8 ⟨rfl, A8, todo8, tv8, hst, hRv8, hF, hnb⟩
              have hD8 : Hid (DInv xs rts A8 todo8 ((es.map (·.print)).drop (j + 1))) := by
                have h1 := hD6.out
                rw [HDr.out] at h1
                have := dinv_step HS.out h1
                rw [hst] at this
                exact this
              have hmu8 : reachMu (A8, todo8) + 1 ≤ gk := by
                have h1 := reachMu_step xs y (A', todo')
                rw [hst] at h1
                have := HMu6.out
                omega
              have hb8 : Below w.heap.size w w8 := hb7.out.trans (hF.below (fun g' e => by
                have hl := hRv7.out.lt
                rcases e with e | e | e
                · omega
                · omega
                · have := (hRv7.out.own.lt g' e).1; omega) hb7.out.size)
              have hol8 : OwnE w8 W4.heap.size (.slice (some ⟨eb, eo, none⟩) mm lc) es := hol7.out.frm hF (fun g' hg' e => by
                have h5 := hlt5.out g' hg'
                have hl := hRv7.out.lt
                rcases e with e | e | e
                · omega
                · omega
                · rcases hpb6.out g' e with h6 | h6
                  · omega
                  · omega)
              have hsz8 : w5.heap.size ≤ w8.heap.size := by have := hF.size; have := HS7.out; omega
              have hpb8 : Hid (∀ g', tv8.ownBlock = some g' → g' < W4.heap.size ∨ w5.heap.size ≤ g') := hid fun g' hg' => by
                rcases hnb g' hg' with h6 | h6
                · exact hpb6.out g' h6
                · have := HS7.out; exact .inr (by omega)
              clear hst hF hnb hD6
              go_wp2
              go_roundw
              case rel => exact ⟨j + 1, A8, todo8, tv8, by omega, by go_num, hRv8, hD8, hmu8, hol8, hpb8, hb8, hsz8⟩
              case measure => simp [intOf]; omega
            · have HD9 := hid (show DInv xs rts A' todo' [] by have := hD6.out; rw [List.drop_eq_nil_of_le (by rw [List.length_map, HM.out]; omega)] at this; exact this)
              go_wp2
              go_roundg (gk - 1)
              case measure => omega
              case rel => exact ⟨A', todo', tv', hRv6, HD9, by omega, by omega, hb6⟩

end Go.Proofs.YtfdhaigmekmboaaDoor

/- Walks: what roots reach, the reference's way. -/
namespace Go.Proofs.YtfdhaigmekmboaaDoor
open Go.RowKit

theorem cell_block {w w' : World} {p : Addr} (h : w'.heap[p.block]? = w.heap[p.block]?) : w'.cell? p = w.cell? p := World.cell?_of_block h
theorem Frm.draw {S : Nat → Prop} {a w : World} (h : Frm S a w) (q : Nat) : Frm S a (w.drewN q) :=
  h.trans (S' := S) (Frm.of_below (bl_drewN (Below.refl _ _) q)) (fun _ _ e => e)
theorem Frm.then {S : Nat → Prop} {a b c : World} (h : Frm S a b) (k : Below b.heap.size b c) : Frm S a c := h.trans (S' := S) (Frm.of_below k) (fun _ _ e => e)
theorem Frm.then' {S : Nat → Prop} {a b c : World} (h : Frm S a b) (k : Frm S b c) : Frm S a c := h.trans (S' := S) k (fun _ _ e => e)
theorem entsOf_off {l : List UInt8} (h : (readFolder l).isSome = false) : entsOf l = [] := by
  unfold entsOf
  cases hr : readFolder l with
  | none => rfl
  | some x => rw [hr] at h; cases h
/-- The marks behind the first round. -/
theorem round_one {l : List Pc} {roots : List Int} {A : List Bool} (hs : storeOk l = true) (hl : A.length = l.length) (h : ∀ (j : Nat) (x : Pc), l[j]? = some x → A[j]? = some (hasI roots x.print)) : RInv l roots A := by
  refine ⟨hl, ?_, ?_⟩
  · intro i x hi hx
    rw [h i x hx] at hi
    exact rch_root (hasI_iff.1 (Option.some.inj hi)) (has_mem (List.mem_of_getElem? hx))
  · intro y hy hp
    obtain ⟨x, hx, hxy⟩ := has_spot hs hp
    exact ⟨_, x, by rw [h _ x hx, hxy, hasI_iff.2 hy], hx, hxy⟩
/-- A row of marks, the first ones anew. -/
def mixY (l : List Pc) (y : Int) (A : List Bool) (i : Nat) : List Bool := (markY l y A).take i ++ A.drop i
theorem mixY_len {l : List Pc} {y : Int} {A : List Bool} (h : A.length = l.length) (i : Nat) (hi : i ≤ l.length) : (mixY l y A i).length = l.length := by
  unfold mixY; rw [List.length_append, List.length_take, List.length_drop, markY_len h]; omega
theorem mixY_zero (l : List Pc) (y : Int) (A : List Bool) : mixY l y A 0 = A := by simp [mixY]
theorem mixY_all {l : List Pc} {y : Int} {A : List Bool} {n i : Nat} (h : A.length = l.length) (hn : l.length = n) (hi : n ≤ i) : mixY l y A i = markY l y A := by
  unfold mixY
  rw [List.take_of_length_le (by rw [markY_len h]; omega), List.drop_eq_nil_of_le (by omega), List.append_nil]
theorem mixY_at {l : List Pc} {y : Int} {A : List Bool} {i : Nat} {b : Bool} (h : A.length = l.length) (hb : A[i]? = some b) : (mixY l y A i)[i]? = some b := by
  unfold mixY
  have hi := (List.getElem?_eq_some_iff.1 hb).1
  rw [List.getElem?_append_right (by rw [List.length_take]; omega), List.length_take, markY_len h, Nat.min_eq_left (by omega), Nat.sub_self, List.getElem?_drop, Nat.add_zero, hb]
theorem mixY_step {l : List Pc} {y : Int} {A : List Bool} {i : Nat} {b : Bool} {x : Pc} (h : A.length = l.length) (hb : A[i]? = some b) (hx : l[i]? = some x) : (mixY l y A i).set i (b || decide (x.print = y)) = mixY l y A (i + 1) := by
  have hi := (List.getElem?_eq_some_iff.1 hb).1
  have hm := markY_get (y := y) hb hx
  unfold mixY
  rw [List.set_append_right _ _ (by rw [List.length_take]; omega), List.length_take, markY_len h, Nat.min_eq_left (by omega), Nat.sub_self, take_snoc' hm, List.append_assoc]
  congr 1
  obtain ⟨h1, h2⟩ := List.getElem?_eq_some_iff.1 hb
  rw [List.drop_eq_getElem_cons h1]; rfl

set_option maxHeartbeats 2000000 in
set_option maxRecDepth 100000 in
theorem spec_ReachOf_c (v u : Value) (xs : List Pc) (rts : List Int) (w : World) (h : Pcs w w.heap.size v xs) (h' : Ints w w.heap.size u rts) (hx0 : ∀ x ∈ xs, x.text.size ≤ 1048576) (hl0 : xs.length ≤ 1048576) :
    Calls Tryd.prog 45 #[v, u] w fun e w' => ∃ v', e = .returned v' ∧ OwnI w' w.heap.size v' (reachOf xs rts) ∧ Below w.heap.size w w' := by
  obtain ⟨n, hn⟩ : ∃ n, xs.length = n := ⟨_, rfl⟩
  obtain ⟨a, c, rfl, _, _, h3⟩ := h.pcs hn
  have H3 := hid h3
  have HN := hid hn
  have HX1 := hid hx0
  have HL := hid hl0
  have HP : Hid (∀ wx, Below w.heap.size w wx → Pcs wx wx.heap.size (.slice a n c) xs) := fun wx hx' => h.on hx'
  have HI : Hid (∀ wx, Below w.heap.size w wx → Ints wx wx.heap.size u rts) := fun wx hx' => h'.on hx'
  obtain ⟨W1, hW1⟩ : ∃ W1, W1 = w.alloc (.cells #[] 3) := ⟨_, rfl⟩
  have hal : Below w.heap.size w W1 := by rw [hW1]; exact (Below.refl _ _).alloc (Nat.le_refl _) _
  have hown0 : OwnI W1 w.heap.size (.slice (some ⟨w.heap.size, 0, none⟩) 0 0) [] := by rw [hW1]; exact Own.made _ (Nat.le_refl _)
  have lt0 : w.heap.size < W1.heap.size := (hown0.lt _ rfl).2
  clear hn h h' hx0 h3
  cases hok : storeOk xs
  · have HO := hid (reachOf_off (roots := rts) hok)
    have HK := hid hok
    clear hok hl0
    go_enter Tryd.func45, Tryd.ntmps45
    go_wp2_with fail
    rw [← hW1]
    clear hW1
    refine (spec_StoreValid_c _ xs _ _ (HP.out _ hal) HX1.out HL.out).mono ?_
    rw [HK.out]
    rintro e w' ⟨rfl, q, rfl⟩
    go_wp2
    go_ret
    exact ⟨_, rfl, by rw [HO.out]; exact hown0.drewN q, bl_drewN hal q⟩
  · have HO := hid (reachOf_on (roots := rts) hok)
    have HK := hid hok
    have HX := hid (fun (x : Pc) (hx : x ∈ xs) => show x.text.size ≤ 1000000 by have := textOk_size (pcOk_iff.1 (st_all hok hx)).1; omega)
    have hn40 : n ≤ 40 := by have := (st_in hok).1; have := HN.out; omega
    obtain ⟨i0, hi, hz0, hz1, hz2⟩ := info_parts info_bool
    clear hok hl0
    go_enter Tryd.func45, Tryd.ntmps45
    go_wp2_with fail
    rw [← hW1]
    refine (spec_StoreValid_c _ xs _ _ (HP.out _ hal) HX1.out HL.out).mono ?_
    rw [HK.out]
    rintro e w' ⟨rfl, q, rfl⟩
    obtain ⟨W2, hW2⟩ : ∃ W2, W2 = W1.drewN q := ⟨_, rfl⟩
    have hb2 : Below w.heap.size w W2 := by rw [hW2]; exact bl_drewN hal q
    have hown2 := hown0.drewN q
    have lt2 : w.heap.size < W2.heap.size := by rw [hW2]; exact lt0
    rw [← hW2] at hown2
    rw [← hW2]
    clear hW1 hW2 hal hown0 lt0
    go_wp2_with (at_make; refine wpList_make_full _ rfl _ _ 52 rfl W2.heap.size 4 i0 (.bool false) 1 Tryd.underlying52 hi hz0 hz1 _ _ _ _ n rfl rfl rfl rfl ?b2 ?b3 (Nat.le_refl _) ?_)
    case b2 => rw [hz2]; omega
    case b3 => unfold maxLen; omega
    intro w3 o3 g3
    have q3 : OwnB w3 W2.heap.size (.slice (some ⟨W2.heap.size, 0, none⟩) n n) (List.replicate n false) := by
      unfold OwnB Own
      rw [List.length_replicate, ← made_flat (enc := encB) (.bool false) false rfl n]
      exact o3
    have hb3 : Below w.heap.size w w3 := hb2.grown g3 hb2.size (by simp)
    have hown3 : OwnI w3 w.heap.size (.slice (some ⟨w.heap.size, 0, none⟩) 0 0) [] := hown2.kept g3 (.inr (by simp [Value.ownBlock]))
    have HOUT := hid hown3
    have HB3 := hid hb3
    have LT2 := hid lt2
    have lt3 : W2.heap.size < w3.heap.size := (q3.lt _ rfl).2
    clear o3 g3 hi hz0 hz1 hz2 hown2 hown3 hb2 hb3 lt2
    have hbel : Hid (∀ wx, Frm (fun k => k = W2.heap.size) w3 wx → Below w.heap.size w wx) := hid fun wx hf => HB3.out.trans (hf.below (fun k e => by have := LT2.out; omega) HB3.out.size)
    have hcel : Hid (∀ (wx : World) (A : List Bool) (i : Nat) (b : Bool), OwnB wx W2.heap.size (.slice (some ⟨W2.heap.size, 0, none⟩) n n) A → A.length = n → A[i]? = some b → wx.cell? ⟨W2.heap.size, i, none⟩ = some (.bool b) ∧ wx.frozen? ⟨W2.heap.size, i, none⟩ = false) := hid fun wx A i b ho hA hb => by
      unfold OwnB Own at ho
      rw [hA] at ho
      have hi := (List.getElem?_eq_some_iff.1 hb).1
      have := flatMap_get (enc := encB) (fun _ => rfl) A i 0 _ _ hb rfl
      exact ⟨(ho.cellAt i (by omega)).trans (by simpa using this), ho.frozenAt i⟩
    have hsto : Hid (∀ (wx : World) (A : List Bool) (i : Nat) (b : Bool), OwnB wx W2.heap.size (.slice (some ⟨W2.heap.size, 0, none⟩) n n) A → A.length = n → OwnB (wx.setCell ⟨W2.heap.size, i, none⟩ (.bool b)) W2.heap.size (.slice (some ⟨W2.heap.size, 0, none⟩) n n) (A.set i b)) := hid fun wx A i b ho hA => by
      unfold OwnB Own at ho ⊢
      rw [List.length_set, hA, ← set_flatB]
      rw [hA] at ho
      exact (ho.stored i (.bool b)).1
    go_wp2
    go_loopw [7] (fun iv wr => ∃ (r : Nat) (A : List Bool), r ≤ n + 1 ∧ iv = .int .i64 r ∧ OwnB wr W2.heap.size (.slice (some ⟨W2.heap.size, 0, none⟩) n n) A ∧ A.length = n ∧ Hid (0 < r → RInv xs rts A ∧ (Cpl xs rts A ∨ r ≤ A.count true + 1)) ∧ Frm (fun k => k = W2.heap.size) w3 wr) (fun iv _ => n + 1 - (intOf iv).toNat)
    case atStart => exact ⟨0, _, by omega, rfl, q3, by simp, hid (fun h0 => absurd h0 (by omega)), Frm.refl _ _⟩
    case round =>
      obtain ⟨r, A0, hr, rfl, hrow, hA0, hinv, hfr⟩ := hrel
      clear q3
      by_cases hrn : r ≤ n
      · by_cases hr0 : r = 0
        · have hd1 : decide (r = 0) = true := by simp [hr0]
          have hd2 : (r == 0) = true := by simp [hr0]
          have HR0 := hid hr0
          clear hr0 hinv
          go_wp2
          go_loopw [8] (fun iv wr2 => ∃ (k : Nat) (A : List Bool), k ≤ n ∧ iv = .int .i64 k ∧ OwnB wr2 W2.heap.size (.slice (some ⟨W2.heap.size, 0, none⟩) n n) A ∧ A.length = n ∧ Hid (∀ (j : Nat) (x : Pc), j < k → xs[j]? = some x → A[j]? = some (hasI rts x.print)) ∧ Frm (fun k => k = W2.heap.size) w3 wr2) (fun iv _ => n - (intOf iv).toNat)
          case atStart => exact ⟨0, A0, Nat.zero_le _, rfl, hrow, hA0, hid (fun j x hj => absurd hj (by omega)), hfr⟩
          case round =>
            obtain ⟨k, A, hk, rfl, hrow2, hA, hdone, hfr2⟩ := hrel
            clear hrow hfr
            by_cases hkn : k < n
            · obtain ⟨b, o, pr, t, rfl, hbl, hx, k0, _⟩ := H3.out k hkn
              have hb4 := hbel.out _ hfr2
              have j0 := (hb4.cell (p := ⟨b, o + k * 2, none⟩) hbl).trans k0
              obtain ⟨z0, hAk⟩ : ∃ z, A[k]? = some z := ⟨_, List.getElem?_eq_getElem (by omega)⟩
              obtain ⟨d1, f1⟩ := hcel.out _ A k _ hrow2 hA hAk
              have HI4 := hid (HI.out _ hb4)
              have HSt := hid (hsto.out _ A k (hasI rts pr) hrow2 hA)
              have HF := hid (hfr2.then' (Frm.set (S := fun k => k = W2.heap.size) (i := k) rfl (.bool (hasI rts pr))))
              have HD := hid (show ∀ (j : Nat) (x : Pc), j < k + 1 → xs[j]? = some x → (A.set k (hasI rts pr))[j]? = some (hasI rts x.print) from fun j x hj hxj => by
                by_cases e : k = j
                · subst e
                  rw [hx.out] at hxj
                  obtain rfl := Option.some.inj hxj
                  rw [List.getElem?_set_self (by omega)]
                · rw [List.getElem?_set_ne e]; exact hdone.out j x (by omega) hxj)
              have HA := hid hA
              clear k0 hAk hb4 hrow2 hfr2 hA
              go_wp2_with (go_at_call 41; refine (spec_l19Has_c _ rts pr _ _ HI4.out).mono ?_; rintro e w' ⟨rfl, rfl⟩)
              go_roundw
              case rel => exact ⟨k + 1, _, by omega, by go_num, HSt.out, by rw [List.length_set, HA.out], HD, HF.out⟩
              case measure => simp [intOf]; omega
            · have HR := hid (round_one (roots := rts) HK.out (hA.trans HN.out.symm) (fun j x hx => hdone.out j x (by have := (List.getElem?_eq_some_iff.1 hx).1; have := HN.out; omega) hx))
              go_wp2
              go_roundw
              case rel => exact ⟨r + 1, A, by omega, by go_num, hrow2, hA, hid (fun _ => ⟨HR.out, .inr (by have := HR0.out; omega)⟩), hfr2⟩
              case measure => simp [intOf]; omega
        · have hr1 : 0 < r := by omega
          have HI1 := hid (hinv.out hr1)
          have hd1 : decide (r = 0) = false := by simp [hr0]
          have hd2 : (r == 0) = false := by simp [hr0]
          have HR0 := hid hr0
          clear hr0 hinv
          go_wp2
          go_loopw [8] (fun iv wr2 => ∃ (k : Nat) (A : List Bool), k ≤ n ∧ iv = .int .i64 k ∧ OwnB wr2 W2.heap.size (.slice (some ⟨W2.heap.size, 0, none⟩) n n) A ∧ A.length = n ∧ Hid (RInv xs rts A ∧ Up A0 A ∧ ∀ (i : Nat) (x : Pc), i < k → A0[i]? = some true → xs[i]? = some x → ∀ y ∈ prs x, hasP xs y = true → OnA A xs y) ∧ Frm (fun k => k = W2.heap.size) w3 wr2) (fun iv _ => n - (intOf iv).toNat)
          case atStart => exact ⟨0, A0, Nat.zero_le _, rfl, hrow, hA0, hid ⟨HI1.out.1, Up.rfl' _, fun i x hi => absurd hi (by omega)⟩, hfr⟩
          case round =>
            obtain ⟨k, A1, hk, rfl, hrow2, hA1, hin, hfr2⟩ := hrel
            clear hrow hfr
            by_cases hkn : k < n
            · obtain ⟨b, o, pr, t, rfl, hbl, hx, _, k1⟩ := H3.out k hkn
              have hb4 := hbel.out _ hfr2
              have j1 := (hb4.cell (p := ⟨b, o + k * 2 + 1, none⟩) hbl).trans k1
              have HT := hid (HX.out _ (List.mem_of_getElem? hx.out))
              obtain ⟨es, hes⟩ : ∃ es, entsOf (bs t) = es := ⟨_, rfl⟩
              have HES := hid hes
              have hm3 := entsOf_len (bs t)
              rw [hes] at hm3
              obtain ⟨m, hm⟩ : ∃ m, es.length = m := ⟨_, rfl⟩
              have HM := hid hm
              have hm4 : m ≤ 3 := by omega
              obtain ⟨f, hf⟩ : ∃ f, (readFolder (bs t)).isSome = f := ⟨_, rfl⟩
              have HF := hid hf
              have HFM := hid (show f = false → m = 0 from fun e => by rw [e] at hf; rw [← hm, ← hes, entsOf_off hf]; rfl)
              have hge := (hrow2.lt _ rfl).2
              have HA1 := hid hA1
              clear k1 hes hm3 hf hA1 hb4
              go_wp2_with fail
              refine (spec_ReadFolder_c t _ HT.out).mono ?_
              rw [HES.out, HF.out]
              rintro e w4 ⟨lv, rfl, o4, b4⟩
              have hrow4 := hrow2.on b4
              have hfr4 := hfr2.then b4
              obtain ⟨la, lc, rfl, _, _, _⟩ := (Rd.of_own o4).ents hm
              have hlt4 := hid o4.lt
              have O4 := hid o4
              obtain ⟨z, hz⟩ : ∃ z, A1[k]? = some z := ⟨_, List.getElem?_eq_getElem (by have := HA1.out; omega)⟩
              obtain ⟨d1, f1⟩ := hcel.out _ A1 k z hrow4 HA1.out hz
              have HZ := hid hz
              clear hm b4 hrow2 hfr2 j1 o4 hz
              cases z
              · have HRL := hid (show RInv xs rts A1 ∧ Up A0 A1 ∧ ∀ (i : Nat) (x : Pc), i < k + 1 → A0[i]? = some true → xs[i]? = some x → ∀ y ∈ prs x, hasP xs y = true → OnA A1 xs y from ⟨hin.out.1, hin.out.2.1, fun i x hi h0 hxi => by
                  by_cases e : i = k
                  · subst e
                    have := hin.out.2.1.2 i h0
                    rw [HZ.out] at this; cases this
                  · exact hin.out.2.2 i x (by omega) h0 hxi⟩)
                by_cases hm0 : 0 < m
                · go_wp2
                  refine wp_loop_rounds 1 ?_
                  rw [rounds_succ]
                  go_wp2
                  go_roundw
                  case rel => exact ⟨k + 1, A1, by omega, by go_num, hrow4, HA1.out, HRL, hfr4⟩
                  case measure => simp [intOf]; omega
                · have hd0 : decide (0 < m) = false := by simp; omega
                  go_wp2
                  refine wp_loop_rounds 1 ?_
                  rw [rounds_succ]
                  go_wp2
                  go_roundw
                  case rel => exact ⟨k + 1, A1, by omega, by go_num, hrow4, HA1.out, HRL, hfr4⟩
                  case measure => simp [intOf]; omega
              · have HXP := hid (show prs ⟨pr, t⟩ = es.map (·.print) by unfold prs; rw [HES.out])
                clear d1 f1
                go_wp2
                go_loopw [11] (fun iv wr3 => ∃ (j : Nat) (A : List Bool), j ≤ m ∧ iv = .int .i64 j ∧ OwnB wr3 W2.heap.size (.slice (some ⟨W2.heap.size, 0, none⟩) n n) A ∧ A.length = n ∧ Hid (RInv xs rts A ∧ Up A1 A ∧ ∀ y ∈ (es.map (·.print)).take j, hasP xs y = true → OnA A xs y) ∧ Frm (fun k => k = W2.heap.size) w4 wr3) (fun iv _ => m - (intOf iv).toNat)
                case atStart => exact ⟨0, A1, Nat.zero_le _, rfl, hrow4, HA1.out, hid ⟨hin.out.1, Up.rfl' _, fun y hy => by simp at hy⟩, Frm.refl _ _⟩
                case round =>
                  obtain ⟨j, A, hj, rfl, hrow5, hA, hin5, hfr5⟩ := hrel
                  clear hrow4
                  by_cases hjm : j < m
                  · have o5 := O4.out.frm hfr5 (fun g hg e => by have := (hlt4.out g hg).1; omega)
                    obtain ⟨_, _, hv, _, _, H5⟩ := (Rd.of_own o5).ents HM.out
                    simp only [Value.slice.injEq] at hv
                    obtain ⟨e1, _, e2⟩ := hv
                    subst e1
                    subst e2
                    obtain ⟨eb, eo, nm, y, rfl, hebl, hex, _, c1⟩ := H5 j hjm
                    have hAk := hin5.out.2.1.2 k HZ.out
                    obtain ⟨d1, f1⟩ := hcel.out _ A k true hrow5 hA hAk
                    have HY := hid (show (es.map (·.print)).take (j + 1) = (es.map (·.print)).take j ++ [y] from take_snoc' (x := y) (by rw [List.getElem?_map, hex.out]; rfl))
                    have hft : f = true := by
                      cases f
                      · have := HFM.out rfl; omega
                      · rfl
                    subst hft
                    have HA := hid hA
                    have HEB := hid (show W2.heap.size < eb by have := (hlt4.out eb rfl).1; omega)
                    have HC1 := hid c1
                    have HEL := hid hebl
                    clear H5 hAk c1 hA o5 hebl
                    go_wp2
                    go_loopw [12] (fun iv wr4 => ∃ (i : Nat), i ≤ n ∧ iv = .int .i64 i ∧ OwnB wr4 W2.heap.size (.slice (some ⟨W2.heap.size, 0, none⟩) n n) (mixY xs y A i) ∧ Frm (fun k => k = W2.heap.size) wr wr4) (fun iv _ => n - (intOf iv).toNat)
                    case atStart => exact ⟨0, Nat.zero_le _, rfl, by rw [mixY_zero]; exact hrow5, Frm.refl _ _⟩
                    case round =>
                      obtain ⟨i, hi, rfl, hrow6, hfr6⟩ := hrel
                      clear hrow5 d1 f1
                      have hAN : A.length = xs.length := HA.out.trans HN.out.symm
                      by_cases hin6 : i < n
                      · obtain ⟨b', o', pr', t', hbo, hbl', hx', k6, _⟩ := H3.out i hin6
                        simp only [Option.some.injEq, Addr.mk.injEq, and_true] at hbo
                        obtain ⟨rfl, rfl⟩ := hbo
                        have hb6 := hbel.out _ (hfr4.then' (hfr5.then' hfr6))
                        have j6 := (hb6.cell (p := ⟨b, o + i * 2, none⟩) hbl').trans k6
                        have c6 := (cell_block (p := ⟨eb, eo + j * 2 + 1, none⟩) (hfr6.block eb HEL.out (by have := HEB.out; omega))).trans HC1.out
                        obtain ⟨z, hz⟩ : ∃ z, A[i]? = some z := ⟨_, List.getElem?_eq_getElem (by have := HA.out; omega)⟩
                        have hmz := mixY_at (y := y) hAN hz
                        have HST := hid (mixY_step (y := y) hAN hz hx'.out)
                        have hml : (mixY xs y A i).length = n := by rw [mixY_len hAN i (by have := HN.out; omega)]; exact HN.out
                        obtain ⟨d6, f6⟩ := hcel.out _ _ i z hrow6 hml hmz
                        have HML := hid hml
                        clear k6 hmz hz hAN hml hb6
                        cases z
                        · by_cases hpy : pr' = y
                          · have he1 : (pr' == y) = true := by simp [hpy]
                            have he2 : decide (pr' = y) = true := by simp [hpy]
                            have HS2 := hid (show (mixY xs y A i).set i true = mixY xs y A (i + 1) by have := HST.out; rw [he2] at this; exact this)
                            clear hpy HST
                            go_wp2
                            refine wp_region_early (n := 20) _ rfl rfl (by kernel_rfl) (by kernel_rfl) (fun _ _ _ _ h => h) ?_
                            simp only [List.take_succ_cons, List.take_zero, List.drop_succ_cons, List.drop_zero, Act.put, Act.eval, List.setIfInBounds_toArray, List.set_cons_succ, List.set_cons_zero]
                            repeat (go_big_quiet_step (fail))
                            refine wpQuiet_nil ?_
                            intro q6
                            go_wp2
                            go_roundw
                            case rel => exact ⟨i + 1, by omega, by go_num, by rw [← HS2.out]; exact hsto.out _ _ i true (hrow6.drewN q6) HML.out, (hfr6.draw q6).then' (Frm.set (S := fun k => k = W2.heap.size) rfl _)⟩
                            case measure => simp [intOf]; omega
                          · have he1 : (pr' == y) = false := by simp [hpy]
                            have he2 : decide (pr' = y) = false := by simp [hpy]
                            have HS2 := hid (show (mixY xs y A i).set i false = mixY xs y A (i + 1) by have := HST.out; rw [he2] at this; exact this)
                            clear hpy HST
                            go_wp2
                            refine wp_region_early (n := 20) _ rfl rfl (by kernel_rfl) (by kernel_rfl) (fun _ _ _ _ h => h) ?_
                            simp only [List.take_succ_cons, List.take_zero, List.drop_succ_cons, List.drop_zero, Act.put, Act.eval, List.setIfInBounds_toArray, List.set_cons_succ, List.set_cons_zero]
                            repeat (go_big_quiet_step (fail))
                            refine wpQuiet_nil ?_
                            intro q6
                            go_wp2
                            go_roundw
                            case rel => exact ⟨i + 1, by omega, by go_num, by rw [← HS2.out]; exact hsto.out _ _ i false (hrow6.drewN q6) HML.out, (hfr6.draw q6).then' (Frm.set (S := fun k => k = W2.heap.size) rfl _)⟩
                            case measure => simp [intOf]; omega
                        · have HS2 := hid (show (mixY xs y A i).set i true = mixY xs y A (i + 1) from HST.out)
                          clear HST
                          go_wp2
                          refine wp_region_early (n := 20) _ rfl rfl (by kernel_rfl) (by kernel_rfl) (fun _ _ _ _ h => h) ?_
                          simp only [List.take_succ_cons, List.take_zero, List.drop_succ_cons, List.drop_zero, Act.put, Act.eval, List.setIfInBounds_toArray, List.set_cons_succ, List.set_cons_zero]
                          repeat (go_big_quiet_step (fail))
                          refine wpQuiet_nil ?_
                          intro q6
                          go_wp2
                          go_roundw
                          case rel => exact ⟨i + 1, by omega, by go_num, by rw [← HS2.out]; exact hsto.out _ _ i true (hrow6.drewN q6) HML.out, (hfr6.draw q6).then' (Frm.set (S := fun k => k = W2.heap.size) rfl _)⟩
                          case measure => simp [intOf]; omega
                      · have HMA := hid (mixY_all (y := y) hAN HN.out (show n ≤ i by omega))
                        have HRL := hid (show RInv xs rts (markY xs y A) ∧ Up A1 (markY xs y A) ∧ ∀ y' ∈ (es.map (·.print)).take (j + 1), hasP xs y' = true → OnA (markY xs y A) xs y' from
                          ⟨markY_inv hin5.out.1 (fun hp => rch_step (List.mem_of_getElem? hx.out) (hin5.out.1.snd k _ (hin5.out.2.1.2 k HZ.out) hx.out) (by rw [HXP.out]; exact List.mem_of_getElem? (show (es.map (·.print))[j]? = some y by rw [List.getElem?_map, hex.out]; rfl)) hp),
                           hin5.out.2.1.trans (markY_up hAN), fun y' hy' hp' => by
                            rw [HY.out] at hy'
                            rcases List.mem_append.1 hy' with h1 | h1
                            · exact (markY_up hAN).on (hin5.out.2.2 y' h1 hp')
                            · obtain rfl : y' = y := by simpa using h1
                              exact markY_on hAN HK.out hp'⟩)
                        have hlen7 : (markY xs y A).length = n := by rw [markY_len hAN]; exact HN.out
                        have HL7 := hid hlen7
                        clear hlen7
                        go_wp2
                        go_roundw
                        case rel => exact ⟨j + 1, markY xs y A, by omega, by go_num, by rw [← HMA.out]; exact hrow6, HL7.out, HRL, hfr5.then' hfr6⟩
                        case measure => simp [intOf]; omega
                  · have HRL := hid (show RInv xs rts A ∧ Up A0 A ∧ ∀ (i : Nat) (x : Pc), i < k + 1 → A0[i]? = some true → xs[i]? = some x → ∀ y ∈ prs x, hasP xs y = true → OnA A xs y from ⟨hin5.out.1, hin.out.2.1.trans hin5.out.2.1, fun i x hi h0 hxi y hy hp => by
                      by_cases e : i = k
                      · subst e
                        rw [hx.out] at hxi
                        obtain rfl := Option.some.inj hxi
                        rw [HXP.out] at hy
                        exact hin5.out.2.2 y (by rw [List.take_of_length_le (by rw [List.length_map, HM.out]; omega)]; exact hy) hp
                      · exact hin5.out.2.1.on (hin.out.2.2 i x (by omega) h0 hxi y hy hp)⟩)
                    go_wp2
                    go_roundw
                    case rel => exact ⟨k + 1, A, by omega, by go_num, hrow5, hA, HRL, hfr4.then' hfr5⟩
                    case measure => simp [intOf]; omega
            · have HRL := hid (show RInv xs rts A1 ∧ (Cpl xs rts A1 ∨ r + 1 ≤ A1.count true + 1) from ⟨hin.out.1, by
                have := round_gain (r := r - 1) HK.out HI1.out.1 hin.out.1 hin.out.2.1 (fun i x h0 hxi => hin.out.2.2 i x (by have := (List.getElem?_eq_some_iff.1 hxi).1; have := HN.out; omega) h0 hxi) (HI1.out.2.imp id (fun h => by omega))
                exact this.imp id (fun h => by omega)⟩)
              go_wp2
              go_roundw
              case rel => exact ⟨r + 1, A1, by omega, by go_num, hrow2, hA1, hid (fun _ => HRL.out), hfr2⟩
              case measure => simp [intOf]; omega
      · have HRB := hid (show A0 = reachB xs rts from round_end HK.out (hinv.out (by omega)).1 ((hinv.out (by omega)).2.imp id (fun h => by have := HN.out; omega)))
        have hb4 := hbel.out _ hfr
        have hout4 := HOUT.out.frm hfr (fun g hg e => by have := LT2.out; simp only [Value.ownBlock, Option.some.injEq] at hg; omega)
        have HA0 := hid hA0
        have hsz4 := hid (hrow.lt _ rfl).2
        clear hinv hfr hA0
        go_wp2
        go_loopw [5, 13] (fun out iv wr2 => ∃ (k : Nat) (acc : List Int), k ≤ n ∧ iv = .int .i64 k ∧ OwnI wr2 w.heap.size out acc ∧ Hid (acc = ((xs.take k).filter fun p => inR xs rts p.print).map (·.print)) ∧ acc.length ≤ k ∧ OwnB wr2 W2.heap.size (.slice (some ⟨W2.heap.size, 0, none⟩) n n) A0 ∧ Hid (∀ g, out.ownBlock = some g → g ≠ W2.heap.size) ∧ W2.heap.size < wr2.heap.size ∧ Below w.heap.size w wr2) (fun _ iv _ => n - (intOf iv).toNat)
        case atStart => exact ⟨0, [], Nat.zero_le _, rfl, hout4, rfl, Nat.zero_le _, hrow, hid (fun g hg => by have := LT2.out; simp only [Value.ownBlock, Option.some.injEq] at hg; omega), hsz4.out, hb4⟩
        case round =>
          obtain ⟨k, acc, hk, rfl, hown, hacc, hlen, hrow2, hne2, hsz2, hb⟩ := hrel
          clear hrow hout4 hb4
          by_cases hkn : k < n
          · obtain ⟨b, o, pr, t, rfl, hbl, hx, k0, _⟩ := H3.out k hkn
            have j0 := (hb.cell (p := ⟨b, o + k * 2, none⟩) hbl).trans k0
            have HF := hid (reach_succ (f := fun p => inR xs rts p.print) hx.out)
            have hAk : A0[k]? = some (inR xs rts pr) := by rw [HRB.out]; unfold reachB; rw [List.getElem?_map, hx.out]; rfl
            obtain ⟨d1, _⟩ := hcel.out _ A0 k _ hrow2 HA0.out hAk
            have hB := hb.size
            clear k0 hAk
            obtain ⟨z, hz⟩ : ∃ z, inR xs rts pr = z := ⟨_, rfl⟩
            rw [hz] at d1
            have HZ := hid hz
            clear hz
            cases z
            · have HS := hid (show ((xs.take (k + 1)).filter fun p => inR xs rts p.print).map (·.print) = acc by rw [HF.out, ← hacc.out]; simp only [HZ.out]; simp)
              go_wp2
              go_roundw
              case rel => exact ⟨k + 1, acc, by omega, by go_num, hown, hid HS.out.symm, by omega, hrow2, hne2, hsz2, hb⟩
              case measure => simp [intOf]; omega
            · have HS := hid (show ((xs.take (k + 1)).filter fun p => inR xs rts p.print).map (·.print) = acc ++ [pr] by rw [HF.out, ← hacc.out]; simp only [HZ.out]; simp)
              go_wp2_with (at_builtin; refine push_int (w0 := w) rfl _ _ rfl w.heap.size w.heap.size _ acc pr hown hb hB (Nat.le_refl _) rfl rfl (by omega) ?_; intro v' w' hown' hb' hB' hg')
              go_roundw
              case rel => exact ⟨k + 1, _, by omega, by go_num, hown', hid HS.out.symm, by simp; omega, hrow2.kept hg'.1 (.inr (fun e => hne2.out _ e.symm rfl)), hid (fun g hg => by
                rcases hg'.2 g hg with h6 | h6
                · exact hne2.out g h6
                · omega), Nat.lt_of_lt_of_le hsz2 hg'.1.size, hb'⟩
              case measure => simp [intOf]; omega
          · have HA := hid (show acc = reachOf xs rts by rw [HO.out, hacc.out, take_all HN.out (show n ≤ k by omega)])
            go_wp2
            go_ret
            exact ⟨_, rfl, by rw [← HA.out]; exact hown, hb⟩

end Go.Proofs.YtfdhaigmekmboaaDoor

/- Walks: copies of rows of pieces; a text that is put. -/
namespace Go.Proofs.YtfdhaigmekmboaaDoor
open Go.RowKit

theorem str_ne {u t : ByteArray} (h : u ≠ t) : (u.toList == t.toList) = false := by
  rw [beq_eq_false_iff_ne]
  intro e
  rw [ByteArray.toList_eq, ByteArray.toList_eq] at e
  exact h (Go.WideShapes.bytes_inj e)



end Go.Proofs.YtfdhaigmekmboaaDoor

/- Walks: texts that are taken. -/
namespace Go.Proofs.YtfdhaigmekmboaaDoor
open Go.RowKit

theorem take_bad {ps : List Int} {l : List Pc} {b : Nat} {t : ByteArray} (h : storeOk l = true) (ht : textOk (bs t) = false) : takeStep ps (l, b) t = (l, b + 1) := by unfold takeStep; simp only; rw [put_bad h ht]; rfl
theorem take_unasked {ps : List Int} {l : List Pc} {b : Nat} {t : ByteArray} (hh : hasI ps (printOf (bs t)) = false) : takeStep ps (l, b) t = (l, b + 1) := by
  unfold takeStep
  simp only
  cases hp : (putS l t).2.2
  · rfl
  · rw [(put_print hp).2, hh]; rfl
theorem take_no {ps : List Int} {l : List Pc} {b : Nat} {t : ByteArray} (h : (putS l t).2.2 = false) : takeStep ps (l, b) t = (l, b + 1) := by unfold takeStep; simp only; rw [h]; rfl
theorem take_yes {ps : List Int} {l : List Pc} {b : Nat} {t : ByteArray} (h : (putS l t).2.2 = true) (hh : hasI ps (putS l t).2.1 = true) : takeStep ps (l, b) t = ((putS l t).1, b) := by unfold takeStep; simp only; rw [h, hh]; rfl
theorem take_out {ps : List Int} {l : List Pc} {b : Nat} {t : ByteArray} (hh : hasI ps (putS l t).2.1 = false) : takeStep ps (l, b) t = (l, b + 1) := by unfold takeStep; simp only; rw [hh, Bool.and_false]; rfl
theorem st_small {l : List Pc} (h : storeOk l = true) : (∀ x ∈ l, x.text.size ≤ 1048576) ∧ l.length ≤ 1048576 := ⟨fun x hx => by have := st_text h hx; omega, by have := (st_in h).1; omega⟩



end Go.Proofs.YtfdhaigmekmboaaDoor

/- Walks: stores that are synced. -/
namespace Go.Proofs.YtfdhaigmekmboaaDoor
open Go.RowKit

theorem Own.oneI (w : World) (x : Int) : OwnI (w.alloc (.cells #[.int .i64 x] 3)) w.heap.size (.slice (some ⟨w.heap.size, 0, none⟩) 1 1) [x] :=
  ⟨rfl, .inr ⟨w.heap.size, 1, #[.int .i64 x], rfl, Nat.le_refl _, heap_alloc_new _ _, Nat.le_refl 1, by decide, rfl, rfl⟩⟩
theorem sendFrom_small {l : List Pc} (hs : storeOk l = true) : ∀ (ns : List Int) (out : List ByteArray), (∀ t ∈ out, t.size ≤ 60) → ∀ t ∈ ns.foldl (sendStep l) out, t.size ≤ 60
  | [], out, h => h
  | n :: r, out, h => by
    rw [List.foldl_cons]
    refine sendFrom_small hs r _ ?_
    unfold sendStep
    split
    · rename_i t ht
      intro x hx
      rcases List.mem_append.1 hx with h1 | h1
      · exact h x h1
      · obtain rfl : x = t := by simpa using h1
        exact (getP_text hs ht).2.2
    · exact h
theorem sendTexts_small {l : List Pc} {ns : List Int} : ∀ t ∈ sendTexts l ns, t.size ≤ 60 := by
  unfold sendTexts
  split
  · rename_i hs
    exact sendFrom_small hs ns [] (by simp)
  · simp
theorem sendTexts_len {l : List Pc} {ns : List Int} : (sendTexts l ns).length ≤ ns.length := by
  unfold sendTexts
  split
  · have := sendFrom_len l ns []
    simpa [sendFrom] using this
  · simp
theorem wantedOf_len {l : List Pc} {ns : List Int} : (wantedOf l ns).length ≤ ns.length := by
  unfold wantedOf
  split
  · have := wantFrom_len l ns []
    simpa [wantFrom] using this
  · simp
noncomputable def syncOf (xs ys : List Pc) (root : Int) : List Pc × Int :=
  if storeOk xs = true ∧ storeOk ys = true then ((takeTexts xs (wantedOf xs (reachOf ys [root])) (sendTexts ys (wantedOf xs (reachOf ys [root])))).1, ((sendTexts ys (wantedOf xs (reachOf ys [root]))).length : Int)) else ([], -1)
theorem syncOf_off {xs ys : List Pc} {root : Int} (h : ¬ (storeOk xs = true ∧ storeOk ys = true)) : syncOf xs ys root = ([], -1) := by unfold syncOf; rw [if_neg h]

set_option maxHeartbeats 2000000 in
set_option maxRecDepth 100000 in
theorem impl_ReachOf_c (v u : Value) (xs : List Pc) (rts : List Int) (w : World) (h : Pcs w w.heap.size v xs) (h' : Ints w w.heap.size u rts) (hl : rts.length ≤ 1048576) (hg : Glob w) :
    Calls Tryd.prog 26 #[v, u] w fun e w' => ∃ v', e = .returned v' ∧ OwnI w' w.heap.size v' (reachOf xs rts) ∧ Below w.heap.size w w' := by
  obtain ⟨n, hn⟩ : ∃ n, xs.length = n := ⟨_, rfl⟩
  obtain ⟨a, c, rfl, _, _, h3⟩ := h.pcs hn
  have H3 := hid h3
  have HN := hid hn
  have HP : Hid (∀ wx, Below w.heap.size w wx → Pcs wx wx.heap.size (.slice a n c) xs) := fun wx hx' => h.on hx'
  have HI : Hid (∀ wx, Below w.heap.size w wx → Ints wx wx.heap.size u rts) := fun wx hx' => h'.on hx'
  have HL := hid hl
  have HG := hid hg
  clear hn h3 hl hg h'
  cases hok : storeOk xs
  · have HO := hid (reachOf_off (roots := rts) hok)
    go_enter Tryd.func26, Tryd.ntmps26
    go_wp2_with fail
    refine (impl_StoreValid_c _ xs _ h).mono ?_
    rw [hok]
    rintro e w1 ⟨rfl, b1⟩
    go_wp2
    go_ret
    exact ⟨_, rfl, by rw [HO.out]; exact Own.nil_, b1⟩
  · have HO := hid (reachOf_on (roots := rts) hok)
    have HK := hid hok
    have hn40 : n ≤ 40 := by have := (st_in hok).1; have := HN.out; omega
    go_enter Tryd.func26, Tryd.ntmps26
    go_wp2_with fail
    refine (impl_StoreValid_c _ xs _ h).mono ?_
    rw [hok]
    rintro e w0 ⟨rfl, b0⟩
    clear hok h
    go_wp2_with fail
    refine (impl_reachedPieces_c _ _ xs rts _ (HP.out _ b0) (HI.out _ b0) HK.out HL.out (HG.out.on b0)).mono ?_
    rintro e w1 ⟨rv, rfl, o1, b1'⟩
    have b1 := bl_then b0 b1'
    have hs1 := b1.size
    obtain ⟨a', c', rfl, _, _, h4⟩ := Rd.openN (Rd.of_own o1) (fun _ => rfl) (show (reachB xs rts).length = n by rw [reachB_len]; exact HN.out)
    have H4 := hid h4
    clear o1 b1' b0 h4
    go_wp2
    go_loopw [6, 17] (fun out iv wr => ∃ (k : Nat) (acc : List Int), k ≤ n ∧ iv = .int .i64 k ∧ OwnI wr w1.heap.size out acc ∧ Hid (acc = ((xs.take k).filter fun p => inR xs rts p.print).map (·.print)) ∧ acc.length ≤ k ∧ Below w1.heap.size w1 wr) (fun _ iv _ => n - (intOf iv).toNat)
    case atStart => exact ⟨0, [], Nat.zero_le _, rfl, Own.nil_, rfl, Nat.zero_le _, Below.refl _ _⟩
    case round =>
      obtain ⟨k, acc, hk, rfl, hown, hacc, hlen, hb⟩ := hrel
      have c1 := bl_then b1 hb
      by_cases hkn : k < n
      · obtain ⟨b, o, pr, t, rfl, hbl, hx, k0, k1⟩ := H3.out k hkn
        have j0 := (c1.cell (p := ⟨b, o + k * 2, none⟩) hbl).trans k0
        have j1 := (c1.cell (p := ⟨b, o + k * 2 + 1, none⟩) hbl).trans k1
        obtain ⟨b', o', z, rfl, hbl', hz, hc'⟩ := H4.out k hkn
        have k2 : w1.cell? ⟨b', o' + k, none⟩ = some (.bool z) := by simpa using hc' 0 _ rfl
        have hzv : z = inR xs rts pr := by
          have := hz.out
          unfold reachB at this
          rw [List.getElem?_map, hx.out] at this
          simpa using this.symm
        have hal : Below w1.heap.size w1 (wr.alloc (.cells #[.int .i64 pr, .string t] 34)) := hb.alloc hb.size _
        have j2 : (wr.alloc (.cells #[.int .i64 pr, .string t] 34)).cell? ⟨b', o' + k, none⟩ = some (.bool z) := (hal.cell (p := ⟨b', o' + k, none⟩) hbl').trans k2
        have hown2 := hown.alloc (.cells #[.int .i64 pr, .string t] 34)
        have hB2 := hal.size
        have HF := hid (reach_succ (f := fun p => inR xs rts p.print) hx.out)
        have HZ := hid hzv
        clear k0 k1 k2 hc' hzv hb hown
        cases z
        · have HS := hid (show ((xs.take (k + 1)).filter fun p => inR xs rts p.print).map (·.print) = acc by rw [HF.out, ← hacc.out]; simp only [← HZ.out]; simp)
          go_wp2
          go_roundw
          case rel => exact ⟨k + 1, acc, by omega, by go_num, hown2, hid HS.out.symm, by omega, hal⟩
          case measure => simp [intOf]; omega
        · have HS := hid (show ((xs.take (k + 1)).filter fun p => inR xs rts p.print).map (·.print) = acc ++ [pr] by rw [HF.out, ← hacc.out]; simp only [← HZ.out]; simp)
          go_wp2_with (at_builtin; refine push_int (w0 := w1) rfl _ _ rfl _ _ _ _ _ hown2 hal hB2 (Nat.le_refl _) rfl (by simp [Act.eval]) (by omega) ?_; intro v' w' hown' hb' hB' _)
          go_roundw
          case rel => exact ⟨k + 1, _, by omega, by go_num, hown', hid HS.out.symm, by simp; omega, hb'⟩
          case measure => simp [intOf]; omega
      · have HA := hid (show acc = reachOf xs rts by rw [HO.out, hacc.out, take_all HN.out (show n ≤ k by omega)])
        go_wp2
        go_ret
        exact ⟨_, rfl, by rw [← HA.out]; exact hown.less hs1, c1⟩

theorem impl_ReachOf_e (v u : Value) (xs : List Pc) (rts R : List Int) (hR : reachOf xs rts = R) (w : World) (h : Pcs w w.heap.size v xs) (h' : Ints w w.heap.size u rts) (hl : rts.length ≤ 1048576) (hg : Glob w) :
    Calls Tryd.prog 26 #[v, u] w fun e w' => ∃ v', e = .returned v' ∧ OwnI w' w.heap.size v' R ∧ Below w.heap.size w w' := hR ▸ impl_ReachOf_c v u xs rts w h h' hl hg

theorem spec_ReachOf_e (v u : Value) (xs : List Pc) (rts R : List Int) (hR : reachOf xs rts = R) (w : World) (h : Pcs w w.heap.size v xs) (h' : Ints w w.heap.size u rts) (hx0 : ∀ x ∈ xs, x.text.size ≤ 1048576) (hl0 : xs.length ≤ 1048576) :
    Calls Tryd.prog 45 #[v, u] w fun e w' => ∃ v', e = .returned v' ∧ OwnI w' w.heap.size v' R ∧ Below w.heap.size w w' := hR ▸ spec_ReachOf_c v u xs rts w h h' hx0 hl0



end Go.Proofs.YtfdhaigmekmboaaDoor

/- Walks: the laws' comparing of equal rows; the text with a print. -/
namespace Go.Proofs.YtfdhaigmekmboaaDoor
open Go.RowKit

set_option maxHeartbeats 400000 in
theorem laws_sameInts_s (v u : Value) (xs : List Int) (B B' : Nat) (w : World) (h : Ints w B v xs) (h' : Ints w B' u xs) :
    Calls Tryd.prog 9 #[v, u] w fun e w' => e = .returned (.bool true) ∧ ∃ m, w' = w.drewN m := by
  obtain ⟨n, hn⟩ : ∃ n, xs.length = n := ⟨_, rfl⟩
  obtain ⟨a, c, rfl, h1, h2, h3⟩ := h.ints hn
  obtain ⟨a', c', rfl, h1', h2', h3'⟩ := h'.ints hn
  clear hn h h'
  go_enter Tryd.func9, Tryd.ntmps9
  go_wp2
  go_loopw [5] (fun i wr => ∃ k m : Nat, k ≤ n ∧ i = .int .i64 k ∧ wr = w.drewN m) (fun i _ => n - (intOf i).toNat)
  case atStart => exact ⟨0, 0, Nat.zero_le _, rfl, rfl⟩
  case round =>
    obtain ⟨k, m, hk, rfl, rfl⟩ := hrel
    by_cases hlt : k < n
    · obtain ⟨b, o, x, rfl, hbl, hx, k0⟩ := h3 k hlt
      obtain ⟨b', o', x', rfl, hbl', hx', k0'⟩ := h3' k hlt
      obtain rfl : x = x' := Option.some.inj (hx.out.symm.trans hx'.out)
      have hkn : (k : Int) < n := by omega
      clear h3 h3'
      go_wp2
      go_quiet (fail)
      go_wp2
      go_roundw
      case rel => exact ⟨k + 1, _, by omega, by go_num, rfl⟩
      case measure => simp [intOf]; omega
    · clear h3 h3'
      go_wp2
      go_ret
      exact ⟨rfl, _, rfl⟩




/-- The text with a print in a store that is valid. -/
def getText (l : List Pc) (n : Int) : ByteArray × Bool := if storeOk l then ((getP l n).getD ByteArray.empty, hasP l n) else (ByteArray.empty, false)
theorem getText_on {l : List Pc} (h : storeOk l = true) (n : Int) : getText l n = ((getP l n).getD ByteArray.empty, hasP l n) := by unfold getText; rw [h]; rfl
theorem getText_off {l : List Pc} (h : storeOk l = false) (n : Int) : getText l n = (ByteArray.empty, false) := by unfold getText; rw [h]; rfl

set_option maxHeartbeats 400000 in
theorem impl_GetText_c (v : Value) (xs : List Pc) (y : Int) (w : World) (h : Pcs w w.heap.size v xs) :
    Calls Tryd.prog 18 #[v, .int .i64 y] w fun e w' => e = .returned (.tuple #[.string (getText xs y).1, .bool (getText xs y).2]) ∧ Below w.heap.size w w' := by
  have HH := hid h
  clear h
  cases hok : storeOk xs
  · have HO := hid (getText_off hok y)
    have HK := hid hok
    clear hok
    rw [HO.out]
    go_enter Tryd.func18, Tryd.ntmps18
    go_wp2_with fail
    refine (impl_StoreValid_c _ xs _ HH.out).mono ?_
    rw [HK.out]
    rintro e w1 ⟨rfl, b1⟩
    go_wp2
    go_ret2
    exact ⟨rfl, b1⟩
  · have HO := hid (getText_on hok y)
    have HK := hid hok
    clear hok
    rw [HO.out]
    go_enter Tryd.func18, Tryd.ntmps18
    go_wp2_with fail
    refine (impl_StoreValid_c _ xs _ HH.out).mono ?_
    rw [HK.out]
    rintro e w1 ⟨rfl, b1⟩
    go_wp2_with fail
    refine (impl_textOf_c _ xs y _ (HH.out.on b1) HK.out).mono ?_
    rintro e w2 ⟨rfl, b2⟩
    have d2 := bl_then b1 b2
    clear b1 b2
    go_wp2
    go_ret2
    exact ⟨rfl, d2⟩

end Go.Proofs.YtfdhaigmekmboaaDoor
