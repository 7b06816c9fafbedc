/- Walks and plain facts, joined: Has', InvF', PrintP', Mark', PcP', Print', InvR', PutP', FoldP', Pcs', ExS'. -/
import Derived.Test.YtachfmlfmpaddaaGreatDoorMg2
import Derived.Test.YtachfmlfmpaddaaGreatDoorMg3
import Derived.Test.YtachfmlfmpaddaaGreatDoorMg4
import Derived.Test.YtachfmlfmpaddaaGreatDoorMg5
import Derived.Test.YtachfmlfmpaddaaGreatDoorMg6
import Derived.Test.YtachfmlfmpaddaaGreatDoorMg7
import Derived.Test.YtachfmlfmpaddaaGreatDoorMg8
set_option linter.unusedVariables false
set_option linter.unusedSimpArgs false

/- Walks: whether a list has a number. -/
namespace Go.Proofs.YtachfmlfmpaddaaGreatDoor
open Go.RowKit

set_option maxHeartbeats 400000 in
theorem slices_Index_c (v : Value) (xs : List Int) (y : Int) (B : Nat) (w : World) (h : Ints w B v xs) :
    Calls Tryz.prog 143 #[v, .int .i64 y] w fun e w' => (∃ i : Int, e = .returned (.int .i64 i) ∧ decide (0 ≤ i) = hasI xs y) ∧ w = w' := by
  obtain ⟨n, hn⟩ : ∃ n, xs.length = n := ⟨_, rfl⟩
  obtain ⟨a, c, rfl, h1, h2, h3⟩ := h.ints hn
  have HN := hid hn
  clear hn h
  go_enter Tryz.func143, Tryz.ntmps143
  go_wp2
  go_loop [8] (fun i => ∃ k : Nat, k ≤ n ∧ i = .int .i64 k ∧ Hid (hasI (xs.take k) y = false)) (fun i => n - (intOf i).toNat)
  case atStart => exact ⟨0, Nat.zero_le _, rfl, rfl⟩
  case round =>
    obtain ⟨k, hk, rfl, hall⟩ := hrel
    by_cases hlt : k < n
    · obtain ⟨b, o, x, rfl, hb, hx, hc⟩ := h3 k hlt
      clear h3
      by_cases hxy : x = y
      · subst hxy
        go_wp2
        go_ret
        exact ⟨⟨k, rfl, by rw [hasI_get hx.out]; simp⟩, rfl⟩
      · have hb2 : (y == x) = false := by simp; omega
        have HX := hid hxy
        clear hxy
        go_wp2
        go_round
        case rel => exact ⟨k + 1, by omega, by go_num, hasI_succ hx.out HX.out hall.out⟩
        case measure => simp [intOf]; omega
    · have HH := hid (show hasI xs y = false by rw [← take_all HN.out (show n ≤ k by omega)]; exact hall.out)
      go_wp2
      go_ret
      exact ⟨⟨-1, rfl, by rw [HH.out]; simp⟩, rfl⟩

set_option maxHeartbeats 400000 in
theorem slices_Contains_c (v : Value) (xs : List Int) (y : Int) (B : Nat) (w : World) (h : Ints w B v xs) :
    Calls Tryz.prog 90 #[v, .int .i64 y] w fun e w' => e = .returned (.bool (hasI xs y)) ∧ w = w' := by
  obtain ⟨n, hn⟩ : ∃ n, xs.length = n := ⟨_, rfl⟩
  obtain ⟨a, c, rfl, h1, h2, h3⟩ := h.ints hn
  clear h3
  go_enter Tryz.func90, Tryz.ntmps90
  go_wp2_with fail
  refine (slices_Index_c _ xs y _ _ h).mono ?_
  rintro e w' ⟨⟨i, rfl, hi⟩, rfl⟩
  go_wp2
  go_ret
  exact ⟨rfl, rfl⟩

end Go.Proofs.YtachfmlfmpaddaaGreatDoor

/- A region that draws its order, held by an invariant that knows which operations are done. No program in sight. -/
namespace Go.Proofs.YtachfmlfmpaddaaGreatDoor
open Go.RowKit

section
variable {P : Program} {ops : Array Oper}
theorem wp_region_inv2f {id : Nat} {Q : Exit → Act → World → Prop} {a0 : Act} {w0 : World} (hm : P.follows .mixedOrders = true) (hp : plainG ops = true) (hgB : guardB ops = true) (hback : backB ops = true) (hptr : ptrB ops = true)
    (hdst : (ops.all fun o => match o.dst with | some t => decide (t < a0.tmps.size) | none => true) = true)
    (J : (Nat → Bool) → Nat → World → Prop) (S : Nat → World → World → Prop) (F : Nat → Value → World → Prop) (cons : Nat → Nat → Bool) (hJ : J (fun _ => false) 0 w0.drew) (hF : ∀ j i v w w', S j w w' → cons j i = false → i ≠ j → Region.waitsFor .any ops i j = false → (∀ oj, ops[j]? = some oj → ∀ e ∈ oj.after, Region.binds .any e = true → cons e.on i = false) → F i v w → F i v w')
    (hgrd : ∀ (i : Nat) (o : Oper) (d : Nat) (b : Bool), ops[i]? = some o → o.guard = some (d, b) → ∀ v w, F d v w → v = .bool b)
    (hop : ∀ (i : Nat) (o : Oper), ops[i]? = some o → ∀ (L : Nat → Bool) (n : Nat) (a : Act) (w : World), n < ops.size → L i = false → J L n w →
      (∀ t, freshT ops i t = true → a.tmps.getD t undef = a0.tmps.getD t undef) →
      (∀ e ∈ o.after, Region.binds .any e = true → (∀ j, j < ops.size → cons j e.on = true → j = i) → F e.on (slotOf2 ops e.on a) w) →
      o.wp P a w (fun a' w' => ∃ v, a' = a.put o.dst v ∧ J (fun k => if k = i then true else L k) (n + 1) w' ∧ S i w w' ∧ F i (if o.dst.isSome then v else slotOf2 ops i a) w') Q)
    (hcg : ∀ (i : Nat) (o : Oper) (d : Nat) (b : Bool), ops[i]? = some o → o.guard = some (d, b) → ∀ j, cons j d = false)
    (hend : ∀ (a : Act) (w : World), (∃ L : Nat → Bool, (∀ i, i < ops.size → L i = true) ∧ J L ops.size w) → a.tmps.size = a0.tmps.size → a.defers = a0.defers → (∀ t, looseB ops t = true → a.tmps.getD t undef = a0.tmps.getD t undef) → (∀ (i : Nat) (o : Oper), ops[i]? = some o → (∀ j, cons j i = false) → F i (slotOf2 ops i a) w) → Q .normal a w) :
    (Code.region id ops true).wp P Q a0 w0 := by
  refine wp_region_any hm ?_
  have hdst' : ∀ (i : Nat) (o : Oper) (t : Tmp), ops[i]? = some o → o.dst = some t → t < a0.tmps.size := by
    intro i o t hi ht
    have hlt := (Array.getElem?_eq_some_iff.1 hi)
    obtain ⟨hlt, he⟩ := hlt
    have h1 := Array.all_eq_true.1 hdst i hlt
    rw [he, ht] at h1
    exact of_decide_eq_true h1
  have hback' : ∀ (i : Nat) (o : Oper), ops[i]? = some o → ∀ e ∈ o.after, Region.binds .any e = true → e.on < i := by
    intro i o hi e he hbe
    have h1 := List.all_eq_true.1 hback i (List.mem_range.2 (Array.getElem?_eq_some_iff.1 hi).1)
    simp only [hi] at h1
    obtain ⟨k, hk, hke⟩ := Array.getElem_of_mem he
    have h2 := Array.all_eq_true.1 h1 k hk
    rw [hke, hbe] at h2
    exact of_decide_eq_true (by simpa using h2)
  suffices H : ∀ (f n : Nat) (listed : Array Bool) (a : Act) (w : World), listed.size = ops.size → listed.toList.count false = f → n + f = ops.size → J (fun k => listed.getD k false) n w → a.tmps.size = a0.tmps.size → a.defers = a0.defers →
      (∀ j o, ops[j]? = some o → listed.getD j false = true → ∀ e ∈ o.after, Region.binds .any e = true → listed.getD e.on false = true) →
      (∀ t, (∀ (i : Nat) (o : Oper), ops[i]? = some o → listed.getD i false = true → o.dst ≠ some t) → a.tmps.getD t undef = a0.tmps.getD t undef) →
      (∀ (i : Nat) (o : Oper), ops[i]? = some o → listed.getD i false = true → (∀ j, listed.getD j false = true → cons j i = false) → F i (slotOf2 ops i a) w) → wpAny P .any ops Q f listed a w by
    have hJ' : J (fun k => (Array.replicate ops.size false).getD k false) 0 w0.drew := by
      have e : (fun k => (Array.replicate ops.size false).getD k false) = fun _ => false := funext fun k => getD_replicate_false _ _
      rw [e]; exact hJ
    refine H _ 0 _ _ _ (by simp) (by simp) (by simp) hJ' rfl rfl ?_ ?_ ?_
    · intro j o _ h; rw [getD_replicate_false] at h; cases h
    · intro t _; rfl
    · intro i o _ h; rw [getD_replicate_false] at h; cases h
  intro f
  induction f with
  | zero =>
    intro n listed a w hs hc hnf hj hsz hdf _ hsame hhold
    obtain rfl : n = ops.size := by omega
    have hall : ∀ i, i < ops.size → listed.getD i false = true := by
      intro i hi
      have hnot : false ∉ listed.toList := List.count_eq_zero.1 hc
      rw [Array.getD_eq_getD_getElem?, Array.getElem?_eq_getElem (by omega)]
      simp only [Option.getD_some]
      cases hv : listed[i]'(by omega) with
      | true => rfl
      | false => exact absurd (by rw [← hv]; simp) hnot
    refine ⟨?_, hend a w ⟨_, hall, hj⟩ hsz hdf (fun t ht => hsame t fun i o hi _ => ?_) (fun i o hi hcn => hhold i o hi (hall i (Array.getElem?_eq_some_iff.1 hi).1) (fun j _ => hcn j))⟩
    · rw [List.eq_nil_iff_forall_not_mem]
      intro i hi
      obtain ⟨h1, o, ho, _⟩ := mem_ready.1 hi
      have h2 := hall i (Array.getElem?_eq_some_iff.1 ho).1
      rw [Array.getD_eq_getD_getElem?, Array.getElem?_eq_getElem (by have := (Array.getElem?_eq_some_iff.1 ho).1; omega)] at h1 h2
      simp only [Option.getD_some] at h1 h2
      rw [h1] at h2; cases h2
    · have hl := Array.all_eq_true.1 ht i (Array.getElem?_eq_some_iff.1 hi).1
      rw [(Array.getElem?_eq_some_iff.1 hi).2] at hl
      simpa using hl
  | succ f ih =>
    intro n listed a w hs hc hnf hj hsz hdf hcl hsame hhold
    refine ⟨fun h0 => ?_, fun i hi => ?_⟩
    · exfalso
      have hmem : false ∈ listed.toList := List.count_pos_iff.1 (by omega)
      have hex : ∃ i, i < ops.size ∧ listed.getD i true = false := by
        obtain ⟨k, hk, hke⟩ := List.getElem_of_mem hmem
        refine ⟨k, by simpa [hs] using hk, ?_⟩
        rw [Array.getD_eq_getD_getElem?, Array.getElem?_eq_getElem (by simpa using hk)]
        simpa using hke
      obtain ⟨i, ⟨hi, hf⟩, hmin⟩ := exists_least hex
      have hr : i ∈ Region.ready .any ops listed := mem_ready.2 ⟨hf, ops[i], Array.getElem?_eq_getElem hi, fun e he hbe => by
        have hlt := hback' i _ (Array.getElem?_eq_getElem hi) e he hbe
        have := hmin e.on hlt
        rw [Array.getD_eq_getD_getElem?, Array.getElem?_eq_getElem (by omega)] at this ⊢
        simp only [Option.getD_some] at this ⊢
        cases hv : listed[e.on]'(by omega) with
        | true => rfl
        | false => exact absurd ⟨by omega, hv⟩ this⟩
      rw [h0] at hr; cases hr
    · obtain ⟨hun, o, ho, hdeps⟩ := mem_ready.1 hi
      have hil : i < listed.size := by rw [hs]; exact (Array.getElem?_eq_some_iff.1 ho).1
      have hunf : listed.getD i false = false := by
        rw [Array.getD_eq_getD_getElem?, Array.getElem?_eq_getElem hil] at hun ⊢
        simpa using hun
      have hslot := plainG_spec hp ho
      have hwant : Region.wanted o (yielded ops a.tmps) = true := by
        unfold Region.wanted
        cases hgd : o.guard with
        | none => rfl
        | some db =>
          obtain ⟨d, b⟩ := db
          obtain ⟨e, he, hed, hbe, od, hod, t, ht⟩ := guardB_spec hgB ho hgd
          have hl := hdeps e he hbe
          rw [hed] at hl
          have hv := hgrd i o d b ho hgd _ _ (hhold d od hod hl (fun j _ => hcg i o d b ho hgd j))
          have hs2 : slotOf2 ops d a = a.tmps.getD t undef := by unfold slotOf2; rw [hod]; simp [refOf, ht]
          rw [hs2] at hv
          have hy : yielded ops a.tmps d = some b := by
            unfold yielded
            rw [hod]
            simp only [Option.bind_some, ht]
            rw [Array.getD_eq_getD_getElem?] at hv
            cases hx : a.tmps[t]? with
            | none => rw [hx] at hv; simp [undef] at hv
            | some x => rw [hx] at hv; simp at hv; rw [hv]
          simp [hy]
      unfold wpOp
      simp only [ho]
      rw [if_pos hwant]
      refine .inl (Oper.wp_mono ?_ (hop i o ho _ n a w (by omega) hunf hj (fun t ht => hsame t fun j o' hj' hl => ?_) (fun e he hbe hcn => ?_)))
      · rintro a' w' ⟨v, rfl, hj', hS, hF'⟩
        have hother : ∀ j o', ops[j]? = some o' → j ≠ i → listed.getD j false = true → slotOf2 ops j (a.put o.dst v) = slotOf2 ops j a := by
          intro j o' hj2 hne hl
          unfold slotOf2
          rw [hj2]
          simp only [Option.bind_some]
          cases ht : refOf o' with
          | none => simp
          | some t =>
            simp only
            cases hd : o.dst with
            | none => simp [Act.put]
            | some u =>
              rw [getD_put _ _ _ _ (by rw [hsz]; exact hdst' i o u ho hd), if_neg]
              rintro rfl
              cases hod : o'.dst with
              | some t' =>
                simp only [refOf, hod, Option.some.injEq] at ht
                subst ht
                exact hslot j o' _ hj2 hne hd hod
              | none =>
                simp only [refOf, hod] at ht
                rcases ptrB_spec hptr hj2 hod ht with hall | ⟨e, he, hbe, o2, ho2, hd2⟩
                · exact hall i o ho hd
                · have hle := hcl j o' hj2 hl e he hbe
                  have hei : e.on ≠ i := by rintro h; rw [h, hunf] at hle; cases hle
                  exact hslot e.on o2 _ ho2 hei hd hd2
        have hget : ∀ j, (listed.setIfInBounds i true).getD j false = true → j = i ∨ listed.getD j false = true := by
          intro j hjl
          by_cases hji : j = i
          · exact .inl hji
          · right
            rw [Array.getD_eq_getD_getElem?, Array.getElem?_setIfInBounds_ne (Ne.symm hji)] at hjl
            rw [Array.getD_eq_getD_getElem?]; exact hjl
        have hget' : ∀ j, listed.getD j false = true → (listed.setIfInBounds i true).getD j false = true := by
          intro j hjl
          by_cases hji : j = i
          · rw [hji] at hjl; rw [hunf] at hjl; cases hjl
          · rw [Array.getD_eq_getD_getElem?, Array.getElem?_setIfInBounds_ne (Ne.symm hji)]
            rw [Array.getD_eq_getD_getElem?] at hjl; exact hjl
        refine ih (n + 1) _ _ _ (by simpa using hs) (by have := count_step listed i hun; omega) (by omega) (by
          have e : (fun k => (listed.setIfInBounds i true).getD k false) = fun k => if k = i then true else listed.getD k false := funext fun k => by
            by_cases hki : k = i
            · rw [if_pos hki, hki, Array.getD_eq_getD_getElem?, Array.getElem?_setIfInBounds_self_of_lt hil]; rfl
            · rw [if_neg hki, Array.getD_eq_getD_getElem?, Array.getElem?_setIfInBounds_ne (Ne.symm hki), ← Array.getD_eq_getD_getElem?]
          rw [e]; exact hj') ?_ ?_ ?_ ?_ ?_
        · unfold Act.put; cases o.dst <;> simp [hsz]
        · unfold Act.put; cases o.dst <;> simp [hdf]
        · intro j oj hoj hl e he hbe
          rcases hget j hl with rfl | hl
          · obtain rfl : oj = o := Option.some.inj (hoj.symm.trans ho)
            exact hget' _ (hdeps e he hbe)
          · exact hget' _ (hcl j oj hoj hl e he hbe)
        · intro t ht
          have hne : o.dst ≠ some t := ht i o ho (by rw [Array.getD_eq_getD_getElem?, Array.getElem?_setIfInBounds_self_of_lt hil]; rfl)
          rw [← hsame t (fun j oj hoj hl => ht j oj hoj (hget' j hl))]
          cases hd : o.dst with
          | none => simp [Act.put]
          | some u =>
            rw [getD_put _ _ _ _ (by rw [hsz]; exact hdst' i o u ho hd), if_neg]
            rintro rfl
            exact hne hd
        · intro j oj hoj hl hcn
          by_cases hji : j = i
          · subst hji
            obtain rfl : oj = o := Option.some.inj (hoj.symm.trans ho)
            have : slotOf2 ops j (a.put oj.dst v) = if oj.dst.isSome then v else slotOf2 ops j a := by
              cases hd : oj.dst with
              | none => simp [Act.put]
              | some u =>
                unfold slotOf2
                rw [hoj]
                simp only [Option.bind_some, refOf, hd]
                rw [getD_put _ _ _ _ (by rw [hsz]; exact hdst' j oj u hoj hd)]
                simp
            rw [this]; exact hF'
          · rcases hget j hl with h | hl
            · exact absurd h hji
            · rw [hother j oj hoj hji hl]
              exact hF i j _ w w' hS (hcn i (by rw [Array.getD_eq_getD_getElem?, Array.getElem?_setIfInBounds_self_of_lt hil]; rfl)) hji (by
                cases hwt : Region.waitsFor .any ops j i
                · rfl
                · exfalso
                  obtain ⟨o2, ho2, x, hx, hxb, hon⟩ := Region.waitsFor_spec hwt
                  obtain rfl : o2 = oj := Option.some.inj (ho2.symm.trans hoj)
                  have := hcl j o2 hoj hl x hx hxb
                  rw [hon, hunf] at this; cases this) (fun oj' hoj' e he hbe => hcn e.on (hget' _ (by
                obtain rfl : oj' = o := Option.some.inj (hoj'.symm.trans ho)
                exact hdeps e he hbe))) (hhold j oj hoj hl (fun q hq => hcn q (hget' q hq)))
      · have h1 := List.all_eq_true.1 ht j (List.mem_range.2 (Array.getElem?_eq_some_iff.1 hj').1)
        simp only [hj', Bool.or_eq_true, bne_iff_ne, beq_iff_eq] at h1
        rcases h1 with (h1 | h1) | h1
        · exact h1
        · subst h1; rw [hunf] at hl; cases hl
        · have := reachT_closed hcl 6 j i h1 hl
          rw [hunf] at this; cases this
      · have hd := hdeps e he hbe
        have hlt := hback' i o ho e he hbe
        refine hhold e.on ops[e.on] (Array.getElem?_eq_getElem (by have := (Array.getElem?_eq_some_iff.1 ho).1; omega)) hd (fun q hq => ?_)
        have hqs : q < ops.size := by
          by_cases h : q < ops.size
          · exact h
          · rw [Array.getD_eq_getD_getElem?, Array.getElem?_eq_none (by omega)] at hq; simp at hq
        cases hc : cons q e.on
        · rfl
        · have hqi := hcn q hqs hc
          subst hqi
          rw [hunf] at hq; cases hq

theorem wp_region_inv3f {id : Nat} {Q : Exit → Act → World → Prop} {a0 : Act} {w0 : World} (hm : P.follows .mixedOrders = true) (hp : plainG ops = true) (hgB : guardB ops = true) (hback : backB ops = true) (hptr : ptrB ops = true)
    (hdst : (ops.all fun o => match o.dst with | some t => decide (t < a0.tmps.size) | none => true) = true)
    (J : (Nat → Bool) → Nat → World → Prop) (S : Nat → World → World → Prop) (F : Nat → Value → World → Prop) (cons : Nat → Nat → Bool) (hJ : J (fun _ => false) 0 w0.drew) (hF : ∀ j i v w w', S j w w' → cons j i = false → i ≠ j → Region.waitsFor .any ops i j = false → (∀ oj, ops[j]? = some oj → ∀ e ∈ oj.after, Region.binds .any e = true → cons e.on i = false) → F i v w → F i v w')
    (hgrd : ∀ (i : Nat) (o : Oper) (d : Nat) (b : Bool), ops[i]? = some o → o.guard = some (d, b) → ∀ v w, F d v w → v = .bool b)
    (hop : ∀ (i : Nat) (o : Oper), ops[i]? = some o → ∀ (L : Nat → Bool) (n : Nat) (a : Act) (w : World), n < ops.size → L i = false → J L n w →
      (∀ t, freshT ops i t = true → a.tmps.getD t undef = a0.tmps.getD t undef) →
      (∀ e ∈ o.after, Region.binds .any e = true → (∀ j, j < ops.size → cons j e.on = true → j = i) → F e.on (slotOf2 ops e.on a) w) →
      o.wp P a w (fun a' w' => ∃ v, a' = a.put o.dst v ∧ J (fun k => if k = i then true else L k) (n + 1) w' ∧ S i w w' ∧ F i (if o.dst.isSome then v else slotOf2 ops i a) w') Q)
    (hcg : ∀ (i : Nat) (o : Oper) (d : Nat) (b : Bool), ops[i]? = some o → o.guard = some (d, b) → ∀ j, cons j d = false)
    (hend : ∀ (tm : Array Value) (w : World), (∃ L : Nat → Bool, (∀ i, i < ops.size → L i = true) ∧ J L ops.size w) → (∀ (i : Nat) (o : Oper), ops[i]? = some o → (∀ j, cons j i = false) → F i (slotOf2 ops i ⟨tm, a0.defers⟩) w) → Q .normal ⟨refillL ops.toList a0.tmps tm, a0.defers⟩ w) :
    (Code.region id ops true).wp P Q a0 w0 := by
  refine wp_region_inv2f hm hp hgB hback hptr hdst J S F cons hJ hF hgrd hop hcg ?_
  rintro ⟨tm, df⟩ w hj hsz hdf hb hFF
  obtain rfl : df = a0.defers := hdf
  have e := refill_eq hsz hb
  have := hend tm w hj hFF
  rw [← e] at this
  exact this

end
end Go.Proofs.YtachfmlfmpaddaaGreatDoor

/- Plain facts on prints and seals. No program in sight. -/
namespace Go.Proofs.YtachfmlfmpaddaaGreatDoor
open Go.RowKit

def pair (a b : Int) : Int := if pv a && pv b then (a * 7919 + b * 104729 + 3) % 16777213 else -1
def plOk (l : List Int) : Bool := decide (l.length ≤ 20) && l.all pv
def plist (l : List Int) : Int := if plOk l then l.foldl pair 5 else -1

theorem pair_in {a b : Int} (h : pv a = true) (h' : pv b = true) : pv (pair a b) = true := by
  unfold pair
  rw [h, h']
  rw [if_pos (by rfl)]
  have h1 := Int.emod_nonneg (a * 7919 + b * 104729 + 3) (show (16777213 : Int) ≠ 0 by decide)
  have h2 := Int.emod_lt_of_pos (a * 7919 + b * 104729 + 3) (show (0 : Int) < 16777213 by decide)
  exact inB_iff.2 ⟨h1, by omega⟩
theorem pairs_in {l : List Int} : ∀ {n : Int}, pv n = true → l.all pv = true → pv (l.foldl pair n) = true := by
  induction l with
  | nil => intro n h _; exact h
  | cons x r ih =>
    intro n h h'
    rw [List.all_cons, Bool.and_eq_true] at h'
    exact ih (pair_in h h'.1) h'.2
/-- 16777213 has no part in common with the two factors. -/
theorem dvd_of_mul1 {x : Int} (h : (16777213 : Int) ∣ x * 104729) : (16777213 : Int) ∣ x := by
  have h2 : (16777213 : Int) ∣ x * 104729 * 243018 := Int.dvd_trans h (Int.dvd_mul_right _ _)
  obtain ⟨k, hk⟩ := h2
  exact ⟨k - 1517 * x, by omega⟩
theorem dvd_of_mul2 {x : Int} (h : (16777213 : Int) ∣ x * 7919) : (16777213 : Int) ∣ x := by
  have h2 : (16777213 : Int) ∣ x * 7919 * 7018930 := Int.dvd_trans h (Int.dvd_mul_right _ _)
  obtain ⟨k, hk⟩ := h2
  exact ⟨k - 3313 * x, by omega⟩
theorem pair_inj2 {a b c : Int} (ha : pv a = true) (hb : pv b = true) (hc : pv c = true) (h : pair a b = pair a c) : b = c := by
  unfold pair at h
  rw [ha, hb, hc] at h
  simp only [Bool.and_self, if_true] at h
  rw [pv_iff] at hb hc
  have h3 := Int.dvd_of_emod_eq_zero (Int.emod_eq_emod_iff_emod_sub_eq_zero.1 h)
  have e : a * 7919 + b * 104729 + 3 - (a * 7919 + c * 104729 + 3) = (b - c) * 104729 := by omega
  rw [e] at h3
  obtain ⟨k, hk⟩ := dvd_of_mul1 h3
  omega
theorem pair_val {a b : Int} (ha : pv a = true) (hb : pv b = true) : pair a b = (a * 7919 + b * 104729 + 3) % 16777213 := by
  unfold pair
  rw [ha, hb]
  rfl
theorem emod_dvd {x y : Int} (h : x % 16777213 = y % 16777213) : (16777213 : Int) ∣ x - y := Int.dvd_of_emod_eq_zero (Int.emod_eq_emod_iff_emod_sub_eq_zero.1 h)
theorem pair_inj1 {a b c : Int} (ha : pv a = true) (hb : pv b = true) (hc : pv c = true) (h : pair b a = pair c a) : b = c := by
  rw [pair_val hb ha, pair_val hc ha] at h
  have h3 := emod_dvd h
  rw [show b * 7919 + a * 104729 + 3 - (c * 7919 + a * 104729 + 3) = (b - c) * 7919 by omega] at h3
  obtain ⟨k, hk⟩ := dvd_of_mul2 h3
  have hb' := pv_iff.1 hb
  have hc' := pv_iff.1 hc
  clear h h3 ha hb hc
  omega
theorem plist_in {l : List Int} (h : plOk l = true) : pv (plist l) = true := by
  unfold plist
  rw [if_pos h]
  simp only [plOk, Bool.and_eq_true] at h
  exact pairs_in (by decide) h.2
theorem plist_off {l : List Int} (h : plOk l = false) : plist l = -1 := by unfold plist; rw [h]; rfl
theorem plist_on {l : List Int} (h : plOk l = true) : plist l = l.foldl pair 5 := by unfold plist; rw [h]; rfl
theorem wordOk_text {l : List UInt8} (h : wordOk l = true) : textOk l = true := by
  simp only [wordOk, Bool.and_eq_true, decide_eq_true_eq] at h
  simp only [textOk, Bool.and_eq_true, decide_eq_true_eq]
  refine ⟨by omega, ?_⟩
  rw [List.all_eq_true]
  intro c hc
  have := List.all_eq_true.1 h.2 c hc
  simp only [wordCh, Bool.or_eq_true, isSm, isDig] at this
  rcases this with h' | h'
  · have := inB_yes h'; exact inB_iff.2 ⟨by omega, by omega⟩
  · have := inB_yes h'; exact inB_iff.2 ⟨by omega, by omega⟩

/-! ### Versions and seals -/
structure Ver where
  root : Int
  before : Int
  note : ByteArray
def vOk (v : Ver) (i : Int) : Bool := pv v.root && inB v.before (-1) (i - 1) && wordOk (bs v.note)
def vsFrom : Int → List Ver → Bool
  | _, [] => true
  | i, v :: r => vOk v i && vsFrom (i + 1) r
def vsOk (l : List Ver) : Bool := decide (l.length ≤ 12) && vsFrom 0 l
theorem vsFrom_succ : ∀ (l : List Ver) (i : Int) (k : Nat) (x : Ver), l[k]? = some x → vsFrom i (l.take (k + 1)) = (vsFrom i (l.take k) && vOk x (i + k))
  | [], i, k, x, h => by simp at h
  | v :: r, i, 0, x, h => by
    simp at h; subst h
    simp [vsFrom]
  | v :: r, i, k + 1, x, h => by
    have := vsFrom_succ r (i + 1) k x (by simpa using h)
    simp only [List.take_succ_cons, vsFrom]
    rw [this, Bool.and_assoc, show i + 1 + (k : Int) = i + ((k + 1 : Nat) : Int) by omega]
theorem vsFrom_get : ∀ (l : List Ver) (i : Int) (k : Nat) (x : Ver), l[k]? = some x → vsFrom i l = true → vOk x (i + k) = true
  | [], i, k, x, h, _ => by simp at h
  | v :: r, i, 0, x, h, h' => by
    simp at h; subst h
    simp only [vsFrom, Bool.and_eq_true] at h'
    simpa using h'.1
  | v :: r, i, k + 1, x, h, h' => by
    simp only [vsFrom, Bool.and_eq_true] at h'
    have := vsFrom_get r (i + 1) k x (by simpa using h) h'.2
    rwa [show i + 1 + (k : Int) = i + ((k + 1 : Nat) : Int) by omega] at this
theorem vs_no {l : List Ver} {k : Nat} {x : Ver} (h : l[k]? = some x) (hv : vOk x k = false) : vsOk l = false := by
  cases hh : vsFrom 0 l
  · simp [vsOk, hh]
  · have := vsFrom_get l 0 k x h hh
    rw [show (0 : Int) + k = k by omega, hv] at this
    cases this
theorem vs_long {l : List Ver} (h : 12 < l.length) : vsOk l = false := by simp [vsOk]; omega

def sealOk (s : Int) (v : Ver) : Bool := pv s && pv v.root && inB v.before (-1) 12 && wordOk (bs v.note)
def sealNext (s : Int) (v : Ver) : Int := if sealOk s v then plist [s, v.root, v.before + 1, printOf (bs v.note)] else -1
theorem seal_off {s : Int} {v : Ver} (h : sealOk s v = false) : sealNext s v = -1 := by unfold sealNext; rw [h]; rfl
theorem seal_parts {s : Int} {v : Ver} (h : sealOk s v = true) : pv s = true ∧ pv v.root = true ∧ pv (v.before + 1) = true ∧ pv (printOf (bs v.note)) = true := by
  simp only [sealOk, Bool.and_eq_true] at h
  have := inB_yes h.1.2
  exact ⟨h.1.1.1, h.1.1.2, inB_iff.2 ⟨by omega, by omega⟩, printOf_in (wordOk_text h.2)⟩
theorem seal_on {s : Int} {v : Ver} (h : sealOk s v = true) : sealNext s v = pair (pair (pair (pair 5 s) v.root) (v.before + 1)) (printOf (bs v.note)) := by
  obtain ⟨h1, h2, h3, h4⟩ := seal_parts h
  unfold sealNext
  rw [if_pos h, plist_on (by simp [plOk, h1, h2, h3, h4])]
  rfl
theorem seal_in {s : Int} {v : Ver} (h : sealOk s v = true) : pv (sealNext s v) = true := by
  obtain ⟨h1, h2, h3, h4⟩ := seal_parts h
  rw [seal_on h]
  exact pair_in (pair_in (pair_in (pair_in (by decide) h1) h2) h3) h4
theorem seal_root {s r : Int} {v : Ver} (h : sealOk s v = true) (h' : pv r = true) (hr : r ≠ v.root) : sealNext s { v with root := r } ≠ sealNext s v := by
  have hk : sealOk s { v with root := r } = true := by
    simp only [sealOk, Bool.and_eq_true] at h ⊢
    exact ⟨⟨⟨h.1.1.1, h'⟩, h.1.2⟩, h.2⟩
  obtain ⟨h1, h2, h3, h4⟩ := seal_parts h
  rw [seal_on h, seal_on hk]
  intro e
  have p5 : pv 5 = true := by decide
  have e1 := pair_inj1 h4 (pair_in (pair_in (pair_in p5 h1) h') h3) (pair_in (pair_in (pair_in p5 h1) h2) h3) e
  have e2 := pair_inj1 h3 (pair_in (pair_in p5 h1) h') (pair_in (pair_in p5 h1) h2) e1
  exact hr (pair_inj2 (pair_in p5 h1) h' h2 e2)
theorem seal_seal {s s' : Int} {v : Ver} (h : sealOk s v = true) (h' : pv s' = true) (hs : s' ≠ s) : sealNext s' v ≠ sealNext s v := by
  have hk : sealOk s' v = true := by
    simp only [sealOk, Bool.and_eq_true] at h ⊢
    exact ⟨⟨⟨h', h.1.1.2⟩, h.1.2⟩, h.2⟩
  obtain ⟨h1, h2, h3, h4⟩ := seal_parts h
  rw [seal_on h, seal_on hk]
  intro e
  have p5 : pv 5 = true := by decide
  have e1 := pair_inj1 h4 (pair_in (pair_in (pair_in p5 h') h2) h3) (pair_in (pair_in (pair_in p5 h1) h2) h3) e
  have e2 := pair_inj1 h3 (pair_in (pair_in p5 h') h2) (pair_in (pair_in p5 h1) h2) e1
  have e3 := pair_inj1 h2 (pair_in p5 h') (pair_in p5 h1) e2
  exact hs (pair_inj2 p5 h' h1 e3)

def sealFold (s : Int) (l : List Ver) : Int := l.foldl sealNext s
def sealsFrom : Int → List Ver → List Int
  | _, [] => []
  | s, v :: r => sealNext s v :: sealsFrom (sealNext s v) r
def sealsOf (l : List Ver) : List Int := if vsOk l then sealsFrom 11 l else []
theorem seals_off {l : List Ver} (h : vsOk l = false) : sealsOf l = [] := by unfold sealsOf; rw [h]; rfl
theorem seals_on {l : List Ver} (h : vsOk l = true) : sealsOf l = sealsFrom 11 l := by unfold sealsOf; rw [h]; rfl
theorem sealsFrom_len : ∀ (s : Int) (l : List Ver), (sealsFrom s l).length = l.length
  | s, [] => rfl
  | s, v :: r => by simp [sealsFrom, sealsFrom_len _ r]
theorem sealsFrom_succ : ∀ (s : Int) (l : List Ver) (k : Nat) (x : Ver), l[k]? = some x → sealsFrom s (l.take (k + 1)) = sealsFrom s (l.take k) ++ [sealNext (sealFold s (l.take k)) x]
  | s, [], k, x, h => by simp at h
  | s, v :: r, 0, x, h => by
    simp at h; subst h
    rfl
  | s, v :: r, k + 1, x, h => by
    have := sealsFrom_succ (sealNext s v) r k x (by simpa using h)
    simp only [List.take_succ_cons, sealsFrom]
    rw [this]
    rfl
theorem sealFold_succ {s : Int} {l : List Ver} {k : Nat} {x : Ver} (h : l[k]? = some x) : sealFold s (l.take (k + 1)) = sealNext (sealFold s (l.take k)) x := foldl_succ _ _ h
/-- Valid versions' seals are prints. -/
theorem vOk_seal {s : Int} {v : Ver} {i : Int} (hs : pv s = true) (hi : i ≤ 12) (h : vOk v i = true) : sealOk s v = true := by
  simp only [vOk, sealOk, Bool.and_eq_true] at h ⊢
  have := inB_yes h.1.2
  exact ⟨⟨⟨hs, h.1.1⟩, inB_iff.2 ⟨by omega, by omega⟩⟩, h.2⟩
theorem sealFold_in : ∀ (l : List Ver) (s i : Int), pv s = true → vsFrom i l = true → i + l.length ≤ 12 → pv (sealFold s l) = true
  | [], s, i, h, _, _ => h
  | v :: r, s, i, h, hv, hl => by
    simp only [vsFrom, Bool.and_eq_true] at hv
    simp only [List.length_cons] at hl
    exact sealFold_in r _ (i + 1) (seal_in (vOk_seal h (by omega) hv.1)) hv.2 (by omega)

/-- The first number at which two lists part; -1 for none. -/
def partAt (k : Nat) : List Int → List Int → Int
  | [], _ => -1
  | _ :: _, [] => k
  | x :: r, y :: t => if x = y then partAt (k + 1) r t else k
theorem partAt_no : ∀ (r t : List Int) (j : Nat), r.length ≤ t.length → (∀ k, k < r.length → r[k]? = t[k]?) → partAt j r t = -1
  | [], _, _, _, _ => rfl
  | _ :: _, [], _, h, _ => by simp at h
  | x :: r, y :: t, j, h, he => by
    have h0 := he 0 (by simp)
    simp at h0
    simp only [partAt, h0, if_true]
    exact partAt_no r t (j + 1) (by simpa using h) (fun k hk => by simpa using he (k + 1) (by simp; omega))
theorem partAt_yes : ∀ (r t : List Int) (j k : Nat) (x : Int), r[k]? = some x → t[k]? ≠ some x → (∀ i, i < k → r[i]? = t[i]?) → partAt j r t = j + k
  | [], t, j, k, x, h, _, _ => by simp at h
  | y :: r, [], j, k, x, h, hn, he => by
    cases k with
    | zero => simp [partAt]
    | succ k => have := he 0 (by omega); simp at this
  | y :: r, z :: t, j, 0, x, h, hn, he => by
    simp at h hn
    subst h
    simp only [partAt]
    rw [if_neg (fun e => hn e.symm)]
    simp
  | y :: r, z :: t, j, k + 1, x, h, hn, he => by
    have h0 := he 0 (by omega)
    simp at h0
    simp only [partAt, h0, if_true]
    rw [partAt_yes r t (j + 1) k x (by simpa using h) (by simpa using hn) (fun i hi => by simpa using he (i + 1) (by omega))]
    omega
def sealsRight (l : List Ver) (s : List Int) : Int := if vsOk l && decide (s.length ≤ l.length) then partAt 0 (sealsOf l) s else -2

end Go.Proofs.YtachfmlfmpaddaaGreatDoor

/- Walks: the text of a mark. -/
namespace Go.Proofs.YtachfmlfmpaddaaGreatDoor
open Go.RowKit

def digs : Nat → Nat → ByteArray → ByteArray
  | 0, _, out => out
  | f + 1, k, out => if k = 0 then out else digs f (k / 10) (⟨#[UInt8.ofNat (48 + k % 10)]⟩ ++ out)
def markT (k : Int) : ByteArray := if k ≤ 0 then ⟨#[109, 48]⟩ else ⟨#[109]⟩ ++ digs 18 k.toNat ⟨#[]⟩
theorem digs_zero : ∀ (f : Nat) (out : ByteArray), digs f 0 out = out
  | 0, _ => rfl
  | f + 1, out => by simp [digs]
theorem digs_step {f k : Nat} (h : 0 < k) (out : ByteArray) : digs (f + 1) k out = digs f (k / 10) (⟨#[UInt8.ofNat (48 + k % 10)]⟩ ++ out) := by
  rw [digs, if_neg (by omega)]
theorem digs_size : ∀ (f k : Nat) (out : ByteArray), (digs f k out).size ≤ out.size + f
  | 0, k, out => by simp [digs]
  | f + 1, k, out => by
    rw [digs]
    split
    · omega
    · have := digs_size f (k / 10) (⟨#[UInt8.ofNat (48 + k % 10)]⟩ ++ out)
      rw [ByteArray.size_append] at this
      have e : (⟨#[UInt8.ofNat (48 + k % 10)]⟩ : ByteArray).size = 1 := rfl
      omega
theorem markT_size (k : Int) : (markT k).size ≤ 20 := by
  unfold markT
  split
  · decide
  · rw [ByteArray.size_append]
    have := digs_size 18 k.toNat ⟨#[]⟩
    have e : (⟨#[109]⟩ : ByteArray).size = 1 := rfl
    have e2 : (⟨#[]⟩ : ByteArray).size = 0 := rfl
    omega



end Go.Proofs.YtachfmlfmpaddaaGreatDoor

/- Plain facts on stores of pieces. No program in sight. -/
namespace Go.Proofs.YtachfmlfmpaddaaGreatDoor
open Go.RowKit

/-! ### Prints that are wanted, texts to send -/
def wantStep (l : List Pc) (out : List Int) (n : Int) : List Int := if hasP l n || hasI out n then out else out ++ [n]
def wantFrom (l : List Pc) (ns : List Int) : List Int := ns.foldl (wantStep l) []
def wantedOf (l : List Pc) (ns : List Int) : List Int := if storeOk l then wantFrom l ns else []
theorem wantFrom_succ {l : List Pc} {ns : List Int} {k : Nat} {x : Int} (h : ns[k]? = some x) : wantFrom l (ns.take (k + 1)) = wantStep l (wantFrom l (ns.take k)) x := foldl_succ _ _ h
theorem wantFrom_len (l : List Pc) : ∀ (ns : List Int) (out : List Int), (ns.foldl (wantStep l) out).length ≤ out.length + ns.length
  | [], out => by simp
  | n :: r, out => by
    rw [List.foldl_cons]
    have := wantFrom_len l r (wantStep l out n)
    have h2 : (wantStep l out n).length ≤ out.length + 1 := by unfold wantStep; split <;> simp
    simp only [List.length_cons]; omega
def sendStep (l : List Pc) (out : List ByteArray) (n : Int) : List ByteArray := match getP l n with | some t => out ++ [t] | none => out
def sendFrom (l : List Pc) (ns : List Int) : List ByteArray := ns.foldl (sendStep l) []
def sendTexts (l : List Pc) (ns : List Int) : List ByteArray := if storeOk l then sendFrom l ns else []
theorem sendFrom_succ {l : List Pc} {ns : List Int} {k : Nat} {x : Int} (h : ns[k]? = some x) : sendFrom l (ns.take (k + 1)) = sendStep l (sendFrom l (ns.take k)) x := foldl_succ _ _ h
theorem sendFrom_len (l : List Pc) : ∀ (ns : List Int) (out : List ByteArray), (ns.foldl (sendStep l) out).length ≤ out.length + ns.length
  | [], out => by simp
  | n :: r, out => by
    rw [List.foldl_cons]
    have := sendFrom_len l r (sendStep l out n)
    have h2 : (sendStep l out n).length ≤ out.length + 1 := by unfold sendStep; split <;> simp
    simp only [List.length_cons]; omega

end Go.Proofs.YtachfmlfmpaddaaGreatDoor

/- Walks: prints. -/
namespace Go.Proofs.YtachfmlfmpaddaaGreatDoor
open Go.RowKit

theorem pairs_succ {l : List Int} {k : Nat} {x : Int} (h : l[k]? = some x) : (l.take (k + 1)).foldl pair 5 = pair ((l.take k).foldl pair 5) x := foldl_succ _ _ h


theorem pairs_neg {l : List Int} : ∀ {n : Int}, pv n = true → l.all pv = true → ¬ (l.foldl pair n < 0) := by
  intro n h h'
  have := pv_iff.1 (pairs_in h h')
  omega


end Go.Proofs.YtachfmlfmpaddaaGreatDoor

/- The facts that a region's slots hold beside a reader; one operation's step. -/
namespace Go.Proofs.YtachfmlfmpaddaaGreatDoor
open Go.RowKit

section
variable {P : Program} {o : Oper} {a : Act} {w w' : World} {K : Act → World → Prop} {Q : Exit → Act → World → Prop} {v : Value}
end

theorem RJ.ne {w0 w : World} {g p n : Nat} {l : List Int} (h : RJ w0 g l p n w) : w.heap.size ≠ g := by
  obtain ⟨p', _, h2, _⟩ := h
  have := h2.lt
  omega

def Stable (g : Nat) (f : Value → World → Prop) : Prop := ∀ v w w', w.grownBy w' (some g) → f v w → f v w'
def isT (B : Nat) : Value → World → Prop := fun v _ => ∃ s : ByteArray, v = .string s ∧ s.size ≤ B
def isI (lo hi : Int) : Value → World → Prop := fun v _ => ∃ x : Int, v = .int .i64 x ∧ lo ≤ x ∧ x ≤ hi
def isRow (g : Nat) (cs : Array Value) (t : TypeId) (n : Nat) : Value → World → Prop := fun v w => ∃ b, v = .slice (some ⟨b, 0, none⟩) n n ∧ b ≠ g ∧ w.heap[b]? = some (.cells cs t (0, 0))
def isAt (g : Nat) (R : Value → World → Prop) : Value → World → Prop := fun v w => ∃ b i u, v = .pointer (some ⟨b, i, none⟩) ∧ b ≠ g ∧ w.cell? ⟨b, i, none⟩ = some u ∧ R u w
theorem isV_st (g : Nat) (u : Value) : Stable g (isV u) := fun _ _ _ _ h => h
theorem isT_st (g B : Nat) : Stable g (isT B) := fun _ _ _ _ h => h
theorem isI_st (g : Nat) (lo hi : Int) : Stable g (isI lo hi) := fun _ _ _ _ h => h
theorem isRow_st (g : Nat) (cs : Array Value) (t : TypeId) (n : Nat) : Stable g (isRow g cs t n) := by
  rintro v w w' hg ⟨b, hv, hb, hh⟩
  exact ⟨b, hv, hb, (hg.block b (Array.getElem?_eq_some_iff.1 hh).1 (some_ne hb)).trans hh⟩
theorem cell_far {w w' : World} {g b i : Nat} {u : Value} (hg : w.grownBy w' (some g)) (hb : b ≠ g) (h : w.cell? ⟨b, i, none⟩ = some u) : w'.cell? ⟨b, i, none⟩ = some u := by
  unfold World.cell? at h ⊢
  cases hh : w.heap[b]? with
  | none => simp [hh] at h
  | some o =>
    have hlt := (Array.getElem?_eq_some_iff.1 hh).1
    have := (hg.block b hlt (some_ne hb)).trans hh
    simp only [hh] at h
    simp only [this]
    exact h
theorem isAt_st (g : Nat) (R : Value → World → Prop) (hR : Stable g R) : Stable g (isAt g R) := by
  rintro v w w' hg ⟨b, i, u, hv, hb, hc, hr⟩
  exact ⟨b, i, u, hv, hb, cell_far hg hb hc, hR u w w' hg hr⟩
theorem fact_st {g : Nat} {l : List (Value → World → Prop)} (h : ∀ f ∈ l, Stable g f) (i : Nat) (v : Value) (w w' : World) (hg : w.grownBy w' (some g)) (hf : fact l i v w) : fact l i v w' := by
  unfold fact at *
  rw [List.getD_eq_getElem?_getD] at *
  cases hi : l[i]? with
  | none => trivial
  | some f =>
    rw [hi] at hf
    exact h f (List.mem_of_getElem? hi) v w w' hg hf

end Go.Proofs.YtachfmlfmpaddaaGreatDoor

/- Plain facts on texts that are put into stores. No program in sight. -/
namespace Go.Proofs.YtachfmlfmpaddaaGreatDoor
open Go.RowKit

/-- What was put has the text's print. -/
theorem put_print {l : List Pc} {t : ByteArray} (h : (putS l t).2.2 = true) : textOk (bs t) = true ∧ (putS l t).2.1 = printOf (bs t) := by
  cases hs : storeOk l
  · rw [put_off hs] at h; cases h
  · rcases put_cases (t := t) hs with e | ⟨ht, _, e⟩ | ⟨ht, _, _, e⟩
    · rw [e] at h; cases h
    · rw [e]; exact ⟨ht, rfl⟩
    · rw [e]; exact ⟨ht, rfl⟩

def takeStep (ps : List Int) (s : List Pc × Nat) (t : ByteArray) : List Pc × Nat := if (putS s.1 t).2.2 && hasI ps (putS s.1 t).2.1 then ((putS s.1 t).1, s.2) else (s.1, s.2 + 1)
def takeFrom (l : List Pc) (ps : List Int) (ts : List ByteArray) : List Pc × Nat := ts.foldl (takeStep ps) (l, 0)
def takeTexts (l : List Pc) (ps : List Int) (ts : List ByteArray) : List Pc × Int := if storeOk l then ((takeFrom l ps ts).1, ((takeFrom l ps ts).2 : Int)) else ([], -1)
theorem takeFrom_succ {l : List Pc} {ps : List Int} {ts : List ByteArray} {k : Nat} {t : ByteArray} (h : ts[k]? = some t) : takeFrom l ps (ts.take (k + 1)) = takeStep ps (takeFrom l ps (ts.take k)) t := foldl_succ _ _ h
theorem takeStep_ok {ps : List Int} {s : List Pc × Nat} {t : ByteArray} (h : storeOk s.1 = true) : storeOk (takeStep ps s t).1 = true := by
  unfold takeStep
  split
  · exact put_ok h
  · exact h
theorem takeStep_le {ps : List Int} {s : List Pc × Nat} {t : ByteArray} : (takeStep ps s t).2 ≤ s.2 + 1 := by
  unfold takeStep
  split <;> simp
theorem takes_ok {ps : List Int} : ∀ (ts : List ByteArray) (s : List Pc × Nat), storeOk s.1 = true → storeOk (ts.foldl (takeStep ps) s).1 = true
  | [], _, h => h
  | _ :: r, _, h => takes_ok r _ (takeStep_ok h)

end Go.Proofs.YtachfmlfmpaddaaGreatDoor

/- Plain facts on folders: digits in the base 16, entries, their texts, and what reads them. No program in sight. -/
namespace Go.Proofs.YtachfmlfmpaddaaGreatDoor
open Go.RowKit

theorem hexV_lt {c : UInt8} {d : Nat} (h : hexV c = some d) : d < 16 := by
  unfold hexV at h
  split at h
  · simp at h; omega
  · split at h
    · simp at h; omega
    · simp at h
theorem readHex_in {l : List UInt8} : readHex l = -1 ∨ (pv (readHex l) = true ∧ hexT (readHex l) = l) := by
  unfold readHex
  split
  · rename_i hl
    split
    · split
      · rename_i h
        right
        refine ⟨?_, h⟩
        cases hp : pv (_ : Int)
        · rw [hexT_off hp] at h; subst h; simp at hl
        · rfl
      · exact .inl rfl
    · exact .inl rfl
  · exact .inl rfl
/-! ### Entries -/
end Go.Proofs.YtachfmlfmpaddaaGreatDoor

/- Rows of pieces as a walk asks for them. No program in sight. -/
namespace Go.Proofs.YtachfmlfmpaddaaGreatDoor
open Go.RowKit

abbrev pcv (p : Pc) : Value := .agg #[.int .i64 p.print, .string p.text]
theorem flatP_get {xs : List Pc} {k : Nat} {x : Pc} (h : xs[k]? = some x) : (xs.flatMap encP)[k * 2]? = some (.int .i64 x.print) ∧ (xs.flatMap encP)[k * 2 + 1]? = some (.string x.text) :=
  ⟨by simpa using flatMap_get (enc := encP) (fun _ => rfl) xs k 0 x _ h rfl, flatMap_get (enc := encP) (fun _ => rfl) xs k 1 x _ h rfl⟩
theorem row_onP {w w' : World} {base e k n : Nat} {v : Value} {cs : List Value} (h : w.ownsRow base e k v n cs) (hb : Below w.heap.size w w') : w'.ownsRow base e k v n cs := by
  refine ⟨h.1, ?_⟩
  rcases h.2 with h2 | ⟨g, cap, cur, hv, hg, hh, r⟩
  · exact .inl h2
  · exact .inr ⟨g, cap, cur, hv, hg, (hb.block g (Array.getElem?_eq_some_iff.1 hh).1).trans hh, r⟩

def szPcs (xs : List Pc) : Nat := (xs.map fun x => x.text.size).sum
theorem szPcs_succ {xs : List Pc} {k : Nat} {x : Pc} (h : xs[k]? = some x) : szPcs (xs.take (k + 1)) = szPcs (xs.take k) + x.text.size := by
  unfold szPcs; rw [take_snoc' h]; simp
theorem szPcs_take (xs : List Pc) (k : Nat) : szPcs (xs.take k) ≤ szPcs xs := by
  have : szPcs xs = szPcs (xs.take k) + szPcs (xs.drop k) := by
    unfold szPcs; rw [← List.sum_append, ← List.map_append, List.take_append_drop]
  omega
theorem szPcs_mem {xs : List Pc} {x : Pc} (h : x ∈ xs) : x.text.size ≤ szPcs xs := by
  obtain ⟨k, hk, rfl⟩ := List.getElem_of_mem h
  have h1 := szPcs_succ (List.getElem?_eq_getElem hk)
  have h2 := szPcs_take xs (k + 1)
  omega
/-- What is left of the measure: all fits, or not. -/
def szLeftP (left : Int) (xs : List Pc) : Int := if left < xs.length + szPcs xs then -1 else left - xs.length - szPcs xs

end Go.Proofs.YtachfmlfmpaddaaGreatDoor

/- Walks of the exact laws' own helpers at slices of texts: copies, comparisons, marks, measures. -/
namespace Go.Proofs.YtachfmlfmpaddaaGreatDoor
open Go.RowKit

/-- The texts of the marks k, k + 1, .. -/
def marksS (k : Int) (n : Nat) : List ByteArray := (List.range n).map fun (j : Nat) => markT (k + j)
theorem marksS_len (k : Int) (n : Nat) : (marksS k n).length = n := by simp [marksS]
theorem marksS_get (k : Int) (n j : Nat) (h : j < n) : (marksS k n)[j]? = some (markT (k + j)) := by simp [marksS, h]
theorem marksS_cell (k : Int) (n j : Nat) (h : j < n) : ((marksS k n).flatMap encS)[j]? = some (.string (markT (k + j))) := by
  have := flatMap_get (enc := encS) (fun _ => rfl) (marksS k n) j 0 _ _ (marksS_get k n j h) rfl
  simpa using this
theorem row_onS {w w' : World} {base e k n : Nat} {v : Value} {cs : List Value} (h : w.ownsRow base e k v n cs) (hb : Below w.heap.size w w') : w'.ownsRow base e k v n cs := by
  refine ⟨h.1, ?_⟩
  rcases h.2 with h2 | ⟨g, cap, cur, hv, hg, hh, r⟩
  · exact .inl h2
  · exact .inr ⟨g, cap, cur, hv, hg, (hb.block g (Array.getElem?_eq_some_iff.1 hh).1).trans hh, r⟩




def szStrs (xs : List ByteArray) : Nat := (xs.map fun x => x.size).sum
theorem szStrs_succ {xs : List ByteArray} {k : Nat} {x : ByteArray} (h : xs[k]? = some x) : szStrs (xs.take (k + 1)) = szStrs (xs.take k) + x.size := by
  unfold szStrs; rw [take_snoc' h]; simp
theorem szStrs_take (xs : List ByteArray) (k : Nat) : szStrs (xs.take k) ≤ szStrs xs := by
  have : szStrs xs = szStrs (xs.take k) + szStrs (xs.drop k) := by
    unfold szStrs; rw [← List.sum_append, ← List.map_append, List.take_append_drop]
  omega
theorem szStrs_mem {xs : List ByteArray} {x : ByteArray} (h : x ∈ xs) : x.size ≤ szStrs xs := by
  obtain ⟨k, hk, rfl⟩ := List.getElem_of_mem h
  have h1 := szStrs_succ (List.getElem?_eq_getElem hk)
  have h2 := szStrs_take xs (k + 1)
  omega
def szLeftS (left : Int) (xs : List ByteArray) : Int := if left < xs.length + szStrs xs then -1 else left - xs.length - szStrs xs


end Go.Proofs.YtachfmlfmpaddaaGreatDoor
