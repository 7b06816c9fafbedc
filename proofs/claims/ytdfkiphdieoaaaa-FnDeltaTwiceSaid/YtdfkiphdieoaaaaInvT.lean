/- The same, where from operation N on everything waits for the one before: the rest is walked in the text's order. -/
import Derived.Test.YtdfkiphdieoaaaaInv
namespace Go.Proofs.Ytdfkiphdieoaaaa
open Go.RowKit

section
variable {P : Program} {ops : Array Oper}
def headB (ops : Array Oper) (N : Nat) : Bool := (List.range N).all fun i => Region.waitsFor .any ops N i
def looseHB (ops : Array Oper) (N t : Nat) : Bool := (List.range N).all fun i => match ops[i]? with
  | some o => o.dst != some t
  | none => true

theorem count_step_take (listed : Array Bool) (N i : Nat) (hN : i < N) (h : listed.getD i true = false) : ((listed.setIfInBounds i true).toList.take N).count false + 1 = (listed.toList.take N).count false := by
  have hi : i < listed.size := by
    by_cases hlt : i < listed.size
    · exact hlt
    · rw [Array.getD_eq_getD_getElem?, Array.getElem?_eq_none (by omega)] at h; simp at h
  have hv : listed.toList[i]'(by simpa using hi) = false := by
    rw [Array.getD_eq_getD_getElem?, Array.getElem?_eq_getElem hi] at h; simpa using h
  have hlt : i < (listed.toList.take N).length := by simp; omega
  have hv' : (listed.toList.take N)[i] = false := by simpa using hv
  have hpos := List.count_pos_iff.2 (show false ∈ listed.toList.take N by rw [← hv']; exact List.getElem_mem hlt)
  rw [Array.toList_setIfInBounds, List.take_set, List.count_set hlt, hv']
  simp only [beq_self_eq_true, if_true, show (true == false) = false from rfl, Bool.false_eq_true, if_false]
  omega

theorem wp_region_inv_tail {id : Nat} (N : Nat) (hN : N ≤ ops.size) (hhead : headB ops N = true) (hchain : Region.chainB .any ops N = true) (hseq : Region.seqB .any ops (ops.size - N) N (Array.replicate N true ++ Array.replicate (ops.size - N) false) = true) {Q : Exit → Act → World → Prop} {a0 : Act} {w0 : World} (hm : P.follows .mixedOrders = true) (hp : plainB ops = true) (hback : backB ops = true)
    (hdst : (ops.all fun o => match o.dst with | some t => decide (t < a0.tmps.size) | none => true) = true)
    (J : Nat → World → Prop) (S : World → World → Prop) (F : Nat → Value → World → Prop) (hJ : J 0 w0.drew) (hF : ∀ i v w w', S w w' → F i v w → F i v w')
    (hop : ∀ (i : Nat) (o : Oper), i < N → ops[i]? = some o → ∀ (n : Nat) (a : Act) (w : World), n < N → J n w →
      (∀ t, freshB ops i t = true → a.tmps.getD t undef = a0.tmps.getD t undef) →
      (∀ e ∈ o.after, Region.binds .any e = true → F e.on (slotOf ops e.on a) w) →
      o.wp P a w (fun a' w' => ∃ v, a' = a.put o.dst v ∧ J (n + 1) w' ∧ S w w' ∧ F i (if o.dst.isSome then v else undef) w') Q)
    (hend : ∀ (a : Act) (w : World), J N w → a.tmps.size = a0.tmps.size → a.defers = a0.defers → (∀ t, looseHB ops N t = true → a.tmps.getD t undef = a0.tmps.getD t undef) → (∀ (i : Nat) (o : Oper), i < N → ops[i]? = some o → F i (slotOf ops i a) w) → wpList P ops Q (ops.toList.drop N) a w) :
    (Code.region id ops true).wp P Q a0 w0 := by
  refine wp_region_any hm ?_
  have hdst' : ∀ (i : Nat) (o : Oper) (t : Tmp), ops[i]? = some o → o.dst = some t → t < a0.tmps.size := by
    intro i o t hi ht
    have hlt := (Array.getElem?_eq_some_iff.1 hi)
    obtain ⟨hlt, he⟩ := hlt
    have h1 := Array.all_eq_true.1 hdst i hlt
    rw [he, ht] at h1
    exact of_decide_eq_true h1
  have hback' : ∀ (i : Nat) (o : Oper), ops[i]? = some o → ∀ e ∈ o.after, Region.binds .any e = true → e.on < i := by
    intro i o hi e he hbe
    have h1 := List.all_eq_true.1 hback i (List.mem_range.2 (Array.getElem?_eq_some_iff.1 hi).1)
    simp only [hi] at h1
    obtain ⟨k, hk, hke⟩ := Array.getElem_of_mem he
    have h2 := Array.all_eq_true.1 h1 k hk
    rw [hke, hbe] at h2
    exact of_decide_eq_true (by simpa using h2)
  suffices H : ∀ (f n : Nat) (listed : Array Bool) (a : Act) (w : World), listed.size = ops.size → (listed.toList.take N).count false = f → n + f = N → (∀ t, N ≤ t → t < ops.size → listed.getD t true = false) → J n w → a.tmps.size = a0.tmps.size → a.defers = a0.defers →
      (∀ j o, ops[j]? = some o → listed.getD j false = true → ∀ e ∈ o.after, Region.binds .any e = true → listed.getD e.on false = true) →
      (∀ t, (∀ (i : Nat) (o : Oper), ops[i]? = some o → listed.getD i false = true → o.dst ≠ some t) → a.tmps.getD t undef = a0.tmps.getD t undef) →
      (∀ (i : Nat) (o : Oper), ops[i]? = some o → listed.getD i false = true → F i (slotOf ops i a) w) → wpAny P .any ops Q (f + (ops.size - N)) listed a w by
    have := H N 0 (Array.replicate ops.size false) a0 w0.drew (by simp) (by simp [List.take_replicate]; omega) (by omega) (fun t _ ht => getD_in (by simpa using ht) (getD_replicate_false _ _)) hJ rfl rfl ?_ ?_ ?_
    · rw [show N + (ops.size - N) = ops.size by omega] at this; exact this
    · intro j o _ h; rw [getD_replicate_false] at h; cases h
    · intro t _; rfl
    · intro i o _ h; rw [getD_replicate_false] at h; cases h
  intro f
  induction f with
  | zero =>
    intro n listed a w hs hc hnf htl hj hsz hdf _ hsame hhold
    obtain rfl : n = N := by omega
    have hall : ∀ i, i < n → listed.getD i false = true := by
      intro i hi
      have hnot : false ∉ listed.toList.take n := List.count_eq_zero.1 hc
      rw [Array.getD_eq_getD_getElem?, Array.getElem?_eq_getElem (by omega)]
      simp only [Option.getD_some]
      cases hv : listed[i]'(by omega) with
      | true => rfl
      | false => exact absurd (List.mem_take_iff_getElem.2 ⟨i, by simp; omega, by simpa using hv⟩) hnot
    have hl : listed = Array.replicate n true ++ Array.replicate (ops.size - n) false := by
      apply Array.ext
      · simp; omega
      · intro k h1 h2
        by_cases hk : k < n
        · have := hall k hk
          rw [Array.getD_eq_getD_getElem?, Array.getElem?_eq_getElem h1] at this
          rw [Array.getElem_append_left (by simpa using hk)]
          simpa using this
        · have := htl k (by omega) (by omega)
          rw [Array.getD_eq_getD_getElem?, Array.getElem?_eq_getElem h1] at this
          rw [Array.getElem_append_right (by simpa using hk)]
          simpa using this
    have hlen : (ops.toList.drop n).length = ops.size - n := by simp
    have := wpAny_of_seq (P := P) (md := .any) (Q' := Q) (ops.toList.drop n) n listed a w (fun j => by rw [List.getElem?_drop]; simp) (by rw [hlen, hl]; exact hseq)
      (hend a w hj hsz hdf (fun t ht => hsame t fun i o hi hli => ?_) (fun i o hin hi => hhold i o hi (hall i hin)))
    · rw [hlen] at this; rw [Nat.zero_add]; exact this
    · have hin : i < n := Nat.lt_of_not_le fun h => by
        have := htl i h (Array.getElem?_eq_some_iff.1 hi).1
        rw [Array.getD_eq_getD_getElem?, Array.getElem?_eq_getElem (by have := (Array.getElem?_eq_some_iff.1 hi).1; omega)] at this hli
        simp only [Option.getD_some] at this hli
        rw [hli] at this; cases this
      have h1 := List.all_eq_true.1 ht i (List.mem_range.2 hin)
      simp only [hi, bne_iff_ne] at h1
      exact h1
  | succ f ih =>
    intro n listed a w hs hc hnf htl hj hsz hdf hcl hsame hhold
    rw [Nat.succ_add]
    refine ⟨fun h0 => ?_, fun i hi => ?_⟩
    · exfalso
      have hmem : false ∈ listed.toList := List.mem_of_mem_take (List.count_pos_iff.1 (show 0 < (listed.toList.take N).count false by omega))
      have hex : ∃ i, i < ops.size ∧ listed.getD i true = false := by
        obtain ⟨k, hk, hke⟩ := List.getElem_of_mem hmem
        refine ⟨k, by simpa [hs] using hk, ?_⟩
        rw [Array.getD_eq_getD_getElem?, Array.getElem?_eq_getElem (by simpa using hk)]
        simpa using hke
      obtain ⟨i, ⟨hi, hf⟩, hmin⟩ := exists_least hex
      have hr : i ∈ Region.ready .any ops listed := mem_ready.2 ⟨hf, ops[i], Array.getElem?_eq_getElem hi, fun e he hbe => by
        have hlt := hback' i _ (Array.getElem?_eq_getElem hi) e he hbe
        have := hmin e.on hlt
        rw [Array.getD_eq_getD_getElem?, Array.getElem?_eq_getElem (by omega)] at this ⊢
        simp only [Option.getD_some] at this ⊢
        cases hv : listed[e.on]'(by omega) with
        | true => rfl
        | false => exact absurd ⟨by omega, hv⟩ this⟩
      rw [h0] at hr; cases hr
    · obtain ⟨hun, o, ho, hdeps⟩ := mem_ready.1 hi
      have hiN : i < N := by
        have hmem : false ∈ listed.toList.take N := List.count_pos_iff.1 (by omega)
        obtain ⟨k, hk, hke⟩ := List.getElem_of_mem hmem
        have hkN : k < N := by simp at hk; omega
        have hkf : listed.getD k false = false := by
          rw [Array.getD_eq_getD_getElem?, Array.getElem?_eq_getElem (by simp at hk; omega)]
          simpa using hke
        refine Nat.lt_of_not_le fun hNi => ?_
        have hio := (Array.getElem?_eq_some_iff.1 ho).1
        rcases Nat.lt_or_ge N i with hlt | hge
        · have h1 := List.all_eq_true.1 hchain i (List.mem_range.2 hio)
          rcases Bool.or_eq_true_iff.1 h1 with h2 | h2
          · have := of_decide_eq_true h2; omega
          · obtain ⟨o2, ho2, x, hx, hxb, hon⟩ := Region.waitsFor_spec h2
            obtain rfl : o2 = o := Option.some.inj (ho2.symm.trans ho)
            have h3 := hdeps x hx hxb
            have h4 := htl (i - 1) (by omega) (by omega)
            rw [hon, Array.getD_eq_getD_getElem?, Array.getElem?_eq_getElem (by omega)] at h3
            rw [Array.getD_eq_getD_getElem?, Array.getElem?_eq_getElem (by omega)] at h4
            simp only [Option.getD_some] at h3 h4
            rw [h3] at h4; cases h4
        · obtain rfl : i = N := by omega
          have h2 := List.all_eq_true.1 hhead k (List.mem_range.2 hkN)
          obtain ⟨o2, ho2, x, hx, hxb, hon⟩ := Region.waitsFor_spec h2
          obtain rfl : o2 = o := Option.some.inj (ho2.symm.trans ho)
          have h3 := hdeps x hx hxb
          rw [hon, hkf] at h3; cases h3
      have hil : i < listed.size := by rw [hs]; exact (Array.getElem?_eq_some_iff.1 ho).1
      have hunf : listed.getD i false = false := by
        rw [Array.getD_eq_getD_getElem?, Array.getElem?_eq_getElem hil] at hun ⊢
        simpa using hun
      obtain ⟨hgu, hslot⟩ := plainB_spec hp ho
      unfold wpOp
      simp only [ho]
      rw [if_pos (by simp [Region.wanted, hgu])]
      refine .inl (Oper.wp_mono ?_ (hop i o hiN ho n a w (by omega) hj (fun t ht => hsame t fun j o' hj' hl => ?_) (fun e he hbe => ?_)))
      · rintro a' w' ⟨v, rfl, hj', hS, hF'⟩
        have hother : ∀ j o', ops[j]? = some o' → j ≠ i → slotOf ops j (a.put o.dst v) = slotOf ops j a := by
          intro j o' hj2 hne
          unfold slotOf
          rw [hj2]
          cases ht : o'.dst with
          | none => simp [ht]
          | some t =>
            simp only [Option.bind_some, ht]
            cases hd : o.dst with
            | none => simp [Act.put]
            | some u =>
              rw [getD_put _ _ _ _ (by rw [hsz]; exact hdst' i o u ho hd), if_neg]
              rintro rfl
              exact hslot j o' _ hj2 hne hd ht
        have hget : ∀ j, (listed.setIfInBounds i true).getD j false = true → j = i ∨ listed.getD j false = true := by
          intro j hjl
          by_cases hji : j = i
          · exact .inl hji
          · right
            rw [Array.getD_eq_getD_getElem?, Array.getElem?_setIfInBounds_ne (Ne.symm hji)] at hjl
            rw [Array.getD_eq_getD_getElem?]; exact hjl
        have hget' : ∀ j, listed.getD j false = true → (listed.setIfInBounds i true).getD j false = true := by
          intro j hjl
          by_cases hji : j = i
          · rw [hji] at hjl; rw [hunf] at hjl; cases hjl
          · rw [Array.getD_eq_getD_getElem?, Array.getElem?_setIfInBounds_ne (Ne.symm hji)]
            rw [Array.getD_eq_getD_getElem?] at hjl; exact hjl
        refine ih (n + 1) _ _ _ (by simpa using hs) (by have := count_step_take listed N i hiN hun; omega) (by omega) (fun t h1 h2 => by rw [Array.getD_eq_getD_getElem?, Array.getElem?_setIfInBounds_ne (by omega), ← Array.getD_eq_getD_getElem?]; exact htl t h1 h2) hj' ?_ ?_ ?_ ?_ ?_
        · unfold Act.put; cases o.dst <;> simp [hsz]
        · unfold Act.put; cases o.dst <;> simp [hdf]
        · intro j oj hoj hl e he hbe
          rcases hget j hl with rfl | hl
          · obtain rfl : oj = o := Option.some.inj (hoj.symm.trans ho)
            exact hget' _ (hdeps e he hbe)
          · exact hget' _ (hcl j oj hoj hl e he hbe)
        · intro t ht
          have hne : o.dst ≠ some t := ht i o ho (by rw [Array.getD_eq_getD_getElem?, Array.getElem?_setIfInBounds_self_of_lt hil]; rfl)
          rw [← hsame t (fun j oj hoj hl => ht j oj hoj (hget' j hl))]
          cases hd : o.dst with
          | none => simp [Act.put]
          | some u =>
            rw [getD_put _ _ _ _ (by rw [hsz]; exact hdst' i o u ho hd), if_neg]
            rintro rfl
            exact hne hd
        · intro j oj hoj hl
          by_cases hji : j = i
          · subst hji
            obtain rfl : oj = o := Option.some.inj (hoj.symm.trans ho)
            have : slotOf ops j (a.put oj.dst v) = if oj.dst.isSome then v else undef := by
              unfold slotOf
              rw [hoj]
              cases hd : oj.dst with
              | none => simp [hd]
              | some u =>
                simp only [Option.bind_some, hd]
                rw [getD_put _ _ _ _ (by rw [hsz]; exact hdst' j oj u hoj hd)]
                simp
            rw [this]; exact hF'
          · rw [hother j oj hoj hji]
            rcases hget j hl with h | hl
            · exact absurd h hji
            · exact hF j _ w w' hS (hhold j oj hoj hl)
      · have h1 := List.all_eq_true.1 ht j (List.mem_range.2 (Array.getElem?_eq_some_iff.1 hj').1)
        simp only [hj', Bool.or_eq_true, bne_iff_ne, beq_iff_eq] at h1
        rcases h1 with (h1 | h1) | h1
        · exact h1
        · subst h1; rw [hunf] at hl; cases hl
        · obtain ⟨o2, ho2, x, hx, hxb, hon⟩ := Region.waitsFor_spec h1
          obtain rfl : o2 = o' := Option.some.inj (ho2.symm.trans hj')
          have := hcl j o2 hj' hl x hx hxb
          rw [hon, hunf] at this; cases this
      · have hd := hdeps e he hbe
        have hlt := hback' i o ho e he hbe
        exact hhold e.on ops[e.on] (Array.getElem?_eq_getElem (by have := (Array.getElem?_eq_some_iff.1 ho).1; omega)) hd
end
end Go.Proofs.Ytdfkiphdieoaaaa
