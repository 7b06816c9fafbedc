/- Walks and plain facts, joined: Base', Ty', Reg', Inv', A', CacheP', ExI', InvG'. -/
import Derived.Test.YtachfmlfmpaddaaGreatDoorMg2
import Derived.Test.YtachfmlfmpaddaaGreatDoorMg3
import Derived.WalkKit
import Derived.WalkSpells
import Derived.WalkLawsBesides
import Derived.Deep.Draws
import Derived.Maps.AppendAt
import Derived.Test.YtachfmlfmpaddaaGreatDoorProg
import Derived.BigQuiet
import Derived.StillTail
import Derived.Deep.QuietTactic
set_option linter.unusedVariables false
set_option linter.unusedSimpArgs false

/- Plain words for memory, used by every walk of this seat: what a slice value reads as, what is owned, and what keeps it. No program in sight. -/
namespace Go.Proofs.YtachfmlfmpaddaaGreatDoor
open Go.RowKit

theorem ret_v {x y : Value} (h : x = y) : Ending.returned x = .returned y := by rw [h]

/-! ### Below -/
theorem bl_grown {w0 w w' : World} {B : Nat} {row : Option Nat} (h : Below B w0 w) (hg : w.grownBy w' row) (hB : B ≤ w.heap.size) (hr : ∀ g, row = some g → B ≤ g) : Below B w0 w' := h.grown hg hB hr
theorem grown_drewN (w : World) (n : Nat) : Grown w (w.drewN n) := ⟨⟨rfl, rfl, (World.keptBut_refl w (fun _ => False)).2.2⟩, fun _ => rfl, Nat.le_refl _⟩
/-! ### Slices -/
section
variable {α : Type} {enc : α → List Value} {e k B B' : Nat} {w w' : World} {v : Value} {xs : List α}
end

/-! ### Lists in a loop -/
theorem take_snoc {α : Type} (xs : List α) (k : Nat) (h : k < xs.length) : xs.take (k + 1) = xs.take k ++ [xs[k]] := by
  rw [List.take_succ_eq_append_getElem h]
theorem any_succ {α : Type} (p : α → Bool) {xs : List α} {k : Nat} {x : α} (h : xs[k]? = some x) : (xs.take (k + 1)).any p = ((xs.take k).any p || p x) := by
  rw [take_snoc' h, List.any_append]; simp only [List.any_cons, List.any_nil, Bool.or_false]
theorem all_get {α : Type} (p : α → Bool) {xs : List α} {k : Nat} {x : α} (h : xs[k]? = some x) (hp : xs.all p = true) : p x = true := List.all_eq_true.1 hp _ (List.mem_of_getElem? h)
/-- Two lists that agree up to k, and what follows. -/
theorem eq_of_take {α : Type} {xs ys : List α} {n k : Nat} (hx : xs.length = n) (hy : ys.length = n) (hk : n ≤ k) (h : xs.take k = ys.take k) : xs = ys := by
  rwa [List.take_of_length_le (by omega), List.take_of_length_le (by omega)] at h
theorem take_eq_succ {α : Type} {xs ys : List α} {k : Nat} {x : α} (h : xs.take k = ys.take k) (hx : xs[k]? = some x) (hy : ys[k]? = some x) : xs.take (k + 1) = ys.take (k + 1) := by
  rw [List.take_add_one, List.take_add_one, h, hx, hy]
theorem ne_of_get {α : Type} {xs ys : List α} {k : Nat} {x y : α} (hx : xs[k]? = some x) (hy : ys[k]? = some y) (h : x ≠ y) : xs ≠ ys := by
  rintro rfl
  rw [hx] at hy
  exact h (Option.some.inj hy)

theorem Pre.get {cs ys : List Value} {k : Nat} (h : Pre cs ys k) {j : Nat} (hj : j < ys.length) : ∃ u, cs[j]? = some u := ⟨cs[j]'(by rw [h.1]; exact hj), List.getElem?_eq_getElem _⟩

theorem Rd.of_row {k : IntKind} {w : World} {a : Option Addr} {len cap : Nat} {zs : List Int} (h : IsRow k w a len cap zs) :
    Rd (fun x => [Value.int k x]) 1 w w.heap.size (.slice a len cap) (zs.take len) := by
  rcases h with ⟨rfl, rfl, rfl, rfl⟩ | ⟨x, rfl, hl, hm, hz, hc, hw⟩
  · exact Rd.nil _ _ _ _ _ (Nat.zero_le _)
  · have hlen : (zs.take len).length = len := by simp; omega
    unfold Rd
    rw [hlen, ← List.map_eq_flatMap]
    refine ⟨some x, cap, rfl, hl, hm, by simp; omega, fun hn => ?_⟩
    obtain ⟨b, o, s⟩ := x
    have h0 := hc 0 (by omega)
    have hs : s = none := by
      cases s with
      | none => rfl
      | some q => exfalso; revert h0; simp only [Addr.add, if_true, World.cell?]; split <;> simp
    subst hs
    refine ⟨b, o, rfl, ?_, fun j v hj => ?_⟩
    · have := World.block_lt_of_cell? w _ h0
      simpa [Addr.add] using this
    · rw [List.getElem?_map, List.getElem?_take] at hj
      by_cases hjl : j < len
      · rw [if_pos hjl] at hj
        have h1 := hc j (by omega)
        have ha : (⟨b, o, none⟩ : Addr).add j = ⟨b, o + j, none⟩ := by unfold Addr.add; split <;> simp_all
        rw [ha] at h1
        rw [h1]
        rw [← hj]
        rw [List.getElem?_eq_getElem (by omega)]
        simp [List.getD_eq_getElem?_getD, List.getElem?_eq_getElem (show j < zs.length by omega)]
      · rw [if_neg hjl] at hj
        cases hj

end Go.Proofs.YtachfmlfmpaddaaGreatDoor

/- The types of this seat: how their values lie in cells; append of one number, one bool. -/
namespace Go.Proofs.YtachfmlfmpaddaaGreatDoor
open Go.RowKit

theorem getI {w : World} {B g n c i : Nat} {xs : List Int} (h : OwnI w B (.slice (some ⟨g, 0, none⟩) n c) xs) (hn : xs.length = n) (hi : i < n) : ∃ x, Hid (xs[i]? = some x) ∧ w.cell? ⟨g, i, none⟩ = some (.int .i64 x) := by
  obtain ⟨a, c', hv, _, _, h3⟩ := (Rd.of_own h).ints hn
  obtain ⟨b, o, x, ha, _, hx, hc⟩ := h3 i hi
  simp only [Value.slice.injEq] at hv
  obtain ⟨rfl, _, _⟩ := hv
  simp only [Option.some.injEq, Addr.mk.injEq, and_true] at ha
  obtain ⟨rfl, rfl⟩ := ha
  exact ⟨x, hx, by simpa using hc⟩

section
variable {ops : Array Oper} {rest : List Oper} {o : Oper} {a : Act} {Q : Exit → Act → World → Prop} {w0 wr : World}

theorem cat_int (hgd : o.guard = none) (s x : Operand) (ho : o.op = .call { callee := .builtin .append, args := #[s, x], argTypes := #[44, 44] }) (B B0 : Nat) (v sv : Value) (acc ys : List Int)
    (hown : OwnI wr B v acc) (Bs : Nat) (hr : Ints wr Bs sv ys) (hb : Below B0 w0 wr) (hB : B ≤ wr.heap.size) (hB0 : B0 ≤ B) (hs : a.eval s = v) (hx : a.eval x = sv) (hn : acc.length + ys.length < 1099511627776)
    (h : ∀ v' w', OwnI w' B v' (acc ++ ys) → Below B0 w0 w' → B ≤ w'.heap.size → wr.grownBy w' v.ownBlock ∧ (∀ g, v'.ownBlock = some g → v.ownBlock = some g ∨ wr.heap.size ≤ g) → wpList Tryz.prog ops Q rest (a.put o.dst v') w') :
    wpList Tryz.prog ops Q (o :: rest) a wr := by
  obtain ⟨i0, hi, hz0, hz1, hz2⟩ := info_parts info_int
  exact wpList_cat (enc := encI) hgd s x 44 ho B B0 3 i0 _ 1 8 Tryz.underlying44 hi hz0 hz1 hz2 rfl (by decide) v sv acc ys hown Bs hr hb hB hB0 hs hx (by simp [Value.oneCell']) hn (by decide) h

theorem push_bool (hgd : o.guard = none) (s x : Operand) (ho : o.op = .call { callee := .builtin .append, args := #[s, x], argTypes := #[102, 102] }) (B B0 : Nat) (v : Value) (acc : List Bool) (y : Bool)
    (hown : OwnB wr B v acc) (hb : Below B0 w0 wr) (hB : B ≤ wr.heap.size) (hB0 : B0 ≤ B) (hs : a.eval s = v) (hx : a.eval x = .slice (some ⟨wr.heap.size, 0, none⟩) 1 1) (hn : acc.length < 1099511627775)
    (h : ∀ v' w', OwnB w' B v' (acc ++ [y]) → Below B0 w0 w' → B ≤ w'.heap.size → wr.grownBy w' v.ownBlock ∧ (∀ g, v'.ownBlock = some g → v.ownBlock = some g ∨ wr.heap.size ≤ g) → wpList Tryz.prog ops Q rest (a.put o.dst v') w') :
    wpList Tryz.prog ops Q (o :: rest) a (wr.alloc (.cells #[.bool y] 4)) := by
  obtain ⟨i0, hi, hz0, hz1, hz2⟩ := info_parts info_bool
  exact wpList_push (enc := encB) hgd s x 102 ho B B0 4 i0 _ 1 1 Tryz.underlying102 hi hz0 hz1 hz2 rfl (by decide) v acc y hown hb hB hB0 hs hx rfl (by simp [Value.oneCell']) hn (by decide) h

end
end Go.Proofs.YtachfmlfmpaddaaGreatDoor

/- A region that draws its order: its first e operations are moves, then come quiet ones (they read, or call what only draws), and from operation n on everything waits for the one before: one walk in the text's order serves every order. No program in sight. -/
namespace Go.Proofs.YtachfmlfmpaddaaGreatDoor
open Go.RowKit

theorem qdraw {P : Program} {f : FuncId} {args : Array Value} {w : World} {n : Nat} {v : Value} (h : Calls P f args (w.drewN n) fun e w' => e = .returned v ∧ ∃ k, w' = (w.drewN n).drewN k) :
    Calls P f args (w.drewN n) fun e w'' => e = .returned v ∧ ∃ m, w'' = w.drewN m := h.mono fun _ _ ⟨he, k, hw⟩ => ⟨he, n + k, by rw [hw, World.drewN_drewN]⟩
theorem qdraw' {P : Program} {f : FuncId} {args : Array Value} {w : World} {a n : Nat} {v : Value} (h : Calls P f args (w.drewN (a + n)) fun e w' => e = .returned v ∧ ∃ k, w' = (w.drewN (a + n)).drewN k) :
    Calls P f args (w.drewN (a + n)) fun e w'' => e = .returned v ∧ ∃ m, w'' = w.drewN (a + m) := h.mono fun _ _ ⟨he, k, hw⟩ => ⟨he, n + k, by rw [hw, World.drewN_drewN, Nat.add_assoc]⟩

section
variable {P : Program} {ops : Array Oper} {md : Region.Mode} {C : World → Prop}

end

end Go.Proofs.YtachfmlfmpaddaaGreatDoor

/- A region that draws its order, held by an invariant: of the world, and of each operation what its slot holds. Whatever the order, each operation is looked at once. No program in sight. -/
namespace Go.Proofs.YtachfmlfmpaddaaGreatDoor
open Go.RowKit

section
variable {P : Program} {ops : Array Oper}

/-- The slot that operation i writes. -/
def slotOf (ops : Array Oper) (i : Nat) (a : Act) : Value := match (ops[i]?).bind (·.dst) with | some t => a.tmps.getD t undef | none => undef
theorem wp_region_inv {id : Nat} {Q : Exit → Act → World → Prop} {a0 : Act} {w0 : World} (hm : P.follows .mixedOrders = true) (hp : plainB ops = true) (hback : backB ops = true)
    (hdst : (ops.all fun o => match o.dst with | some t => decide (t < a0.tmps.size) | none => true) = true)
    (J : Nat → World → Prop) (S : World → World → Prop) (F : Nat → Value → World → Prop) (hJ : J 0 w0.drew) (hF : ∀ i v w w', S w w' → F i v w → F i v w')
    (hop : ∀ (i : Nat) (o : Oper), ops[i]? = some o → ∀ (n : Nat) (a : Act) (w : World), n < ops.size → J n w →
      (∀ t, freshB ops i t = true → a.tmps.getD t undef = a0.tmps.getD t undef) →
      (∀ e ∈ o.after, Region.binds .any e = true → F e.on (slotOf ops e.on a) w) →
      o.wp P a w (fun a' w' => ∃ v, a' = a.put o.dst v ∧ J (n + 1) w' ∧ S w w' ∧ F i (if o.dst.isSome then v else undef) w') Q)
    (hend : ∀ (a : Act) (w : World), J ops.size w → a.tmps.size = a0.tmps.size → a.defers = a0.defers → (∀ t, looseB ops t = true → a.tmps.getD t undef = a0.tmps.getD t undef) → (∀ (i : Nat) (o : Oper), ops[i]? = some o → F i (slotOf ops i a) w) → Q .normal a w) :
    (Code.region id ops true).wp P Q a0 w0 := by
  refine wp_region_any hm ?_
  have hdst' : ∀ (i : Nat) (o : Oper) (t : Tmp), ops[i]? = some o → o.dst = some t → t < a0.tmps.size := by
    intro i o t hi ht
    have hlt := (Array.getElem?_eq_some_iff.1 hi)
    obtain ⟨hlt, he⟩ := hlt
    have h1 := Array.all_eq_true.1 hdst i hlt
    rw [he, ht] at h1
    exact of_decide_eq_true h1
  have hback' : ∀ (i : Nat) (o : Oper), ops[i]? = some o → ∀ e ∈ o.after, Region.binds .any e = true → e.on < i := by
    intro i o hi e he hbe
    have h1 := List.all_eq_true.1 hback i (List.mem_range.2 (Array.getElem?_eq_some_iff.1 hi).1)
    simp only [hi] at h1
    obtain ⟨k, hk, hke⟩ := Array.getElem_of_mem he
    have h2 := Array.all_eq_true.1 h1 k hk
    rw [hke, hbe] at h2
    exact of_decide_eq_true (by simpa using h2)
  suffices H : ∀ (f n : Nat) (listed : Array Bool) (a : Act) (w : World), listed.size = ops.size → listed.toList.count false = f → n + f = ops.size → J n w → a.tmps.size = a0.tmps.size → a.defers = a0.defers →
      (∀ j o, ops[j]? = some o → listed.getD j false = true → ∀ e ∈ o.after, Region.binds .any e = true → listed.getD e.on false = true) →
      (∀ t, (∀ (i : Nat) (o : Oper), ops[i]? = some o → listed.getD i false = true → o.dst ≠ some t) → a.tmps.getD t undef = a0.tmps.getD t undef) →
      (∀ (i : Nat) (o : Oper), ops[i]? = some o → listed.getD i false = true → F i (slotOf ops i a) w) → wpAny P .any ops Q f listed a w by
    refine H _ 0 _ _ _ (by simp) (by simp) (by simp) hJ rfl rfl ?_ ?_ ?_
    · intro j o _ h; rw [getD_replicate_false] at h; cases h
    · intro t _; rfl
    · intro i o _ h; rw [getD_replicate_false] at h; cases h
  intro f
  induction f with
  | zero =>
    intro n listed a w hs hc hnf hj hsz hdf _ hsame hhold
    obtain rfl : n = ops.size := by omega
    have hall : ∀ i, i < ops.size → listed.getD i false = true := by
      intro i hi
      have hnot : false ∉ listed.toList := List.count_eq_zero.1 hc
      rw [Array.getD_eq_getD_getElem?, Array.getElem?_eq_getElem (by omega)]
      simp only [Option.getD_some]
      cases hv : listed[i]'(by omega) with
      | true => rfl
      | false => exact absurd (by rw [← hv]; simp) hnot
    refine ⟨?_, hend a w hj hsz hdf (fun t ht => hsame t fun i o hi _ => ?_) (fun i o hi => hhold i o hi (hall i (Array.getElem?_eq_some_iff.1 hi).1))⟩
    · rw [List.eq_nil_iff_forall_not_mem]
      intro i hi
      obtain ⟨h1, o, ho, _⟩ := mem_ready.1 hi
      have h2 := hall i (Array.getElem?_eq_some_iff.1 ho).1
      rw [Array.getD_eq_getD_getElem?, Array.getElem?_eq_getElem (by have := (Array.getElem?_eq_some_iff.1 ho).1; omega)] at h1 h2
      simp only [Option.getD_some] at h1 h2
      rw [h1] at h2; cases h2
    · have hl := Array.all_eq_true.1 ht i (Array.getElem?_eq_some_iff.1 hi).1
      rw [(Array.getElem?_eq_some_iff.1 hi).2] at hl
      simpa using hl
  | succ f ih =>
    intro n listed a w hs hc hnf hj hsz hdf hcl hsame hhold
    refine ⟨fun h0 => ?_, fun i hi => ?_⟩
    · exfalso
      have hmem : false ∈ listed.toList := List.count_pos_iff.1 (by omega)
      have hex : ∃ i, i < ops.size ∧ listed.getD i true = false := by
        obtain ⟨k, hk, hke⟩ := List.getElem_of_mem hmem
        refine ⟨k, by simpa [hs] using hk, ?_⟩
        rw [Array.getD_eq_getD_getElem?, Array.getElem?_eq_getElem (by simpa using hk)]
        simpa using hke
      obtain ⟨i, ⟨hi, hf⟩, hmin⟩ := exists_least hex
      have hr : i ∈ Region.ready .any ops listed := mem_ready.2 ⟨hf, ops[i], Array.getElem?_eq_getElem hi, fun e he hbe => by
        have hlt := hback' i _ (Array.getElem?_eq_getElem hi) e he hbe
        have := hmin e.on hlt
        rw [Array.getD_eq_getD_getElem?, Array.getElem?_eq_getElem (by omega)] at this ⊢
        simp only [Option.getD_some] at this ⊢
        cases hv : listed[e.on]'(by omega) with
        | true => rfl
        | false => exact absurd ⟨by omega, hv⟩ this⟩
      rw [h0] at hr; cases hr
    · obtain ⟨hun, o, ho, hdeps⟩ := mem_ready.1 hi
      have hil : i < listed.size := by rw [hs]; exact (Array.getElem?_eq_some_iff.1 ho).1
      have hunf : listed.getD i false = false := by
        rw [Array.getD_eq_getD_getElem?, Array.getElem?_eq_getElem hil] at hun ⊢
        simpa using hun
      obtain ⟨hgu, hslot⟩ := plainB_spec hp ho
      unfold wpOp
      simp only [ho]
      rw [if_pos (by simp [Region.wanted, hgu])]
      refine .inl (Oper.wp_mono ?_ (hop i o ho n a w (by omega) hj (fun t ht => hsame t fun j o' hj' hl => ?_) (fun e he hbe => ?_)))
      · rintro a' w' ⟨v, rfl, hj', hS, hF'⟩
        have hother : ∀ j o', ops[j]? = some o' → j ≠ i → slotOf ops j (a.put o.dst v) = slotOf ops j a := by
          intro j o' hj2 hne
          unfold slotOf
          rw [hj2]
          cases ht : o'.dst with
          | none => simp [ht]
          | some t =>
            simp only [Option.bind_some, ht]
            cases hd : o.dst with
            | none => simp [Act.put]
            | some u =>
              rw [getD_put _ _ _ _ (by rw [hsz]; exact hdst' i o u ho hd), if_neg]
              rintro rfl
              exact hslot j o' _ hj2 hne hd ht
        have hget : ∀ j, (listed.setIfInBounds i true).getD j false = true → j = i ∨ listed.getD j false = true := by
          intro j hjl
          by_cases hji : j = i
          · exact .inl hji
          · right
            rw [Array.getD_eq_getD_getElem?, Array.getElem?_setIfInBounds_ne (Ne.symm hji)] at hjl
            rw [Array.getD_eq_getD_getElem?]; exact hjl
        have hget' : ∀ j, listed.getD j false = true → (listed.setIfInBounds i true).getD j false = true := by
          intro j hjl
          by_cases hji : j = i
          · rw [hji] at hjl; rw [hunf] at hjl; cases hjl
          · rw [Array.getD_eq_getD_getElem?, Array.getElem?_setIfInBounds_ne (Ne.symm hji)]
            rw [Array.getD_eq_getD_getElem?] at hjl; exact hjl
        refine ih (n + 1) _ _ _ (by simpa using hs) (by have := count_step listed i hun; omega) (by omega) hj' ?_ ?_ ?_ ?_ ?_
        · unfold Act.put; cases o.dst <;> simp [hsz]
        · unfold Act.put; cases o.dst <;> simp [hdf]
        · intro j oj hoj hl e he hbe
          rcases hget j hl with rfl | hl
          · obtain rfl : oj = o := Option.some.inj (hoj.symm.trans ho)
            exact hget' _ (hdeps e he hbe)
          · exact hget' _ (hcl j oj hoj hl e he hbe)
        · intro t ht
          have hne : o.dst ≠ some t := ht i o ho (by rw [Array.getD_eq_getD_getElem?, Array.getElem?_setIfInBounds_self_of_lt hil]; rfl)
          rw [← hsame t (fun j oj hoj hl => ht j oj hoj (hget' j hl))]
          cases hd : o.dst with
          | none => simp [Act.put]
          | some u =>
            rw [getD_put _ _ _ _ (by rw [hsz]; exact hdst' i o u ho hd), if_neg]
            rintro rfl
            exact hne hd
        · intro j oj hoj hl
          by_cases hji : j = i
          · subst hji
            obtain rfl : oj = o := Option.some.inj (hoj.symm.trans ho)
            have : slotOf ops j (a.put oj.dst v) = if oj.dst.isSome then v else undef := by
              unfold slotOf
              rw [hoj]
              cases hd : oj.dst with
              | none => simp [hd]
              | some u =>
                simp only [Option.bind_some, hd]
                rw [getD_put _ _ _ _ (by rw [hsz]; exact hdst' j oj u hoj hd)]
                simp
            rw [this]; exact hF'
          · rw [hother j oj hoj hji]
            rcases hget j hl with h | hl
            · exact absurd h hji
            · exact hF j _ w w' hS (hhold j oj hoj hl)
      · have h1 := List.all_eq_true.1 ht j (List.mem_range.2 (Array.getElem?_eq_some_iff.1 hj').1)
        simp only [hj', Bool.or_eq_true, bne_iff_ne, beq_iff_eq] at h1
        rcases h1 with (h1 | h1) | h1
        · exact h1
        · subst h1; rw [hunf] at hl; cases hl
        · obtain ⟨o2, ho2, x, hx, hxb, hon⟩ := Region.waitsFor_spec h1
          obtain rfl : o2 = o' := Option.some.inj (ho2.symm.trans hj')
          have := hcl j o2 hj' hl x hx hxb
          rw [hon, hunf] at this; cases this
      · have hd := hdeps e he hbe
        have hlt := hback' i o ho e he hbe
        exact hhold e.on ops[e.on] (Array.getElem?_eq_getElem (by have := (Array.getElem?_eq_some_iff.1 ho).1; omega)) hd
end
end Go.Proofs.YtachfmlfmpaddaaGreatDoor

/- Walks: bounds and prints. -/
namespace Go.Proofs.YtachfmlfmpaddaaGreatDoor
open Go.RowKit

theorem inB_no {n lo hi : Int} (h : inB n lo hi = false) : n < lo ∨ hi < n := by simp [inB] at h; omega
end Go.Proofs.YtachfmlfmpaddaaGreatDoor

/- Plain facts on caches of prints. No program in sight. -/
namespace Go.Proofs.YtachfmlfmpaddaaGreatDoor
open Go.RowKit

/-- All different. -/
def nodupI : List Int → Bool
  | [] => true
  | x :: r => !hasI r x && nodupI r
theorem nodupI_iff : ∀ l : List Int, nodupI l = true ↔ l.Nodup
  | [] => by simp [nodupI]
  | x :: r => by simp [nodupI, nodupI_iff r, hasI]
theorem nodupI_succ {l : List Int} {x : Int} {k : Nat} (h : l[k]? = some x) : nodupI (l.take (k + 1)) = (nodupI (l.take k) && !hasI (l.take k) x) := by
  rw [Bool.eq_iff_iff, Bool.and_eq_true, nodupI_iff, nodupI_iff, take_snoc' h]
  simp [List.nodup_append, hasI]
  intro _
  constructor
  · intro h1 h2; exact h1 x h2 rfl
  · intro h1 a ha he; exact h1 (he ▸ ha)
theorem nodupI_no {l : List Int} {x : Int} {k : Nat} (h : l[k]? = some x) (hh : hasI (l.take k) x = true) : nodupI l = false := by
  cases hn : nodupI l
  · rfl
  · exfalso
    have h1 := (nodupI_iff l).1 hn
    rw [← List.take_append_drop k l] at h1
    have h2 := (List.nodup_append.1 h1).2.2 x (hasI_iff.1 hh) x (by
      have := List.drop_eq_getElem_cons (l := l) (i := k) (List.getElem?_eq_some_iff.1 h).1
      rw [this, (List.getElem?_eq_some_iff.1 h).2]
      simp)
    exact h2 rfl

/-- A valid cache: so many prints at most, all different. -/
def keepOk (l : List Int) : Bool := l.all pv && nodupI l
def cacheOk (m : Int) (l : List Int) : Bool := inB m 1 8 && decide ((l.length : Int) ≤ m) && keepOk l
theorem keepOk_succ {l : List Int} {x : Int} {k : Nat} (h : l[k]? = some x) (hk : keepOk (l.take k) = true) (hp : pv x = true) (hh : hasI (l.take k) x = false) : keepOk (l.take (k + 1)) = true := by
  unfold keepOk at *
  rw [all_succ pv h, nodupI_succ h, hh, hp]
  simpa using hk
theorem keepOk_no1 {l : List Int} {x : Int} {k : Nat} (h : l[k]? = some x) (hp : pv x = false) : keepOk l = false := by simp [keepOk, all_no pv h hp]
theorem keepOk_no2 {l : List Int} {x : Int} {k : Nat} (h : l[k]? = some x) (hh : hasI (l.take k) x = true) : keepOk l = false := by simp [keepOk, nodupI_no h hh]
theorem cacheOk_no {m : Int} {l : List Int} (h : keepOk l = false) : cacheOk m l = false := by simp [cacheOk, h]
theorem cacheOk_in {m : Int} {l : List Int} (h : cacheOk m l = true) : 1 ≤ m ∧ m ≤ 8 ∧ (l.length : Int) ≤ m ∧ l.all pv = true ∧ l.Nodup := by
  simp only [cacheOk, keepOk, Bool.and_eq_true, decide_eq_true_eq] at h
  have := inB_yes h.1.1
  exact ⟨this.1, this.2, h.1.2, h.2.1, (nodupI_iff l).1 h.2.2⟩
theorem cacheOk_of {m : Int} {l : List Int} (h1 : 1 ≤ m) (h2 : m ≤ 8) (h3 : (l.length : Int) ≤ m) (h4 : l.all pv = true) (h5 : l.Nodup) : cacheOk m l = true := by
  simp only [cacheOk, keepOk, Bool.and_eq_true, decide_eq_true_eq]
  exact ⟨⟨inB_iff.2 ⟨h1, h2⟩, h3⟩, h4, (nodupI_iff l).2 h5⟩

/-- What is kept behind a use. -/
def usedKeep (m : Int) (l : List Int) (p : Int) : List Int := (p :: others p l).take m.toNat
def useOk (m : Int) (l : List Int) (p : Int) : Bool := cacheOk m l && pv p
def useMost (m : Int) (l : List Int) (p : Int) : Int := if useOk m l p then m else 0
def useKeep (m : Int) (l : List Int) (p : Int) : List Int := if useOk m l p then usedKeep m l p else []
def useHit (m : Int) (l : List Int) (p : Int) : Bool := useOk m l p && hasI l p
theorem use_off {m p : Int} {l : List Int} (h : useOk m l p = false) : useMost m l p = 0 ∧ useKeep m l p = [] ∧ useHit m l p = false := by simp [useMost, useKeep, useHit, h]
theorem use_on {m p : Int} {l : List Int} (h : useOk m l p = true) : useMost m l p = m ∧ useKeep m l p = usedKeep m l p ∧ useHit m l p = hasI l p := by simp [useMost, useKeep, useHit, h]
theorem use_off1 {m p : Int} {l : List Int} (h : cacheOk m l = false) : useOk m l p = false := by simp [useOk, h]
theorem use_off2 {m p : Int} {l : List Int} (h : pv p = false) : useOk m l p = false := by simp [useOk, h]
theorem use_on_in {m p : Int} {l : List Int} (h : useOk m l p = true) : cacheOk m l = true ∧ pv p = true := by simpa [useOk] using h

theorem others_succ_eq {p x : Int} {l : List Int} {k : Nat} (h : l[k]? = some x) (hx : x = p) : others p (l.take (k + 1)) = others p (l.take k) := by
  unfold others; rw [filter_succ _ h]; simp [hx]
theorem others_succ_ne {p x : Int} {l : List Int} {k : Nat} (h : l[k]? = some x) (hx : x ≠ p) : others p (l.take (k + 1)) = others p (l.take k) ++ [x] := by
  unfold others; rw [filter_succ _ h]; simp [hx]
theorem used_zero {m p : Int} (h : 1 ≤ m) (l : List Int) : usedKeep m (l.take 0) p = [p] := by
  unfold usedKeep others
  obtain ⟨n, hn⟩ : ∃ n, m.toNat = n + 1 := ⟨m.toNat - 1, by omega⟩
  rw [hn]; simp
theorem used_succ_eq {m p x : Int} {l : List Int} {k : Nat} (h : l[k]? = some x) (hx : x = p) : usedKeep m (l.take (k + 1)) p = usedKeep m (l.take k) p := by
  unfold usedKeep; rw [others_succ_eq h hx]
theorem used_succ_lt {m p x : Int} {l : List Int} {k : Nat} (h : l[k]? = some x) (hx : x ≠ p) (hl : ((usedKeep m (l.take k) p).length : Int) < m) : usedKeep m (l.take (k + 1)) p = usedKeep m (l.take k) p ++ [x] := by
  unfold usedKeep at *
  rw [others_succ_ne h hx]
  rw [List.length_take] at hl
  rw [← List.cons_append, List.take_append, List.take_of_length_le (by omega)]
  rw [List.take_of_length_le (show [x].length ≤ _ by simp only [List.length_singleton]; omega)]
theorem used_succ_full {m p x : Int} {l : List Int} {k : Nat} (h : l[k]? = some x) (hx : x ≠ p) (hl : ¬ ((usedKeep m (l.take k) p).length : Int) < m) : usedKeep m (l.take (k + 1)) p = usedKeep m (l.take k) p := by
  unfold usedKeep at *
  rw [others_succ_ne h hx]
  rw [List.length_take] at hl
  rw [← List.cons_append, List.take_append, show m.toNat - (p :: others p (l.take k)).length = 0 by omega]
  simp
theorem used_len {m p : Int} {l : List Int} : (usedKeep m l p).length ≤ m.toNat := by unfold usedKeep; rw [List.length_take]; omega
theorem used_len' {m p : Int} {l : List Int} : (usedKeep m l p).length ≤ l.length + 1 := by
  unfold usedKeep others
  have := List.length_filter_le (· != p) l
  rw [List.length_take]; simp; omega

theorem used_ok {m p : Int} {l : List Int} (h : useOk m l p = true) : cacheOk m (usedKeep m l p) = true := by
  obtain ⟨h1, h2⟩ := use_on_in h
  obtain ⟨c1, c2, c3, c4, c5⟩ := cacheOk_in h1
  refine cacheOk_of c1 c2 (by have := used_len (m := m) (p := p) (l := l); omega) ?_ ?_
  · rw [List.all_eq_true] at c4 ⊢
    intro x hx
    rcases List.mem_cons.1 (List.mem_of_mem_take hx) with rfl | hx
    · exact h2
    · exact c4 x (List.mem_filter.1 hx).1
  · refine List.Nodup.sublist (List.take_sublist _ _) (List.nodup_cons.2 ⟨?_, c5.sublist List.filter_sublist⟩)
    intro hp
    have := (List.mem_filter.1 hp).2
    simp at this
theorem used_first {m p : Int} {l : List Int} (h : 1 ≤ m) : ∃ r, usedKeep m l p = p :: r := by
  unfold usedKeep
  obtain ⟨n, hn⟩ : ∃ n, m.toNat = n + 1 := ⟨m.toNat - 1, by omega⟩
  rw [hn]; exact ⟨_, rfl⟩
theorem others_none {p : Int} {l : List Int} (h : p ∉ l) : others p l = l := by
  unfold others
  rw [List.filter_eq_self]
  intro x hx
  simp only [bne_iff_ne, ne_eq]
  rintro rfl
  exact h hx
theorem used_again {m p : Int} {l : List Int} (h : 1 ≤ m) : usedKeep m (usedKeep m l p) p = usedKeep m l p := by
  obtain ⟨n, hn⟩ : ∃ n, m.toNat = n + 1 := ⟨m.toNat - 1, by omega⟩
  unfold usedKeep
  rw [hn]
  have h1 : others p (p :: (others p l).take n) = (others p l).take n := by
    rw [show others p (p :: (others p l).take n) = others p ((others p l).take n) by simp [others]]
    refine others_none fun hp => ?_
    have := (List.mem_filter.1 (List.mem_of_mem_take hp)).2
    simp at this
  rw [List.take_succ_cons, List.take_succ_cons, h1, List.take_take, Nat.min_self]
theorem use_again {m p : Int} {l : List Int} (h : useOk m l p = true) : useOk m (usedKeep m l p) p = true ∧ useKeep m (usedKeep m l p) p = usedKeep m l p ∧ useHit m (usedKeep m l p) p = true := by
  have h1 : useOk m (usedKeep m l p) p = true := by
    have := (use_on_in h).2
    simp [useOk, used_ok h, this]
  have hm := (cacheOk_in (use_on_in h).1).1
  obtain ⟨r, hr⟩ := used_first (m := m) (p := p) (l := l) hm
  refine ⟨h1, ?_, ?_⟩
  · rw [(use_on h1).2.1]; exact used_again hm
  · rw [(use_on h1).2.2, hr]; simp [hasI]

/-! ### Many uses -/
def runStep (m : Int) (s : List Int × Nat) (p : Int) : List Int × Nat := (usedKeep m s.1 p, s.2 + if hasI s.1 p then 1 else 0)
def runs (m : Int) (ps : List Int) : List Int × Nat := ps.foldl (runStep m) ([], 0)
def runOk (m : Int) (ps : List Int) : Bool := inB m 1 8 && decide (ps.length ≤ 40) && ps.all pv
def runCache (m : Int) (ps : List Int) : Int := if runOk m ps then (runs m ps).2 else -1
theorem run_off {m : Int} {ps : List Int} (h : runOk m ps = false) : runCache m ps = -1 := by simp [runCache, h]
theorem run_on {m : Int} {ps : List Int} (h : runOk m ps = true) : runCache m ps = (runs m ps).2 := by simp [runCache, h]
theorem runs_succ {m p : Int} {ps : List Int} {k : Nat} (h : ps[k]? = some p) : runs m (ps.take (k + 1)) = runStep m (runs m (ps.take k)) p := foldl_succ _ _ h
theorem runs_snoc {m p : Int} {ps : List Int} : runs m (ps ++ [p]) = runStep m (runs m ps) p := by unfold runs; rw [List.foldl_append]; rfl
theorem list_rev {α : Type} {P : List α → Prop} (h0 : P []) (h1 : ∀ l x, P l → P (l ++ [x])) (l : List α) : P l := by
  have : ∀ l : List α, P l.reverse := by
    intro l
    induction l with
    | nil => exact h0
    | cons x r ih => rw [List.reverse_cons]; exact h1 _ _ ih
  simpa using this l.reverse
theorem runs_ok {m : Int} (hm : 1 ≤ m) (hm' : m ≤ 8) (ps : List Int) : ps.all pv = true → cacheOk m (runs m ps).1 = true ∧ (runs m ps).2 ≤ ps.length := by
  refine list_rev (P := fun ps => ps.all pv = true → cacheOk m (runs m ps).1 = true ∧ (runs m ps).2 ≤ ps.length) ?_ ?_ ps
  · intro _
    exact ⟨cacheOk_of hm hm' (by simp [runs]; omega) rfl (by simp [runs]), Nat.zero_le _⟩
  · intro l x ih h
    rw [List.all_append] at h
    simp only [Bool.and_eq_true, List.all_cons, List.all_nil, and_true] at h
    obtain ⟨i1, i2⟩ := ih h.1
    rw [runs_snoc]
    refine ⟨used_ok (by simp [useOk, i1, h.2]), ?_⟩
    simp only [runStep, List.length_append, List.length_singleton]
    split <;> omega

/-- All prints that were used, the last one first. -/
def recent (ps : List Int) : List Int := ps.foldl (fun l p => p :: others p l) []
theorem recent_snoc (ps : List Int) (p : Int) : recent (ps ++ [p]) = p :: others p (recent ps) := by unfold recent; rw [List.foldl_append]; rfl
theorem recent_nodup (ps : List Int) : (recent ps).Nodup := by
  refine list_rev (P := fun ps => (recent ps).Nodup) (by simp [recent]) ?_ ps
  intro l x ih
  rw [recent_snoc]
  refine List.nodup_cons.2 ⟨fun hp => ?_, ih.sublist List.filter_sublist⟩
  have := (List.mem_filter.1 hp).2
  simp at this
theorem others_take (p : Int) : ∀ (l : List Int) (n : Nat), l.Nodup → (others p (l.take (n + 1))).take n = (others p l).take n
  | [], n, _ => by simp [others]
  | x :: t, n, h => by
    have ht := (List.nodup_cons.1 h).2
    by_cases hx : x = p
    · subst hx
      have hp := (List.nodup_cons.1 h).1
      rw [List.take_succ_cons]
      rw [show others x (x :: t.take n) = others x (t.take n) by simp [others], show others x (x :: t) = others x t by simp [others]]
      rw [others_none hp, others_none (fun hh => hp (List.mem_of_mem_take hh)), List.take_take, Nat.min_self]
    · rw [List.take_succ_cons, show others p (x :: t.take n) = x :: others p (t.take n) by simp [others, hx], show others p (x :: t) = x :: others p t by simp [others, hx]]
      cases n with
      | zero => simp
      | succ n => rw [List.take_succ_cons, List.take_succ_cons, others_take p t n ht]
theorem runs_keep {m : Int} (hm : 1 ≤ m) (ps : List Int) : (runs m ps).1 = (recent ps).take m.toNat := by
  refine list_rev (P := fun ps => (runs m ps).1 = (recent ps).take m.toNat) (by simp [runs, recent]) ?_ ps
  intro l x ih
  rw [runs_snoc, recent_snoc]
  obtain ⟨n, hn⟩ : ∃ n, m.toNat = n + 1 := ⟨m.toNat - 1, by omega⟩
  simp only [runStep, usedKeep]
  rw [ih, hn, List.take_succ_cons, List.take_succ_cons, others_take x _ n (recent_nodup l)]
theorem runs_more {m : Int} (hm : 1 ≤ m) (ps : List Int) : (runs m ps).2 ≤ (runs (m + 1) ps).2 := by
  refine list_rev (P := fun ps => (runs m ps).2 ≤ (runs (m + 1) ps).2) (by simp [runs]) ?_ ps
  intro l x ih
  rw [runs_snoc, runs_snoc]
  simp only [runStep]
  rw [runs_keep hm, runs_keep (show 1 ≤ m + 1 by omega)]
  have : hasI ((recent l).take m.toNat) x = true → hasI ((recent l).take (m + 1).toNat) x = true := by
    rw [hasI_iff, hasI_iff]
    intro h
    have : (recent l).take m.toNat = ((recent l).take (m + 1).toNat).take m.toNat := by rw [List.take_take, Nat.min_eq_left (by omega)]
    rw [this] at h
    exact List.mem_of_mem_take h
  by_cases h : hasI ((recent l).take m.toNat) x = true
  · rw [if_pos h, if_pos (this h)]; omega
  · rw [if_neg h]; omega
theorem run_more {m : Int} {ps : List Int} (h : ¬ runCache m ps < 0) (hm : m ≠ 8) : runCache m ps ≤ runCache (m + 1) ps := by
  cases hk : runOk m ps
  · rw [run_off hk] at h; omega
  · have hk' : runOk (m + 1) ps = true := by
      simp only [runOk, Bool.and_eq_true] at hk ⊢
      have := inB_yes hk.1.1
      exact ⟨⟨inB_iff.2 ⟨by omega, by omega⟩, hk.1.2⟩, hk.2⟩
    have h1 : 1 ≤ m := by
      simp only [runOk, Bool.and_eq_true] at hk
      exact (inB_yes hk.1.1).1
    rw [run_on hk, run_on hk']
    have := runs_more h1 ps
    omega
theorem run_le {m : Int} {ps : List Int} : runCache m ps ≤ ps.length := by
  cases hk : runOk m ps
  · rw [run_off hk]; omega
  · rw [run_on hk]
    simp only [runOk, Bool.and_eq_true] at hk
    have := (runs_ok (inB_yes hk.1.1).1 (inB_yes hk.1.1).2 ps hk.2).2
    omega
theorem run_neg {m : Int} {ps : List Int} (h : runCache m ps < 0) : runCache m ps = -1 := by
  cases hk : runOk m ps
  · exact run_off hk
  · rw [run_on hk] at h; omega

end Go.Proofs.YtachfmlfmpaddaaGreatDoor

/- Walks of the exact laws' own helpers at slices of numbers and bools: copies, comparisons, marks. -/
namespace Go.Proofs.YtachfmlfmpaddaaGreatDoor
open Go.RowKit


theorem marks_len (k : Int) (n : Nat) : (marks k n).length = n := by simp [marks]
theorem marks_get (k : Int) (n j : Nat) (h : j < n) : (marks k n)[j]? = some (k + j) := by simp [marks, h]
theorem marks_cell (k : Int) (n j : Nat) (h : j < n) : ((marks k n).flatMap encI)[j]? = some (.int .i64 (k + j)) := by
  have := flatMap_get (enc := encI) (fun _ => rfl) (marks k n) j 0 _ _ (marks_get k n j h) rfl
  simpa using this
theorem flat_len1 {α : Type} (f : α → Value) (xs : List α) : (xs.flatMap fun x => [f x]).length = xs.length := by rw [← List.map_eq_flatMap, List.length_map]



def EqPost (r : Bool) (w : World) (e : Ending) (w' : World) : Prop := e = .returned (.bool r) ∧ ∃ n, w' = w.drewN n




end Go.Proofs.YtachfmlfmpaddaaGreatDoor

/- A region that draws its order and has guards that all let through, held by an invariant. No program in sight. -/
namespace Go.Proofs.YtachfmlfmpaddaaGreatDoor
open Go.RowKit

section
variable {P : Program} {ops : Array Oper}
theorem wp_region_inv2g {id : Nat} {Q : Exit → Act → World → Prop} {a0 : Act} {w0 : World} (hm : P.follows .mixedOrders = true) (hp : plainG ops = true) (hgB : guardB ops = true) (hback : backB ops = true) (hptr : ptrB ops = true)
    (hdst : (ops.all fun o => match o.dst with | some t => decide (t < a0.tmps.size) | none => true) = true)
    (J : Nat → World → Prop) (S : World → World → Prop) (F : Nat → Value → World → Prop) (hJ : J 0 w0.drew) (hF : ∀ i v w w', S w w' → F i v w → F i v w')
    (hgrd : ∀ (i : Nat) (o : Oper) (d : Nat) (b : Bool), ops[i]? = some o → o.guard = some (d, b) → ∀ v w, F d v w → v = .bool b)
    (hop : ∀ (i : Nat) (o : Oper), ops[i]? = some o → ∀ (n : Nat) (a : Act) (w : World), n < ops.size → J n w →
      (∀ t, freshB ops i t = true → a.tmps.getD t undef = a0.tmps.getD t undef) →
      (∀ e ∈ o.after, Region.binds .any e = true → F e.on (slotOf2 ops e.on a) w) →
      o.wp P a w (fun a' w' => ∃ v, a' = a.put o.dst v ∧ J (n + 1) w' ∧ S w w' ∧ F i (if o.dst.isSome then v else slotOf2 ops i a) w') Q)
    (hend : ∀ (a : Act) (w : World), J ops.size w → a.tmps.size = a0.tmps.size → a.defers = a0.defers → (∀ t, looseB ops t = true → a.tmps.getD t undef = a0.tmps.getD t undef) → (∀ (i : Nat) (o : Oper), ops[i]? = some o → F i (slotOf2 ops i a) w) → Q .normal a w) :
    (Code.region id ops true).wp P Q a0 w0 := by
  refine wp_region_any hm ?_
  have hdst' : ∀ (i : Nat) (o : Oper) (t : Tmp), ops[i]? = some o → o.dst = some t → t < a0.tmps.size := by
    intro i o t hi ht
    have hlt := (Array.getElem?_eq_some_iff.1 hi)
    obtain ⟨hlt, he⟩ := hlt
    have h1 := Array.all_eq_true.1 hdst i hlt
    rw [he, ht] at h1
    exact of_decide_eq_true h1
  have hback' : ∀ (i : Nat) (o : Oper), ops[i]? = some o → ∀ e ∈ o.after, Region.binds .any e = true → e.on < i := by
    intro i o hi e he hbe
    have h1 := List.all_eq_true.1 hback i (List.mem_range.2 (Array.getElem?_eq_some_iff.1 hi).1)
    simp only [hi] at h1
    obtain ⟨k, hk, hke⟩ := Array.getElem_of_mem he
    have h2 := Array.all_eq_true.1 h1 k hk
    rw [hke, hbe] at h2
    exact of_decide_eq_true (by simpa using h2)
  suffices H : ∀ (f n : Nat) (listed : Array Bool) (a : Act) (w : World), listed.size = ops.size → listed.toList.count false = f → n + f = ops.size → J n w → a.tmps.size = a0.tmps.size → a.defers = a0.defers →
      (∀ j o, ops[j]? = some o → listed.getD j false = true → ∀ e ∈ o.after, Region.binds .any e = true → listed.getD e.on false = true) →
      (∀ t, (∀ (i : Nat) (o : Oper), ops[i]? = some o → listed.getD i false = true → o.dst ≠ some t) → a.tmps.getD t undef = a0.tmps.getD t undef) →
      (∀ (i : Nat) (o : Oper), ops[i]? = some o → listed.getD i false = true → F i (slotOf2 ops i a) w) → wpAny P .any ops Q f listed a w by
    refine H _ 0 _ _ _ (by simp) (by simp) (by simp) hJ rfl rfl ?_ ?_ ?_
    · intro j o _ h; rw [getD_replicate_false] at h; cases h
    · intro t _; rfl
    · intro i o _ h; rw [getD_replicate_false] at h; cases h
  intro f
  induction f with
  | zero =>
    intro n listed a w hs hc hnf hj hsz hdf _ hsame hhold
    obtain rfl : n = ops.size := by omega
    have hall : ∀ i, i < ops.size → listed.getD i false = true := by
      intro i hi
      have hnot : false ∉ listed.toList := List.count_eq_zero.1 hc
      rw [Array.getD_eq_getD_getElem?, Array.getElem?_eq_getElem (by omega)]
      simp only [Option.getD_some]
      cases hv : listed[i]'(by omega) with
      | true => rfl
      | false => exact absurd (by rw [← hv]; simp) hnot
    refine ⟨?_, hend a w hj hsz hdf (fun t ht => hsame t fun i o hi _ => ?_) (fun i o hi => hhold i o hi (hall i (Array.getElem?_eq_some_iff.1 hi).1))⟩
    · rw [List.eq_nil_iff_forall_not_mem]
      intro i hi
      obtain ⟨h1, o, ho, _⟩ := mem_ready.1 hi
      have h2 := hall i (Array.getElem?_eq_some_iff.1 ho).1
      rw [Array.getD_eq_getD_getElem?, Array.getElem?_eq_getElem (by have := (Array.getElem?_eq_some_iff.1 ho).1; omega)] at h1 h2
      simp only [Option.getD_some] at h1 h2
      rw [h1] at h2; cases h2
    · have hl := Array.all_eq_true.1 ht i (Array.getElem?_eq_some_iff.1 hi).1
      rw [(Array.getElem?_eq_some_iff.1 hi).2] at hl
      simpa using hl
  | succ f ih =>
    intro n listed a w hs hc hnf hj hsz hdf hcl hsame hhold
    refine ⟨fun h0 => ?_, fun i hi => ?_⟩
    · exfalso
      have hmem : false ∈ listed.toList := List.count_pos_iff.1 (by omega)
      have hex : ∃ i, i < ops.size ∧ listed.getD i true = false := by
        obtain ⟨k, hk, hke⟩ := List.getElem_of_mem hmem
        refine ⟨k, by simpa [hs] using hk, ?_⟩
        rw [Array.getD_eq_getD_getElem?, Array.getElem?_eq_getElem (by simpa using hk)]
        simpa using hke
      obtain ⟨i, ⟨hi, hf⟩, hmin⟩ := exists_least hex
      have hr : i ∈ Region.ready .any ops listed := mem_ready.2 ⟨hf, ops[i], Array.getElem?_eq_getElem hi, fun e he hbe => by
        have hlt := hback' i _ (Array.getElem?_eq_getElem hi) e he hbe
        have := hmin e.on hlt
        rw [Array.getD_eq_getD_getElem?, Array.getElem?_eq_getElem (by omega)] at this ⊢
        simp only [Option.getD_some] at this ⊢
        cases hv : listed[e.on]'(by omega) with
        | true => rfl
        | false => exact absurd ⟨by omega, hv⟩ this⟩
      rw [h0] at hr; cases hr
    · obtain ⟨hun, o, ho, hdeps⟩ := mem_ready.1 hi
      have hil : i < listed.size := by rw [hs]; exact (Array.getElem?_eq_some_iff.1 ho).1
      have hunf : listed.getD i false = false := by
        rw [Array.getD_eq_getD_getElem?, Array.getElem?_eq_getElem hil] at hun ⊢
        simpa using hun
      have hslot := plainG_spec hp ho
      have hwant : Region.wanted o (yielded ops a.tmps) = true := by
        unfold Region.wanted
        cases hgd : o.guard with
        | none => rfl
        | some db =>
          obtain ⟨d, b⟩ := db
          obtain ⟨e, he, hed, hbe, od, hod, t, ht⟩ := guardB_spec hgB ho hgd
          have hl := hdeps e he hbe
          rw [hed] at hl
          have hv := hgrd i o d b ho hgd _ _ (hhold d od hod hl)
          have hs2 : slotOf2 ops d a = a.tmps.getD t undef := by unfold slotOf2; rw [hod]; simp [refOf, ht]
          rw [hs2] at hv
          have hy : yielded ops a.tmps d = some b := by
            unfold yielded
            rw [hod]
            simp only [Option.bind_some, ht]
            rw [Array.getD_eq_getD_getElem?] at hv
            cases hx : a.tmps[t]? with
            | none => rw [hx] at hv; simp [undef] at hv
            | some x => rw [hx] at hv; simp at hv; rw [hv]
          simp [hy]
      unfold wpOp
      simp only [ho]
      rw [if_pos hwant]
      refine .inl (Oper.wp_mono ?_ (hop i o ho n a w (by omega) hj (fun t ht => hsame t fun j o' hj' hl => ?_) (fun e he hbe => ?_)))
      · rintro a' w' ⟨v, rfl, hj', hS, hF'⟩
        have hother : ∀ j o', ops[j]? = some o' → j ≠ i → listed.getD j false = true → slotOf2 ops j (a.put o.dst v) = slotOf2 ops j a := by
          intro j o' hj2 hne hl
          unfold slotOf2
          rw [hj2]
          simp only [Option.bind_some]
          cases ht : refOf o' with
          | none => simp
          | some t =>
            simp only
            cases hd : o.dst with
            | none => simp [Act.put]
            | some u =>
              rw [getD_put _ _ _ _ (by rw [hsz]; exact hdst' i o u ho hd), if_neg]
              rintro rfl
              cases hod : o'.dst with
              | some t' =>
                simp only [refOf, hod, Option.some.injEq] at ht
                subst ht
                exact hslot j o' _ hj2 hne hd hod
              | none =>
                simp only [refOf, hod] at ht
                rcases ptrB_spec hptr hj2 hod ht with hall | ⟨e, he, hbe, o2, ho2, hd2⟩
                · exact hall i o ho hd
                · have hle := hcl j o' hj2 hl e he hbe
                  have hei : e.on ≠ i := by rintro h; rw [h, hunf] at hle; cases hle
                  exact hslot e.on o2 _ ho2 hei hd hd2
        have hget : ∀ j, (listed.setIfInBounds i true).getD j false = true → j = i ∨ listed.getD j false = true := by
          intro j hjl
          by_cases hji : j = i
          · exact .inl hji
          · right
            rw [Array.getD_eq_getD_getElem?, Array.getElem?_setIfInBounds_ne (Ne.symm hji)] at hjl
            rw [Array.getD_eq_getD_getElem?]; exact hjl
        have hget' : ∀ j, listed.getD j false = true → (listed.setIfInBounds i true).getD j false = true := by
          intro j hjl
          by_cases hji : j = i
          · rw [hji] at hjl; rw [hunf] at hjl; cases hjl
          · rw [Array.getD_eq_getD_getElem?, Array.getElem?_setIfInBounds_ne (Ne.symm hji)]
            rw [Array.getD_eq_getD_getElem?] at hjl; exact hjl
        refine ih (n + 1) _ _ _ (by simpa using hs) (by have := count_step listed i hun; omega) (by omega) hj' ?_ ?_ ?_ ?_ ?_
        · unfold Act.put; cases o.dst <;> simp [hsz]
        · unfold Act.put; cases o.dst <;> simp [hdf]
        · intro j oj hoj hl e he hbe
          rcases hget j hl with rfl | hl
          · obtain rfl : oj = o := Option.some.inj (hoj.symm.trans ho)
            exact hget' _ (hdeps e he hbe)
          · exact hget' _ (hcl j oj hoj hl e he hbe)
        · intro t ht
          have hne : o.dst ≠ some t := ht i o ho (by rw [Array.getD_eq_getD_getElem?, Array.getElem?_setIfInBounds_self_of_lt hil]; rfl)
          rw [← hsame t (fun j oj hoj hl => ht j oj hoj (hget' j hl))]
          cases hd : o.dst with
          | none => simp [Act.put]
          | some u =>
            rw [getD_put _ _ _ _ (by rw [hsz]; exact hdst' i o u ho hd), if_neg]
            rintro rfl
            exact hne hd
        · intro j oj hoj hl
          by_cases hji : j = i
          · subst hji
            obtain rfl : oj = o := Option.some.inj (hoj.symm.trans ho)
            have : slotOf2 ops j (a.put oj.dst v) = if oj.dst.isSome then v else slotOf2 ops j a := by
              cases hd : oj.dst with
              | none => simp [Act.put]
              | some u =>
                unfold slotOf2
                rw [hoj]
                simp only [Option.bind_some, refOf, hd]
                rw [getD_put _ _ _ _ (by rw [hsz]; exact hdst' j oj u hoj hd)]
                simp
            rw [this]; exact hF'
          · rcases hget j hl with h | hl
            · exact absurd h hji
            · rw [hother j oj hoj hji hl]
              exact hF j _ w w' hS (hhold j oj hoj hl)
      · have h1 := List.all_eq_true.1 ht j (List.mem_range.2 (Array.getElem?_eq_some_iff.1 hj').1)
        simp only [hj', Bool.or_eq_true, bne_iff_ne, beq_iff_eq] at h1
        rcases h1 with (h1 | h1) | h1
        · exact h1
        · subst h1; rw [hunf] at hl; cases hl
        · obtain ⟨o2, ho2, x, hx, hxb, hon⟩ := Region.waitsFor_spec h1
          obtain rfl : o2 = o' := Option.some.inj (ho2.symm.trans hj')
          have := hcl j o2 hj' hl x hx hxb
          rw [hon, hunf] at this; cases this
      · have hd := hdeps e he hbe
        have hlt := hback' i o ho e he hbe
        exact hhold e.on ops[e.on] (Array.getElem?_eq_getElem (by have := (Array.getElem?_eq_some_iff.1 ho).1; omega)) hd

theorem wp_region_inv3g {id : Nat} {Q : Exit → Act → World → Prop} {a0 : Act} {w0 : World} (hm : P.follows .mixedOrders = true) (hp : plainG ops = true) (hgB : guardB ops = true) (hback : backB ops = true) (hptr : ptrB ops = true)
    (hdst : (ops.all fun o => match o.dst with | some t => decide (t < a0.tmps.size) | none => true) = true)
    (J : Nat → World → Prop) (S : World → World → Prop) (F : Nat → Value → World → Prop) (hJ : J 0 w0.drew) (hF : ∀ i v w w', S w w' → F i v w → F i v w')
    (hgrd : ∀ (i : Nat) (o : Oper) (d : Nat) (b : Bool), ops[i]? = some o → o.guard = some (d, b) → ∀ v w, F d v w → v = .bool b)
    (hop : ∀ (i : Nat) (o : Oper), ops[i]? = some o → ∀ (n : Nat) (a : Act) (w : World), n < ops.size → J n w →
      (∀ t, freshB ops i t = true → a.tmps.getD t undef = a0.tmps.getD t undef) →
      (∀ e ∈ o.after, Region.binds .any e = true → F e.on (slotOf2 ops e.on a) w) →
      o.wp P a w (fun a' w' => ∃ v, a' = a.put o.dst v ∧ J (n + 1) w' ∧ S w w' ∧ F i (if o.dst.isSome then v else slotOf2 ops i a) w') Q)
    (hend : ∀ (tm : Array Value) (w : World), J ops.size w → (∀ (i : Nat) (o : Oper), ops[i]? = some o → F i (slotOf2 ops i ⟨tm, a0.defers⟩) w) → Q .normal ⟨refillL ops.toList a0.tmps tm, a0.defers⟩ w) :
    (Code.region id ops true).wp P Q a0 w0 := by
  refine wp_region_inv2g hm hp hgB hback hptr hdst J S F hJ hF hgrd hop ?_
  rintro ⟨tm, df⟩ w hj hsz hdf hb hFF
  obtain rfl : df = a0.defers := hdf
  have e := refill_eq hsz hb
  have := hend tm w hj hFF
  rw [← e] at this
  exact this

end
end Go.Proofs.YtachfmlfmpaddaaGreatDoor
