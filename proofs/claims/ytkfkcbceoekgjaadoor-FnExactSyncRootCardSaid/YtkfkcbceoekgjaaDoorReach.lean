/- Walks: what roots reach, the program's way. -/
import Derived.Test.YtkfkcbceoekgjaaDoorReachP
import Derived.Test.YtkfkcbceoekgjaaDoorWant
import Derived.Deep.LoopGhost
import Derived.WalkSmall
import Derived.OneCell
namespace Go.Proofs.YtkfkcbceoekgjaaDoor
open Go.RowKit

/-- From a world to another one all blocks stay but some. -/
structure Frm (S : Nat → Prop) (w w' : World) : Prop where
  os : w'.os = w.os
  tape : w'.tape = w.tape
  output : w'.output = w.output
  size : w.heap.size ≤ w'.heap.size
  block : ∀ k, k < w.heap.size → ¬ S k → w'.heap[k]? = w.heap[k]?
theorem Frm.refl (S : Nat → Prop) (w : World) : Frm S w w := ⟨rfl, rfl, rfl, Nat.le_refl _, fun _ _ _ => rfl⟩
theorem Frm.below {S : Nat → Prop} {w w' : World} {B : Nat} (h : Frm S w w') (hS : ∀ k, S k → B ≤ k) (hB : B ≤ w.heap.size) : Below B w w' :=
  ⟨h.os, h.tape, h.output, h.size, fun k hk => h.block k (by omega) (fun e => by have := hS k e; omega)⟩
theorem Frm.of_below {S : Nat → Prop} {w w' : World} (h : Below w.heap.size w w') : Frm S w w' := ⟨h.os, h.tape, h.output, h.size, fun k hk _ => h.block k hk⟩
theorem Frm.of_grown {S : Nat → Prop} {w w' : World} {row : Option Nat} (h : w.grownBy w' row) (hr : ∀ g, row = some g → S g) : Frm S w w' :=
  ⟨h.os, h.tape, h.output, h.size, fun k hk hn => h.block k hk (fun e => hn (hr k e.symm))⟩
theorem Frm.set {S : Nat → Prop} {w : World} {g i : Nat} (hS : S g) (v : Value) : Frm S w (w.setCell ⟨g, i, none⟩ v) := by
  have h : Below g w (w.setCell ⟨g, i, none⟩ v) := (Below.refl g w).setCell (Nat.le_refl _) v
  exact ⟨h.os, h.tape, h.output, h.size, fun k _ hn => Below.heap_setCell _ _ _ _ (fun e => hn (by rw [e]; exact hS))⟩
theorem Frm.trans {S S' : Nat → Prop} {a b c : World} (h : Frm S a b) (k : Frm S' b c) (hs : ∀ x, x < a.heap.size → S' x → S x) : Frm S a c :=
  ⟨k.os.trans h.os, k.tape.trans h.tape, k.output.trans h.output, Nat.le_trans h.size k.size, fun x hx hn => (k.block x (Nat.lt_of_lt_of_le hx h.size) (fun e => hn (hs x hx e))).trans (h.block x hx hn)⟩

theorem Frm.mono {S S' : Nat → Prop} {w w' : World} (h : Frm S w w') (hs : ∀ k, S k → S' k) : Frm S' w w' := ⟨h.os, h.tape, h.output, h.size, fun k hk hn => h.block k hk (fun e => hn (hs k e))⟩
theorem Own.frm {α : Type} {enc : α → List Value} {e k B : Nat} {S : Nat → Prop} {w w' : World} {v : Value} {xs : List α} (h : Own enc e k w B v xs) (hf : Frm S w w') (hne : ∀ g, v.ownBlock = some g → ¬ S g) : Own enc e k w' B v xs := by
  refine ⟨h.1, ?_⟩
  rcases h.2 with h2 | ⟨g, cap, cur, hv, hg, hh, r⟩
  · exact .inl h2
  · exact .inr ⟨g, cap, cur, hv, hg, (hf.block g (lt_of_block hh) (hne g (by rw [hv]; rfl))).trans hh, r⟩
theorem set_flatB (xs : List Bool) (i : Nat) (z : Bool) : (xs.flatMap encB).set i (.bool z) = (xs.set i z).flatMap encB := by
  unfold encB
  rw [← List.map_eq_flatMap, ← List.map_eq_flatMap, List.map_set]

abbrev nats (l : List Nat) : List Int := l.map fun (i : Nat) => (i : Int)

/-- The variables that the closure shares with its maker: the store, the marks, what is to be looked at. -/
structure RVars (w : World) (g0 g1 g2 g3 : Nat) (a : Option Addr) (n c : Nat) (A : List Bool) (tv : Value) (todo : List Nat) : Prop where
  vs : w.heap[g0]? = some (.cells #[.slice a n c] 26 (0, 0))
  vr : w.heap[g2]? = some (.cells #[.slice (some ⟨g1, 0, none⟩) n n] 65 (0, 0))
  row : OwnB w g1 (.slice (some ⟨g1, 0, none⟩) n n) A
  vt : w.heap[g3]? = some (.cells #[tv] 24 (0, 0))
  own : OwnI w (g3 + 1) tv (nats todo)
  lt : g0 < g1 ∧ g1 < g2 ∧ g2 < g3

theorem RVars.on {w w' : World} {g0 g1 g2 g3 : Nat} {a : Option Addr} {n c : Nat} {A : List Bool} {tv : Value} {todo : List Nat} (h : RVars w g0 g1 g2 g3 a n c A tv todo) (hb : Below w.heap.size w w') : RVars w' g0 g1 g2 g3 a n c A tv todo :=
  ⟨(hb.block _ (lt_of_block h.vs)).trans h.vs, (hb.block _ (lt_of_block h.vr)).trans h.vr, h.row.on hb, (hb.block _ (lt_of_block h.vt)).trans h.vt, h.own.on hb, h.lt⟩

set_option maxHeartbeats 2000000 in
set_option maxRecDepth 100000 in
theorem reach_no_c (g0 g1 g2 g3 n c : Nat) (a : Option Addr) (xs : List Pc) (y : Int) (A : List Bool) (tv : Value) (todo : List Nat) (w : World) (h : Pcs w w.heap.size (.slice a n c) xs) (hs : storeOk xs = true) (hn : xs.length = n) (hA : A.length = n)
    (hv : RVars w g0 g1 g2 g3 a n c A tv todo) (hno : ¬ (hasP xs y = true ∧ A[findAt xs y]? = some false)) :
    Calls Tryd.prog 66 #[.int .i64 y, .pointer (some ⟨g0, 0, none⟩), .pointer (some ⟨g2, 0, none⟩), .pointer (some ⟨g3, 0, none⟩)] w fun e w' => e = .returned (.tuple #[]) ∧ Below w.heap.size w w' := by
  have c0 := cell_of_one hv.vs
  have HV := hid hv
  have HS := hid hs
  have HN := hid hn
  have HA := hid hA
  cases hp : hasP xs y
  · have HP := hid hp
    clear hv hs hn hA hno hp
    go_enter Tryd.func66, Tryd.ntmps66
    go_wp2_with fail
    refine (impl_findPiece_c _ xs y _ h HS.out).mono ?_
    rw [HP.out]
    rintro e w1 ⟨rfl, b1⟩
    go_wp2
    go_end0
    exact ⟨rfl, b1⟩
  · obtain ⟨x, hx, hxy⟩ := has_spot hs hp
    obtain ⟨i, hi⟩ : ∃ i, findAt xs y = i := ⟨_, rfl⟩
    rw [hi] at hx hno
    have hin : i < n := by have := (List.getElem?_eq_some_iff.1 hx).1; omega
    have hAi : A[i]? = some true := by
      rw [List.getElem?_eq_getElem (by omega)]
      cases hb : A[i]'(by omega) with
      | true => rfl
      | false => exact absurd ⟨hp, by rw [List.getElem?_eq_getElem (by omega), hb]⟩ hno
    have HP := hid hp
    have HI := hid hi
    have HAi := hid hAi
    clear hv hs hn hA hno hp hx hxy hi hAi
    go_enter Tryd.func66, Tryd.ntmps66
    go_wp2_with fail
    refine (impl_findPiece_c _ xs y _ h HS.out).mono ?_
    rw [HP.out, HI.out]
    rintro e w1 ⟨rfl, b1⟩
    have hv1 := HV.out.on b1
    have c2 := cell_of_one hv1.vr
    have d1 : w1.cell? ⟨g1, i, none⟩ = some (.bool true) := by
      have hR := hv1.row
      unfold OwnB Own at hR
      rw [HA.out] at hR
      have := flatMap_get (enc := encB) (fun _ => rfl) A i 0 _ _ HAi.out rfl
      exact (hR.cellAt i (by omega)).trans (by simpa using this)
    clear hv1
    go_wp2
    go_end0
    exact ⟨rfl, b1⟩

set_option maxHeartbeats 2000000 in
set_option maxRecDepth 100000 in
theorem reach_yes_c (g0 g1 g2 g3 n c : Nat) (a : Option Addr) (xs : List Pc) (y : Int) (A : List Bool) (tv : Value) (todo : List Nat) (w : World) (h : Pcs w w.heap.size (.slice a n c) xs) (hs : storeOk xs = true) (hn : xs.length = n) (hA : A.length = n)
    (hv : RVars w g0 g1 g2 g3 a n c A tv todo) (ht : todo.length ≤ 1000) (hp : hasP xs y = true) (hAi : A[findAt xs y]? = some false) :
    Calls Tryd.prog 66 #[.int .i64 y, .pointer (some ⟨g0, 0, none⟩), .pointer (some ⟨g2, 0, none⟩), .pointer (some ⟨g3, 0, none⟩)] w fun e w' => e = .returned (.tuple #[]) ∧
      ∃ tv', RVars w' g0 g1 g2 g3 a n c (A.set (findAt xs y) true) tv' (todo ++ [findAt xs y]) ∧ Frm (fun k => k = g1 ∨ k = g3 ∨ tv.ownBlock = some k) w w' ∧ (∀ g, tv'.ownBlock = some g → tv.ownBlock = some g ∨ w.heap.size ≤ g) := by
  have c0 := cell_of_one hv.vs
  have HV := hid hv
  have HS := hid hs
  have HA := hid hA
  have HT := hid ht
  obtain ⟨i, hi⟩ : ∃ i, findAt xs y = i := ⟨_, rfl⟩
  rw [hi] at hAi ⊢
  have hin : i < n := by have := (List.getElem?_eq_some_iff.1 hAi).1; omega
  have HP := hid hp
  have HI := hid hi
  have HAi := hid hAi
  clear hv hs hn hA hp hi hAi ht
  go_enter Tryd.func66, Tryd.ntmps66
  go_wp2_with fail
  refine (impl_findPiece_c _ xs y _ h HS.out).mono ?_
  rw [HP.out, HI.out]
  rintro e w1 ⟨rfl, b1⟩
  have HV1 := hid (HV.out.on b1)
  have c2 := cell_of_one HV1.out.vr
  have hR : w1.ownsRow g1 4 1 (.slice (some ⟨g1, 0, none⟩) n n) n (A.flatMap encB) := by
    have := HV1.out.row
    unfold OwnB Own at this
    rw [HA.out] at this
    exact this
  have d1 : w1.cell? ⟨g1, i, none⟩ = some (.bool false) := by
    have := flatMap_get (enc := encB) (fun _ => rfl) A i 0 _ _ HAi.out rfl
    exact (hR.cellAt i (by omega)).trans (by simpa using this)
  have f1 : w1.frozen? ⟨g1, i, none⟩ = false := hR.frozenAt i
  have hst := hid (hR.stored i (.bool true))
  obtain ⟨l1, l2, l3⟩ := HV1.out.lt
  have L1 := hid l1
  have L2 := hid l2
  have L3 := hid l3
  obtain ⟨W2, hW2⟩ : ∃ W2, W2 = w1.setCell ⟨g1, i, none⟩ (.bool true) := ⟨_, rfl⟩
  have F2 : Frm (fun k => k = g1) w1 W2 := by rw [hW2]; exact Frm.set (S := fun k => k = g1) rfl _
  have hown2 : OwnI W2 (g3 + 1) tv (nats todo) := by
    rw [hW2]
    exact ownsRow_setCell_below HV1.out.own (by show g1 < g3 + 1; omega) _
  have vt2 : W2.heap[g3]? = some (.cells #[tv] 24 (0, 0)) := (F2.block _ (lt_of_block HV1.out.vt) (by omega)).trans HV1.out.vt
  have e2 : (w1.setCell ⟨g1, i, none⟩ (.bool true)).cell? ⟨g3, 0, none⟩ = some tv := by rw [← hW2]; exact cell_of_one vt2
  have hb2 := Below.refl (g3 + 1) W2
  have hs2 : g3 + 1 ≤ W2.heap.size := lt_of_block vt2
  have HR2 := hid hst.out.1
  clear hR l1 l2 l3 hst
  go_wp2_with (at_builtin; rw [← hW2]; refine push_int (w0 := W2) rfl _ _ rfl (g3 + 1) (g3 + 1) tv (nats todo) i hown2 hb2 hs2 (Nat.le_refl _) rfl (by rw [hW2]; simp [Act.eval]) (by have := HT.out; simp; omega) ?_; intro v' w' hown' hb' hB' hg'; have vt3 : w'.heap[g3]? = some (.cells #[tv] 24 (0, 0)) := (hb'.block g3 (by omega)).trans vt2; have c3 := cell_of_one vt3; have f3 := free_of_one vt3; obtain ⟨a5, c5, hv5, _, _, _⟩ := (Rd.of_own hown').ints (n := todo.length + 1) (by simp [nats]); subst hv5)
  go_end0
  have tvl : ∀ g, tv.ownBlock = some g → g3 + 1 ≤ g := fun g hg => (HV1.out.own.lt g hg).1
  have F3 : Frm (fun k => tv.ownBlock = some k) W2 w' := Frm.of_grown hg'.1 (fun g h => h)
  have F4 : Frm (fun k => k = g3) w' (w'.setCell ⟨g3, 0, none⟩ (.slice a5 (todo.length + 1) c5)) := Frm.set (S := fun k => k = g3) rfl _
  have l1 := L1.out
  have l2 := L2.out
  have l3 := L3.out
  have F : Frm (fun k => k = g1 ∨ k = g3 ∨ tv.ownBlock = some k) w (w'.setCell ⟨g3, 0, none⟩ (.slice a5 (todo.length + 1) c5)) :=
    (Frm.of_below b1).trans ((F2.mono (S' := fun k => k = g1 ∨ k = g3 ∨ tv.ownBlock = some k) (fun k e => .inl e)).trans ((F3.mono (S' := fun k => k = g1 ∨ k = g3 ∨ tv.ownBlock = some k) (fun k e => .inr (.inr e))).trans (F4.mono (S' := fun k => k = g1 ∨ k = g3 ∨ tv.ownBlock = some k) (fun k e => .inr (.inl e))) (fun _ _ e => e)) (fun _ _ e => e)) (fun _ _ e => e)
  refine ⟨rfl, _, ⟨?_, ?_, ?_, one_setCell vt3, ?_, HV.out.lt⟩, F, fun g hg => ?_⟩
  · refine (F.block g0 (lt_of_block HV.out.vs) ?_).trans HV.out.vs
    rintro (e | e | e)
    · omega
    · omega
    · have := tvl _ e; omega
  · refine (F.block g2 (lt_of_block HV.out.vr) ?_).trans HV.out.vr
    rintro (e | e | e)
    · omega
    · omega
    · have := tvl _ e; omega
  · have hR := HR2.out
    rw [set_flatB, ← hW2] at hR
    have hR' : OwnB W2 g1 (.slice (some ⟨g1, 0, none⟩) n n) (A.set i true) := by
      unfold OwnB Own
      rw [List.length_set, HA.out]
      exact hR
    refine (hR'.frm F3 (fun g hg e => ?_)).frm F4 (fun g hg e => ?_)
    · have := tvl _ e
      simp only [Value.ownBlock, Option.some.injEq] at hg
      omega
    · simp only [Value.ownBlock, Option.some.injEq] at hg
      omega
  · have := ownsRow_setCell_below (a := ⟨g3, 0, none⟩) hown' (by show g3 < g3 + 1; omega) (.slice a5 (todo.length + 1) c5)
    unfold OwnI Own nats
    rw [List.map_append]
    exact this
  · rcases hg'.2 g hg with h1 | h1
    · exact .inl h1
    · exact .inr (Nat.le_trans (Nat.le_trans b1.size F2.size) h1)

/-- What one call of the closure leaves. -/
def ReachPost (xs : List Pc) (y : Int) (g0 g1 g2 g3 n c : Nat) (a : Option Addr) (A : List Bool) (tv : Value) (todo : List Nat) (w : World) : Ending → World → Prop := fun e w' => e = .returned (.tuple #[]) ∧
  ∃ A' todo' tv', reachStep xs y (A, todo) = (A', todo') ∧ RVars w' g0 g1 g2 g3 a n c A' tv' todo' ∧ Frm (fun k => k = g1 ∨ k = g3 ∨ tv.ownBlock = some k) w w' ∧ (∀ g, tv'.ownBlock = some g → tv.ownBlock = some g ∨ w.heap.size ≤ g)

theorem reach_c (g0 g1 g2 g3 n c : Nat) (a : Option Addr) (xs : List Pc) (y : Int) (A : List Bool) (tv : Value) (todo : List Nat) (w : World) (h : Pcs w w.heap.size (.slice a n c) xs) (hs : storeOk xs = true) (hn : xs.length = n) (hA : A.length = n)
    (hv : RVars w g0 g1 g2 g3 a n c A tv todo) (ht : todo.length ≤ 1000) :
    Calls Tryd.prog 66 #[.int .i64 y, .pointer (some ⟨g0, 0, none⟩), .pointer (some ⟨g2, 0, none⟩), .pointer (some ⟨g3, 0, none⟩)] w (ReachPost xs y g0 g1 g2 g3 n c a A tv todo w) := by
  by_cases hc : hasP xs y = true ∧ A[findAt xs y]? = some false
  · refine (reach_yes_c g0 g1 g2 g3 n c a xs y A tv todo w h hs hn hA hv ht hc.1 hc.2).mono ?_
    rintro e w' ⟨he, tv', h1, h2, h3⟩
    exact ⟨he, _, _, tv', by unfold reachStep; rw [if_pos hc], h1, h2, h3⟩
  · refine (reach_no_c g0 g1 g2 g3 n c a xs y A tv todo w h hs hn hA hv hc).mono ?_
    rintro e w' ⟨he, hb⟩
    exact ⟨he, A, todo, tv, by unfold reachStep; rw [if_neg hc], hv.on hb, Frm.of_below hb, fun g hg => .inl hg⟩

end Go.Proofs.YtkfkcbceoekgjaaDoor
