/- Walks and plain facts, joined: Base, Ty, Reg, Inv, A, Inv2. -/
import Derived.WalkKit
import Derived.WalkSpells
import Derived.WalkLawsBesides
import Derived.Deep.Draws
import Derived.Maps.AppendAt
import Derived.Test.YtachfmlfmpaddaaGreatDoorProg
import Derived.BigQuiet
import Derived.StillTail
import Derived.Deep.QuietTactic
set_option linter.unusedVariables false
set_option linter.unusedSimpArgs false

/- Plain words for memory, used by every walk of this seat: what a slice value reads as, what is owned, and what keeps it. No program in sight. -/
namespace Go.Proofs.YtachfmlfmpaddaaGreatDoor
open Go.RowKit

theorem hid {p : Prop} (h : p) : Hid p := h
theorem ret_b {x y : Bool} (h : x = y) : Ending.returned (.bool x) = .returned (.bool y) := by rw [h]
theorem ret_i {k : IntKind} {x y : Int} (h : x = y) : Ending.returned (.int k x) = .returned (.int k y) := by rw [h]
/-! ### Below -/
theorem bl_drewN {B : Nat} {a w : World} (h : Below B a w) (n : Nat) : Below B a (w.drewN n) := ⟨h.os, h.tape, h.output, h.size, h.block⟩
/-- What a callee leaves alone is left alone since an earlier world, too. -/
theorem bl_then {w w1 w2 : World} (h : Below w.heap.size w w1) (h' : Below w1.heap.size w1 w2) : Below w.heap.size w w2 := h.trans (h'.mono h.size)
theorem gb_of_below {w w' : World} (h : Below w.heap.size w w') (row : Option Nat) : w.grownBy w' row := ⟨h.os, h.tape, h.output, h.size, fun i hi _ => h.block i hi⟩
theorem gb_drewN {w w' : World} {row : Option Nat} (h : w.grownBy w' row) (n : Nat) : w.grownBy (w'.drewN n) row := ⟨h.os, h.tape, h.output, h.size, h.block⟩

/-- Writes to a row that is new, or is the one that may be written. -/
theorem gb_out {w1 wr w' : World} {g0 : Nat} {row : Option Nat} (h : w1.grownBy wr (some g0)) (hg : wr.grownBy w' row) (hr : ∀ g, row = some g → g = g0 ∨ w1.heap.size ≤ g) : w1.grownBy w' (some g0) :=
  ⟨hg.os.trans h.os, hg.tape.trans h.tape, hg.output.trans h.output, Nat.le_trans h.size hg.size, fun k hk hne => (hg.block k (Nat.lt_of_lt_of_le hk h.size) (fun e => by
    rcases hr k e.symm with e' | e'
    · exact hne (by rw [e'])
    · omega)).trans (h.block k hk hne)⟩

/-! ### Slices -/
/-- From offset o of block b stand the cells cs. -/
def At (w : World) (b o : Nat) (cs : List Value) : Prop := ∀ j v, cs[j]? = some v → w.cell? ⟨b, o + j, none⟩ = some v

/-- The slice value v has n elements of k cells each, which read as cs and lie below block B. -/
def Sl (w : World) (B k : Nat) (v : Value) (n : Nat) (cs : List Value) : Prop :=
  ∃ a c, v = .slice a n c ∧ n ≤ c ∧ c ≤ maxLen ∧ cs.length = n * k ∧ (0 < n → ∃ b o, a = some ⟨b, o, none⟩ ∧ b < B ∧ At w b o cs)

theorem At.below {w w' : World} {B b o : Nat} {cs : List Value} (h : At w b o cs) (hb : Below B w w') (hB : b < B) : At w' b o cs :=
  fun j v hj => (hb.cell (p := ⟨b, o + j, none⟩) hB).trans (h j v hj)

theorem Sl.below {w w' : World} {B B' k n : Nat} {v : Value} {cs : List Value} (h : Sl w B k v n cs) (hb : Below B' w w') (hB : B ≤ B') : Sl w' B k v n cs := by
  obtain ⟨a, c, rfl, h1, h2, h3, h4⟩ := h
  refine ⟨a, c, rfl, h1, h2, h3, fun hn => ?_⟩
  obtain ⟨b, o, rfl, hlt, hat⟩ := h4 hn
  exact ⟨b, o, rfl, hlt, hat.below hb (Nat.lt_of_lt_of_le hlt hB)⟩

theorem Sl.more {w : World} {B B' k n : Nat} {v : Value} {cs : List Value} (h : Sl w B k v n cs) (hB : B ≤ B') : Sl w B' k v n cs := by
  obtain ⟨a, c, rfl, h1, h2, h3, h4⟩ := h
  refine ⟨a, c, rfl, h1, h2, h3, fun hn => ?_⟩
  obtain ⟨b, o, rfl, hlt, hat⟩ := h4 hn
  exact ⟨b, o, rfl, Nat.lt_of_lt_of_le hlt hB, hat⟩

theorem Sl.nil (w : World) (B k c : Nat) (a : Option Addr) (hc : c ≤ maxLen) : Sl w B k (.slice a 0 c) 0 [] := ⟨a, c, rfl, Nat.zero_le _, hc, by simp, fun h => absurd h (by omega)⟩

theorem Sl.of_own {w : World} {base e k n : Nat} {v : Value} {cs : List Value} (h : w.ownsRow base e k v n cs) : Sl w w.heap.size k v n cs := by
  rcases h.2 with ⟨rfl, rfl⟩ | ⟨g, cap, cur, rfl, hb, hg, hnc, hcm, hcs, ht⟩
  · exact ⟨none, 0, rfl, Nat.le_refl _, by unfold maxLen; omega, by simpa using h.1, fun h => absurd h (by omega)⟩
  · refine ⟨some ⟨g, 0, none⟩, cap, rfl, hnc, hcm, h.1, fun _ => ⟨g, 0, rfl, (Array.getElem?_eq_some_iff.1 hg).1, fun j v hj => ?_⟩⟩
    have := h.cells (g := g) (by simp [Value.ownBlock]) j v hj
    have hadd : (⟨g, 0, none⟩ : Addr).add j = ⟨g, j, none⟩ := by unfold Addr.add; split <;> simp_all
    rw [hadd] at this
    simpa using this

/-- v reads as the list xs, each element as the cells that enc gives, k of them. -/
def Rd {α : Type} (enc : α → List Value) (k : Nat) (w : World) (B : Nat) (v : Value) (xs : List α) : Prop := Sl w B k v xs.length (xs.flatMap enc)
/-- v is a row of the call's own from block B on, of element type e, and reads as xs. -/
def Own {α : Type} (enc : α → List Value) (e k : Nat) (w : World) (B : Nat) (v : Value) (xs : List α) : Prop := w.ownsRow B e k v xs.length (xs.flatMap enc)

section
variable {α : Type} {enc : α → List Value} {e k B B' : Nat} {w w' : World} {v : Value} {xs : List α}
theorem Rd.below (h : Rd enc k w B v xs) (hb : Below B' w w') (hB : B ≤ B') : Rd enc k w' B v xs := Sl.below h hb hB
theorem Rd.more (h : Rd enc k w B v xs) (hB : B ≤ B') : Rd enc k w B' v xs := Sl.more h hB
theorem Rd.on (h : Rd enc k w w.heap.size v xs) (hb : Below w.heap.size w w') : Rd enc k w' w'.heap.size v xs := (h.below hb (Nat.le_refl _)).more hb.size
theorem Rd.drewN (h : Rd enc k w B v xs) (n : Nat) : Rd enc k (w.drewN n) B v xs := h
theorem Rd.of_own (h : Own enc e k w B v xs) : Rd enc k w w.heap.size v xs := Sl.of_own h
theorem Rd.nil (w : World) (B k c : Nat) (a : Option Addr) (hc : c ≤ maxLen) : Rd enc k w B (.slice a 0 c) [] := Sl.nil w B k c a hc
theorem Own.nil_ : Own enc e k w B (.slice none 0 0) [] := World.ownsRow_nil _ _ _ _
theorem Own.made (w : World) (hB : B ≤ w.heap.size) : Own enc e k (w.alloc (.cells #[] e)) B (.slice (some ⟨w.heap.size, 0, none⟩) 0 0) [] := World.ownsRow_made w #[] 0 hB (by simp) (by simp)
/-- A literal. -/
theorem Own.lit (w : World) (hB : B ≤ w.heap.size) (xs : List α) (cs : Array Value) (n : Nat) (hn : xs.length = n) (hc : cs.toList = xs.flatMap enc) (hk : (xs.flatMap enc).length = n * k) (hm : n ≤ maxLen) :
    Own enc e k (w.alloc (.cells cs e)) B (.slice (some ⟨w.heap.size, 0, none⟩) n n) xs := by
  unfold Own
  rw [← hc, hn]
  exact World.ownsRow_lit w cs n hB hm (by rw [← hk, ← hc]; simp)
theorem Own.alloc (h : Own enc e k w B v xs) (o : Obj) : Own enc e k (w.alloc o) B v xs := World.ownsRow.alloc h o
theorem Own.drewN (h : Own enc e k w B v xs) (n : Nat) : Own enc e k (w.drewN n) B v xs := h
theorem Own.kept {row : Option Nat} (h : Own enc e k w B v xs) (hg : w.grownBy w' row) (hne : v.ownBlock = none ∨ v.ownBlock ≠ row) : Own enc e k w' B v xs := World.ownsRow.kept h hg hne
theorem Own.lt (h : Own enc e k w B v xs) : ∀ g, v.ownBlock = some g → B ≤ g ∧ g < w.heap.size := World.ownsRow.lt h
theorem Own.less (h : Own enc e k w B v xs) (hB : B' ≤ B) : Own enc e k w B' v xs := by
  refine ⟨h.1, ?_⟩
  rcases h.2 with h2 | ⟨g, cap, cur, hv, hg, r⟩
  · exact .inl h2
  · exact .inr ⟨g, cap, cur, hv, Nat.le_trans hB hg, r⟩
/-- A callee that leaves alone what is there keeps what is owned. -/
theorem Own.on (h : Own enc e k w B v xs) (hb : Below w.heap.size w w') : Own enc e k w' B v xs := by
  refine ⟨h.1, ?_⟩
  rcases h.2 with h2 | ⟨g, cap, cur, hv, hg, hh, r⟩
  · exact .inl h2
  · exact .inr ⟨g, cap, cur, hv, hg, (hb.block g (Array.getElem?_eq_some_iff.1 hh).1).trans hh, r⟩

theorem flatMap_get (hk : ∀ x : α, (enc x).length = k) : ∀ (xs : List α) (i j : Nat) (x : α) (u : Value), xs[i]? = some x → (enc x)[j]? = some u → (xs.flatMap enc)[i * k + j]? = some u := by
  intro xs
  induction xs with
  | nil => intro i j x u h; simp at h
  | cons y ys ih =>
    intro i j x u h hu
    rw [List.flatMap_cons]
    cases i with
    | zero =>
      simp only [List.getElem?_cons_zero, Option.some.injEq] at h
      subst h
      have hj : j < (enc y).length := by
        rw [List.getElem?_eq_some_iff] at hu
        exact hu.1
      rw [Nat.zero_mul, Nat.zero_add, List.getElem?_append_left hj]
      exact hu
    | succ i =>
      simp only [List.getElem?_cons_succ] at h
      have := ih i j x u h hu
      rw [List.getElem?_append_right (by rw [hk, Nat.succ_mul]; omega), hk, show (i + 1) * k + j - k = i * k + j from by rw [Nat.succ_mul]; omega]
      exact this

/-- What a walk asks of a slice: its value written out, and for every index the element and its cells. -/
theorem Rd.openN {n : Nat} (h : Rd enc k w B v xs) (hk : ∀ x : α, (enc x).length = k) (hn : xs.length = n) :
    ∃ a c, v = .slice a n c ∧ n ≤ c ∧ c ≤ 9223372036854775807 ∧
      ∀ i, i < n → ∃ b o x, a = some ⟨b, o, none⟩ ∧ b < B ∧ Hid (xs[i]? = some x) ∧ ∀ j u, (enc x)[j]? = some u → w.cell? ⟨b, o + (i * k + j), none⟩ = some u := by
  subst hn
  obtain ⟨a, c, rfl, h1, h2, h3, h4⟩ := h
  refine ⟨a, c, rfl, h1, by simpa [maxLen] using h2, fun i hi => ?_⟩
  obtain ⟨b, o, rfl, hb, hat⟩ := h4 (by omega)
  exact ⟨b, o, xs[i], rfl, hb, List.getElem?_eq_getElem hi, fun j u hu => hat _ _ (flatMap_get hk xs i j _ u (List.getElem?_eq_getElem hi) hu)⟩
end

/-- A write to one row, far from what is asked. -/
theorem Rd.far {α : Type} {enc : α → List Value} {k B : Nat} {w w' : World} {v : Value} {xs : List α} {row : Option Nat} (h : Rd enc k w B v xs) (hB : B ≤ w.heap.size) (hg : w.grownBy w' row) (hr : ∀ g, row = some g → B ≤ g) : Rd enc k w' B v xs :=
  h.below ((Below.refl B w).grown hg hB hr) (Nat.le_refl _)
theorem Own.far {α : Type} {enc : α → List Value} {e k B : Nat} {w w' : World} {v : Value} {xs : List α} {row : Option Nat} (h : Own enc e k w B v xs) (hg : w.grownBy w' row) (hr : ∀ g, row = some g → g < B) : Own enc e k w' B v xs :=
  h.kept hg (by
    cases hv : v.ownBlock with
    | none => exact .inl rfl
    | some g => exact .inr (fun e => by have h1 := (h.lt g hv).1; have h2 := hr g e.symm; omega))

theorem made_flat {α : Type} {enc : α → List Value} (z : Value) (x : α) (h : enc x = [z]) (n : Nat) : (madeCells #[z] n).toList = (List.replicate n x).flatMap enc := by
  apply List.ext_getElem
  · rw [Array.length_toList, size_madeCells]
    induction n with
    | zero => rfl
    | succ n ih => rw [List.replicate_succ, List.flatMap_cons, List.length_append, h, ← ih]; simp; omega
  · intro j h1 h2
    have hf : ∀ n : Nat, (List.replicate n x).flatMap enc = List.replicate n z := by
      intro n
      induction n with
      | zero => rfl
      | succ n ih => rw [List.replicate_succ, List.flatMap_cons, ih, h]; rfl
    simp only [hf, List.getElem_replicate]
    simp [madeCells, Nat.mod_one]

/-! ### Lists in a loop -/
theorem take_snoc' {α : Type} {xs : List α} {k : Nat} {x : α} (h : xs[k]? = some x) : xs.take (k + 1) = xs.take k ++ [x] := by
  rw [List.take_add_one, h]; rfl
theorem all_succ {α : Type} (p : α → Bool) {xs : List α} {k : Nat} {x : α} (h : xs[k]? = some x) : (xs.take (k + 1)).all p = ((xs.take k).all p && p x) := by
  rw [take_snoc' h, List.all_append]; simp only [List.all_cons, List.all_nil, Bool.and_true]
theorem foldl_succ {α β : Type} (f : β → α → β) (b : β) {xs : List α} {k : Nat} {x : α} (h : xs[k]? = some x) : (xs.take (k + 1)).foldl f b = f ((xs.take k).foldl f b) x := by
  rw [take_snoc' h, List.foldl_append]; rfl
theorem filter_succ {α : Type} (p : α → Bool) {xs : List α} {k : Nat} {x : α} (h : xs[k]? = some x) : (xs.take (k + 1)).filter p = (xs.take k).filter p ++ (if p x then [x] else []) := by
  rw [take_snoc' h, List.filter_append]; cases hp : p x <;> simp [hp]
theorem all_no {α : Type} (p : α → Bool) {xs : List α} {k : Nat} {x : α} (h : xs[k]? = some x) (hp : p x = false) : xs.all p = false := by
  rw [List.all_eq_false]; exact ⟨x, List.mem_of_getElem? h, by simp [hp]⟩
theorem take_all {α : Type} {xs : List α} {n k : Nat} (hx : xs.length = n) (hk : n ≤ k) : xs.take k = xs := List.take_of_length_le (by omega)
/-- The first k cells are those of ys: an array being filled. -/
def Pre (cs ys : List Value) (k : Nat) : Prop := cs.length = ys.length ∧ cs.take k = ys.take k
theorem Pre.zero {cs ys : List Value} (h : cs.length = ys.length) : Pre cs ys 0 := ⟨h, by simp⟩
theorem Pre.step {cs ys : List Value} {k : Nat} {u : Value} (h : Pre cs ys k) (hu : ys[k]? = some u) : Pre (cs.set k u) ys (k + 1) := by
  obtain ⟨hk, rfl⟩ := List.getElem?_eq_some_iff.1 hu
  refine ⟨by simp [h.1], ?_⟩
  have hk' : k < cs.length := by rw [h.1]; exact hk
  rw [List.take_succ_eq_append_getElem (by simpa using hk'), List.take_succ_eq_append_getElem hk, List.take_set_of_le (Nat.le_refl k), h.2]
  simp
theorem Pre.all {cs ys : List Value} {k : Nat} (h : Pre cs ys k) (hk : ys.length ≤ k) : cs = ys := by
  have := h.2
  rwa [List.take_of_length_le (by rw [h.1]; exact hk), List.take_of_length_le hk] at this
/-- 'append(v, s...)': v owned, s whatever slice is read. -/
theorem run_cat {α : Type} {enc : α → List Value} {P : Program} (w : World) (base : Nat) (t ty e : TypeId) (i : TypeInfo) (z : Value) (size bytes : Nat) (ht : P.underlying t = some (.slice e)) (hi : P.info? e = some i) (hz : i.zero = some z)
    (hsize : i.size = size) (hby : i.bytes = bytes) (hzs : z.cells.size = size) (hsz : 0 < size) (v sv : Value) (acc ys : List α) (hown : Own enc e size w base v acc) (Bs : Nat) (hr : Rd enc size w Bs sv ys)
    (h1 : ∀ y ∈ ys, ∀ u ∈ enc y, u.oneCell' = true) (hn : acc.length + ys.length < 1099511627776) (hbytes : bytes ≤ 100) (hbase : base ≤ w.heap.size) :
    ∃ v' w', (Builtin.append_ #[t, t] ty #[v, sv]).run P w = .ok v' w' ∧ Own enc e size w' base v' (acc ++ ys) ∧ w.grownBy w' v.ownBlock ∧ (∀ g, v'.ownBlock = some g → v.ownBlock = some g ∨ g = w.heap.size) := by
  obtain ⟨a, c, rfl, h2, h3, h4, h5⟩ := hr
  rcases Nat.eq_zero_or_pos ys.length with h0 | h0
  · obtain rfl : ys = [] := List.eq_nil_of_length_eq_zero h0
    simp only [List.length_nil]
    refine ⟨v, w, ?_, by simpa using hown, World.grownBy.refl w _, fun g hg => .inl hg⟩
    have hl : ∀ a : Option Addr, (Builtin.append_ #[t, t] ty #[v, .slice a 0 c]).run P w = .ok v w := by
      intro a
      rcases hown.2 with ⟨rfl, _⟩ | ⟨g, cap, cur, rfl, _, _, hnc, _⟩
      · cases a <;> simp [Builtin.append_, run_underlying ht, sizeOf, typeInfo, hi, Builtin.lenOf, Builtin.firstCells, loadCells, loadCellsFrom]
      · cases a <;> simp [Builtin.append_, run_underlying ht, sizeOf, typeInfo, hi, Builtin.lenOf, Builtin.firstCells, loadCells, loadCellsFrom, hnc, storeCells]
    exact hl a
  · obtain ⟨b, o, rfl, hb, hat⟩ := h5 h0
    have hb' : (acc.length + ys.length) * bytes ≤ (acc.length + ys.length) * 100 := Nat.mul_le_mul_left _ hbytes
    obtain ⟨v', w', hrun, ho, hg, _, hat'⟩ := run_append_own_at (P := P) w base t ty e i z size bytes ht hi hz hsize hby hzs hsz v acc.length (acc.flatMap enc) hown ⟨b, o, none⟩ ys.length c (ys.flatMap enc) h4
      (fun j u hu => by
        have hadd : (⟨b, o, none⟩ : Addr).add j = ⟨b, o + j, none⟩ := by unfold Addr.add; split <;> simp_all
        rw [hadd]; exact hat j u hu)
      (fun u hu => by obtain ⟨y, hy, hu'⟩ := List.mem_flatMap.1 hu; exact h1 y hy u hu') (by simp only [maxLen]; omega) (by omega) hbase
    refine ⟨v', w', hrun, ?_, hg, fun g hg' => ?_⟩
    · unfold Own
      rw [List.flatMap_append, List.length_append]
      exact ho
    · rcases hat' with e' | e'
      · exact .inl (e'.symm.trans hg')
      · rw [e'] at hg'; exact .inr (Option.some.inj hg').symm

theorem wp_cat {α : Type} {enc : α → List Value} {P : Program} {o : Oper} {a : Act} {K : Act → World → Prop} {Q : Exit → Act → World → Prop} (w : World) (s x : Operand) (t : TypeId)
    (ho : o.op = .call { callee := .builtin .append, args := #[s, x], argTypes := #[t, t] }) (base : Nat) (e : TypeId) (i : TypeInfo) (z : Value) (size bytes : Nat) (ht : P.underlying t = some (.slice e)) (hi : P.info? e = some i) (hz : i.zero = some z)
    (hsize : i.size = size) (hby : i.bytes = bytes) (hzs : z.cells.size = size) (hsz : 0 < size) (v sv : Value) (acc ys : List α) (hs : a.eval s = v) (hx : a.eval x = sv) (hown : Own enc e size w base v acc) (Bs : Nat) (hr : Rd enc size w Bs sv ys)
    (h1 : ∀ y ∈ ys, ∀ u ∈ enc y, u.oneCell' = true) (hn : acc.length + ys.length < 1099511627776) (hbytes : bytes ≤ 100) (hbase : base ≤ w.heap.size)
    (h : ∀ v' w', Own enc e size w' base v' (acc ++ ys) → w.grownBy w' v.ownBlock → (∀ g, v'.ownBlock = some g → v.ownBlock = some g ∨ g = w.heap.size) → K (a.put o.dst v') w') : o.wp P a w K Q := by
  obtain ⟨v', w', hr, h2, h3, h4⟩ := run_cat (P := P) w base t o.type e i z size bytes ht hi hz hsize hby hzs hsz v sv acc ys hown Bs hr h1 hn hbytes hbase
  unfold Oper.wp execOp
  simp only [ho, resolve, invoke, builtin, Sem.run_bind, Sem.run_pure, Result.andThen_ok, List.map_toArray, List.map_cons, List.map_nil, hs, hx, hr]
  exact h v' w' h2 h3 h4

/-- 'out = append(out, s...)' on a row of the call's own, in a loop's relation: owned from B on, and below B0 all is as in w0. -/
theorem wpList_cat {α : Type} {enc : α → List Value} {P : Program} {ops : Array Oper} {rest : List Oper} {o : Oper} {a : Act} {Q : Exit → Act → World → Prop} {w0 wr : World} (hgd : o.guard = none) (s x : Operand) (t : TypeId)
    (ho : o.op = .call { callee := .builtin .append, args := #[s, x], argTypes := #[t, t] }) (B B0 : Nat) (e : TypeId) (i : TypeInfo) (z : Value) (size bytes : Nat)
    (ht : P.underlying t = some (.slice e)) (hi : P.info? e = some i) (hz : i.zero = some z) (hsize : i.size = size) (hby : i.bytes = bytes) (hzs : z.cells.size = size) (hsz : 0 < size)
    (v sv : Value) (acc ys : List α) (hown : Own enc e size wr B v acc) (Bs : Nat) (hr : Rd enc size wr Bs sv ys) (hb : Below B0 w0 wr) (hB : B ≤ wr.heap.size) (hB0 : B0 ≤ B) (hs : a.eval s = v) (hx : a.eval x = sv)
    (h1 : ∀ y ∈ ys, ∀ u ∈ enc y, u.oneCell' = true) (hn : acc.length + ys.length < 1099511627776) (hbytes : bytes ≤ 100)
    (h : ∀ v' w', Own enc e size w' B v' (acc ++ ys) → Below B0 w0 w' → B ≤ w'.heap.size → wr.grownBy w' v.ownBlock ∧ (∀ g, v'.ownBlock = some g → v.ownBlock = some g ∨ wr.heap.size ≤ g) → wpList P ops Q rest (a.put o.dst v') w') : wpList P ops Q (o :: rest) a wr :=
  wpList_plain hgd fun _ hK => wp_cat wr s x t ho B e i z size bytes ht hi hz hsize hby hzs hsz v sv acc ys hs hx hown Bs hr h1 hn hbytes hB fun v' w' h2 h3 h4 =>
    hK _ _ (h v' w' h2 (hb.grown h3 (by omega) (fun g hg => Nat.le_trans hB0 (hown.lt g hg).1)) (Nat.le_trans hB h3.size) ⟨h3, fun g hg => (h4 g hg).imp id (fun e => by omega)⟩)

/-- 'out = append(out, x)' of one element on a row of the call's own, in a loop's relation: owned from B on, and below B0 all is as in w0. -/
theorem wpList_push {α : Type} {enc : α → List Value} {P : Program} {ops : Array Oper} {rest : List Oper} {o : Oper} {a : Act} {Q : Exit → Act → World → Prop} {w0 wr : World} (hgd : o.guard = none) (s x : Operand) (t : TypeId)
    (ho : o.op = .call { callee := .builtin .append, args := #[s, x], argTypes := #[t, t] }) (B B0 : Nat) (e : TypeId) (i : TypeInfo) (z : Value) (size bytes : Nat)
    (ht : P.underlying t = some (.slice e)) (hi : P.info? e = some i) (hz : i.zero = some z) (hsize : i.size = size) (hby : i.bytes = bytes) (hzs : z.cells.size = size) (hsz : 0 < size)
    (v : Value) (acc : List α) (y : α) (hown : Own enc e size wr B v acc) (hb : Below B0 w0 wr) (hB : B ≤ wr.heap.size) (hB0 : B0 ≤ B) (hs : a.eval s = v) (hx : a.eval x = .slice (some ⟨wr.heap.size, 0, none⟩) 1 1)
    (hl : (enc y).length = size) (h1 : ∀ u ∈ enc y, u.oneCell' = true) (hn : acc.length < 1099511627775) (hbytes : bytes ≤ 100)
    (h : ∀ v' w', Own enc e size w' B v' (acc ++ [y]) → Below B0 w0 w' → B ≤ w'.heap.size → wr.grownBy w' v.ownBlock ∧ (∀ g, v'.ownBlock = some g → v.ownBlock = some g ∨ wr.heap.size ≤ g) → wpList P ops Q rest (a.put o.dst v') w') : wpList P ops Q (o :: rest) a (wr.alloc (.cells (enc y).toArray e)) := by
  have hrd : Rd enc size (wr.alloc (.cells (enc y).toArray e)) (wr.heap.size + 1) (.slice (some ⟨wr.heap.size, 0, none⟩) 1 1) [y] := by
    refine ⟨_, _, rfl, by simp, by simp [maxLen], by simp [hl], fun _ => ⟨_, _, rfl, by omega, fun j u hu => ?_⟩⟩
    rw [Nat.zero_add, cell_of_row (wr.alloc (.cells (enc y).toArray e)) wr.heap.size j (enc y).toArray e (0, 0) (heap_alloc_new wr _)]
    simpa using hu
  refine wpList_cat (w0 := w0) hgd s x t ho B B0 e i z size bytes ht hi hz hsize hby hzs hsz v _ acc [y] (hown.alloc _) _ hrd (hb.alloc (by omega) _) (by simp; omega) hB0 hs hx (by simpa using h1) (by simp; omega) hbytes ?_
  intro v' w' h2 h3 h4 ⟨h5, h6⟩
  refine h v' w' h2 h3 (by omega) ⟨⟨h5.os, h5.tape, h5.output, by have := h5.size; simp at this; omega, fun j hj hne => (h5.block j (by simp; omega) hne).trans (Below.heap_alloc wr _ j hj)⟩, fun g hg => ?_⟩
  rcases h6 g hg with e' | e'
  · exact .inl e'
  · exact .inr (by simp at e'; omega)

/-- What a row's step tells of a slice of integers that came in. -/
def IsRow (k : IntKind) (w : World) (a : Option Addr) (len cap : Nat) (zs : List Int) : Prop :=
  (a = none ∧ len = 0 ∧ cap = 0 ∧ zs = []) ∨
  ∃ x, a = some x ∧ len ≤ cap ∧ cap ≤ maxLen ∧ zs.length = cap ∧ (∀ i, i < zs.length → w.cell? (x.add i) = some (.int k (zs.getD i 0))) ∧ ∀ n ∈ zs, (Lit.int k n).wf = true

end Go.Proofs.YtachfmlfmpaddaaGreatDoor

/- The types of this seat: how their values lie in cells; append of one number, one bool. -/
namespace Go.Proofs.YtachfmlfmpaddaaGreatDoor
open Go.RowKit

abbrev encI (x : Int) : List Value := [.int .i64 x]
abbrev encB (x : Bool) : List Value := [.bool x]
abbrev encS (x : ByteArray) : List Value := [.string x]
abbrev Ints := Rd encI 1
abbrev OwnI := Own encI 3 1

abbrev Bools := Rd encB 1
abbrev OwnB := Own encB 4 1

abbrev Strs := Rd encS 1
abbrev OwnS := Own encS 9 1

theorem info_int : (Tryz.prog.info? 3).map (fun i => (i.zero, i.size, i.bytes)) = some (some (.int .i64 0), 1, 8) := by kernel_rfl

theorem info_bool : (Tryz.prog.info? 4).map (fun i => (i.zero, i.size, i.bytes)) = some (some (.bool false), 1, 1) := by kernel_rfl

theorem info_string : (Tryz.prog.info? 9).map (fun i => (i.zero, i.size, i.bytes)) = some (some (.string ByteArray.empty), 1, 16) := by kernel_rfl

theorem Rd.ints {w : World} {B n : Nat} {v : Value} {xs : List Int} (h : Ints w B v xs) (hn : xs.length = n) :
    ∃ a c, v = .slice a n c ∧ n ≤ c ∧ c ≤ 9223372036854775807 ∧
      ∀ i, i < n → ∃ b o x, a = some ⟨b, o, none⟩ ∧ b < B ∧ Hid (xs[i]? = some x) ∧ w.cell? ⟨b, o + i, none⟩ = some (.int .i64 x) := by
  obtain ⟨a, c, hv, h1, h2, h3⟩ := Rd.openN h (fun _ => rfl) hn
  refine ⟨a, c, hv, h1, h2, fun i hi => ?_⟩
  obtain ⟨b, o, x, ha, hb, hx, hc⟩ := h3 i hi
  exact ⟨b, o, x, ha, hb, hx, by simpa using hc 0 _ rfl⟩

theorem Rd.bools {w : World} {B n : Nat} {v : Value} {xs : List Bool} (h : Bools w B v xs) (hn : xs.length = n) :
    ∃ a c, v = .slice a n c ∧ n ≤ c ∧ c ≤ 9223372036854775807 ∧
      ∀ i, i < n → ∃ b o x, a = some ⟨b, o, none⟩ ∧ b < B ∧ Hid (xs[i]? = some x) ∧ w.cell? ⟨b, o + i, none⟩ = some (.bool x) := by
  obtain ⟨a, c, hv, h1, h2, h3⟩ := Rd.openN h (fun _ => rfl) hn
  refine ⟨a, c, hv, h1, h2, fun i hi => ?_⟩
  obtain ⟨b, o, x, ha, hb, hx, hc⟩ := h3 i hi
  exact ⟨b, o, x, ha, hb, hx, by simpa using hc 0 _ rfl⟩

section
variable {ops : Array Oper} {rest : List Oper} {o : Oper} {a : Act} {Q : Exit → Act → World → Prop} {w0 wr : World}

theorem push_int (hgd : o.guard = none) (s x : Operand) (ho : o.op = .call { callee := .builtin .append, args := #[s, x], argTypes := #[44, 44] }) (B B0 : Nat) (v : Value) (acc : List Int) (y : Int)
    (hown : OwnI wr B v acc) (hb : Below B0 w0 wr) (hB : B ≤ wr.heap.size) (hB0 : B0 ≤ B) (hs : a.eval s = v) (hx : a.eval x = .slice (some ⟨wr.heap.size, 0, none⟩) 1 1) (hn : acc.length < 1099511627775)
    (h : ∀ v' w', OwnI w' B v' (acc ++ [y]) → Below B0 w0 w' → B ≤ w'.heap.size → wr.grownBy w' v.ownBlock ∧ (∀ g, v'.ownBlock = some g → v.ownBlock = some g ∨ wr.heap.size ≤ g) → wpList Tryz.prog ops Q rest (a.put o.dst v') w') :
    wpList Tryz.prog ops Q (o :: rest) a (wr.alloc (.cells #[.int .i64 y] 3)) := by
  obtain ⟨i0, hi, hz0, hz1, hz2⟩ := info_parts info_int
  exact wpList_push (enc := encI) hgd s x 44 ho B B0 3 i0 _ 1 8 Tryz.underlying44 hi hz0 hz1 hz2 rfl (by decide) v acc y hown hb hB hB0 hs hx rfl (by simp [Value.oneCell']) hn (by decide) h

end
end Go.Proofs.YtachfmlfmpaddaaGreatDoor

/- A region that draws its order: its first e operations are moves, then come quiet ones (they read, or call what only draws), and from operation n on everything waits for the one before: one walk in the text's order serves every order. No program in sight. -/
namespace Go.Proofs.YtachfmlfmpaddaaGreatDoor
open Go.RowKit

/-- A callee's contract inside a quiet walk, whatever the count of draws is spelled like. -/
theorem qsame {P : Program} {f : FuncId} {args : Array Value} {g : Nat → World} {n : Nat} {v : Value} (h : Calls P f args (g n) fun e w' => e = .returned v ∧ g n = w') :
    Calls P f args (g n) fun e w'' => e = .returned v ∧ ∃ m, w'' = g m := h.mono fun _ _ ⟨he, hw⟩ => ⟨he, n, hw.symm⟩
section
variable {P : Program} {ops : Array Oper} {md : Region.Mode} {C : World → Prop}

/-- Every operation from e to n (n left out) is waited for, directly, by a later one up to n. -/
def sinkFrom (md : Region.Mode) (ops : Array Oper) (e n : Nat) : Bool :=
  (List.range n).all fun i => decide (i < e) || (List.range (n + 1)).any fun j => decide (i < j) && Region.waitsFor md ops j i

/-- While one of those is pending nothing from n on may come up. -/
theorem held_back {e n : Nat} {listed : Array Bool} (hs : sinkFrom md ops e n = true) (hc : Region.chainB md ops n = true) (hn : n < ops.size) (inv : HeadInv md ops n listed) :
    ∀ (d i : Nat), n - i = d → e ≤ i → i < n → listed.getD i true = false → ∀ t, n ≤ t → t ∉ Region.ready md ops listed := by
  intro d
  induction d using Nat.strongRecOn with
  | _ d ih =>
    intro i hd hei hi hun t ht hr
    have hr' := hr
    obtain ⟨_, ot, hot, hall⟩ := mem_ready.1 hr'
    have htlt : t < ops.size := (Array.getElem?_eq_some_iff.1 hot).1
    rcases Nat.lt_or_ge n t with htn | htn
    · have h1 := List.all_eq_true.1 hc t (List.mem_range.2 htlt)
      rcases Bool.or_eq_true_iff.1 h1 with h2 | h2
      · have := of_decide_eq_true h2; omega
      · obtain ⟨o', ho', x, hx, hb, hon⟩ := Region.waitsFor_spec h2
        obtain rfl : o' = ot := Option.some.inj (ho'.symm.trans hot)
        have h3 := hall x hx hb
        rw [hon, getD_both (inv.tail (t - 1) (by omega) (by omega))] at h3
        cases h3
    · obtain rfl : t = n := by omega
      have h1 := List.all_eq_true.1 hs i (List.mem_range.2 hi)
      rcases Bool.or_eq_true_iff.1 h1 with h2 | h2
      · have := of_decide_eq_true h2; omega
      · obtain ⟨j, hj, hj2⟩ := List.any_eq_true.1 h2
        obtain ⟨hij, hw⟩ := Bool.and_eq_true_iff.1 hj2
        have hij := of_decide_eq_true hij
        have hjn : j ≤ t := by have := List.mem_range.1 hj; omega
        obtain ⟨oj, hoj, x, hx, hb, hon⟩ := Region.waitsFor_spec hw
        rcases Nat.lt_or_ge j t with hjt | hjt
        · cases hl : listed.getD j false with
          | true =>
            have h3 := inv.closed j oj hoj hl x hx hb
            rw [hon, getD_both hun] at h3
            cases h3
          | false => exact ih (t - j) (by omega) j rfl (by omega) hjt (getD_in (by rw [inv.size]; omega) hl) t (Nat.le_refl _) hr
        · obtain rfl : j = t := by omega
          obtain rfl : oj = ot := Option.some.inj (hoj.symm.trans hot)
          have h3 := hall x hx hb
          rw [hon, getD_both hun] at h3
          cases h3

/-- Whatever order the operations ahead of n take; behind them L. -/
def wpHead (P : Program) (md : Region.Mode) (ops : Array Oper) (C : World → Prop) (n : Nat) (L : Array Bool → Act → Prop) : Nat → Array Bool → Act → Prop
  | 0, listed, a => L listed a
  | f + 1, listed, a => Region.ready md ops listed ≠ [] ∧ ∀ i ∈ Region.ready md ops listed, i < n ∧ qOp P ops C i (wpHead P md ops C n L f (listed.setIfInBounds i true)) a

theorem wpAny_of_wpHead {n g : Nat} {L : Array Bool → Act → Prop} {Q : Exit → Act → World → Prop} (hL : ∀ listed a w, C w → L listed a → wpAny P md ops Q g listed a w) :
    ∀ (f : Nat) (listed : Array Bool) (a : Act) (w : World), C w → wpHead P md ops C n L f listed a → wpAny P md ops Q (f + g) listed a w := by
  intro f
  induction f with
  | zero => intro listed a w hw h; rw [Nat.zero_add]; exact hL _ _ _ hw h
  | succ f ih =>
    intro listed a w hw h
    rw [Nat.succ_add]
    exact ⟨fun h0 => absurd h0 h.1, fun i hi => wpOp_of_qOp hw (fun a' w' hw' h' => ih _ a' w' hw' h') (h.2 i hi).2⟩

theorem wpHead_first {e n i : Nat} {oi : Oper} {v : Value} {L : Array Bool → Act → Prop} (hi : ops[i]? = some oi) (hsel : ∀ (j : Nat) (o : Oper) cs b, ops[j]? = some o → o.op ≠ .select cs b)
    (hs : sinkFrom md ops e n = true) (hc : Region.chainB md ops n = true) (hn : n < ops.size) (hei : e ≤ i) (hin : i < n)
    (hdone : ∀ listed a, L listed a → ∀ j ∈ Region.ready md ops listed, n ≤ j) :
    ∀ (f : Nat) (listed : Array Bool) (a : Act), HeadInv md ops n listed →
      (∀ j oj, ops[j]? = some oj → j ≠ i → listed.getD j true = false → (∀ x ∈ oj.after, Region.binds md x = true → x.on ≠ i) → oi.apart ops oj = true) →
      i ∈ Region.ready md ops listed → YieldsIn P ops C oi v a →
      wpHead P md ops C n L f (listed.setIfInBounds i true) (a.put oi.dst v) → wpHead P md ops C n L (f + 1) listed a := by
  intro f
  induction f with
  | zero =>
    intro listed a inv _ hr hy H
    have hun := (mem_ready.1 hr).1
    refine ⟨fun h => (by rw [h] at hr; cases hr), fun j hj => ?_⟩
    have hjn : j < n := Nat.lt_of_not_le fun h => held_back hs hc hn inv _ i rfl hei hin hun j h hj
    refine ⟨hjn, ?_⟩
    by_cases hji : j = i
    · subst hji; exact hy.qOp hi H
    · exact absurd (hdone _ _ H j (ready_mono hj hji)) (by omega)
  | succ f ih =>
    intro listed a inv hfree hr hy H
    have hun := (mem_ready.1 hr).1
    refine ⟨fun h => (by rw [h] at hr; cases hr), fun j hj => ?_⟩
    have hjn : j < n := Nat.lt_of_not_le fun h => held_back hs hc hn inv _ i rfl hei hin hun j h hj
    refine ⟨hjn, ?_⟩
    by_cases hji : j = i
    · subst hji; exact hy.qOp hi H
    · have hj' := hj
      obtain ⟨hjun, oj, hoj, hall⟩ := mem_ready.1 hj'
      have hnot : ∀ x ∈ oj.after, Region.binds md x = true → x.on ≠ i := fun x hx hb heq => by
        have h1 := hall x hx hb
        rw [heq, getD_both hun] at h1
        cases h1
      have h2 := qOp_put hoj (hfree j oj hoj hji hjun hnot) (fun cs b => hsel i oi cs b hi) (fun cs b => hsel j oj cs b hoj) hy (H.2 j (ready_mono hj hji)).2
      refine qOp_mono (fun a' h3 => ih (listed.setIfInBounds j true) a' (inv.set hj hjn) (fun k ok hk hki hunk hno => hfree k ok hk hki ?_ hno) (ready_mono hr (Ne.symm hji)) h3.1 ?_) h2
      · by_cases hjk : j = k
        · subst hjk; exact hjun
        · rwa [getD_set_ne true hjk] at hunk
      · rw [Array.setIfInBounds_comm _ _ hji]; exact h3.2

theorem wpHead_lex {e n g : Nat} {Lq : Act → Prop} (hsel : Region.noSelect ops = true) (hs : sinkFrom md ops e n = true) (hc : Region.chainB md ops n = true) (hn : n < ops.size) :
    ∀ (l : List Oper) (k : Nat) (listed : Array Bool) (a : Act), (∀ j, j < l.length → l[j]? = ops[k + j]?) → k + l.length = n → e ≤ k → HeadInv md ops n listed →
    Region.lexHead md ops g l.length k listed = true → wpQuiet P ops C Lq l a →
    wpHead P md ops C n (fun listed' a' => Region.seqB md ops g n listed' = true ∧ Lq a') l.length listed a := by
  intro l
  induction l with
  | nil =>
    intro k listed a _ hk _ _ hB h
    obtain rfl : k = n := by simpa using hk
    exact ⟨hB, h⟩
  | cons o l ih =>
    intro k listed a hl hk hek inv hB h
    have h0 : ops[k]? = some o := by simpa using (hl 0 (by simp)).symm
    simp only [List.length_cons, Region.lexHead, Bool.and_eq_true] at hB
    have hkn : k < n := by simp only [List.length_cons] at hk; omega
    have hr : k ∈ Region.ready md ops listed := by simpa using hB.1.1
    obtain ⟨v, hy, hK⟩ := yieldsIn_of_qOp (K := wpQuiet P ops C Lq l) h0 (by unfold qOp; simp only [h0]; exact h)
    refine wpHead_first h0 (Region.noSelect_spec hsel) hs hc hn hek hkn (fun listed' a' hL => seqB_ready hL.1) l.length listed a inv (Region.free_spec h0 hB.1.2) hr hy ?_
    exact ih (k + 1) _ _ (fun j hj => by have := hl (j + 1) (by simp; omega); simpa [Nat.add_assoc, Nat.add_comm 1 j] using this) (by simp only [List.length_cons] at hk; omega) (by omega) (inv.set hr hkn) hB.2 hK

/-- The first operation is a move, and may be taken first. -/
def earlyB (md : Region.Mode) (ops : Array Oper) (n : Nat) : Bool :=
  Region.noSelect ops && decide (n < ops.size) && decide (0 < n) && sinkFrom md ops 1 n && Region.chainB md ops n &&
    ((Region.ready md ops (Array.replicate ops.size false)).contains 0 && Region.free md ops (Array.replicate ops.size false) 0 &&
      Region.lexHead md ops (ops.size - n) (n - 1) 1 ((Array.replicate ops.size false).setIfInBounds 0 true))

theorem wp_region_early {id n : Nat} {Q : Exit → Act → World → Prop} {a : Act} {w : World} {o0 : Oper} {l : List Oper} (x : Operand) (hx : o0.op = .move x) (hg : o0.guard = none)
    (hm : P.follows .mixedOrders = true) (hB : earlyB .any (o0 :: l).toArray n = true) (hQ : ∀ c (b : Act) (v : Value) w', Q (.panic c) (b.put o0.dst v) w' → Q (.panic c) b w')
    (h : wpQuiet P (o0 :: l).toArray (fun w' => ∃ m, w' = w.drewN m) (fun a' => ∀ m, wpList P (o0 :: l).toArray Q ((o0 :: l).drop n) a' (w.drewN m)) (l.take (n - 1)) (a.put o0.dst (a.eval x))) :
    (Code.region id (o0 :: l).toArray true).wp P Q a w := by
  generalize hops : (o0 :: l).toArray = ops at *
  have hsz : ops.size = l.length + 1 := by rw [← hops]; simp
  have hget : ∀ j, ops[j + 1]? = l[j]? := fun j => by rw [← hops]; simp
  have h0 : ops[0]? = some o0 := by rw [← hops]; simp
  simp only [earlyB, Bool.and_eq_true, decide_eq_true_eq] at hB
  obtain ⟨⟨⟨⟨⟨hsel, hn⟩, hn0⟩, hs⟩, hc⟩, ⟨hr, hf⟩, hlex⟩ := hB
  have hr' : 0 ∈ Region.ready .any ops (Array.replicate ops.size false) := by simpa using hr
  have inv0 : HeadInv .any ops n (Array.replicate ops.size false) :=
    ⟨by simp, fun j oj _ hl => (by rw [getD_replicate_false] at hl; cases hl), fun t _ ht => getD_in (by simpa using ht) (getD_replicate_false _ _)⟩
  have htl : (l.take (n - 1)).length = n - 1 := by simp; omega
  have H := wpHead_lex (md := .any) (C := fun w' => ∃ m, w' = w.drewN m) (e := 1) (g := ops.size - n) hsel hs hc hn (l.take (n - 1)) 1 _ _
    (fun j hj => by
      have hj' : j < n - 1 := by rw [htl] at hj; exact hj
      rw [Nat.add_comm 1 j, hget, List.getElem?_take, if_pos hj'])
    (by rw [htl]; omega) (Nat.le_refl _) (inv0.set hr' hn0) (by rw [htl]; exact hlex) h
  refine wp_region_any hm ?_
  have hy : Yields P ops o0 (a.eval x) a := .inl ⟨by simp [Region.wanted, hg], fun w => BigFrame.run_move x hx w⟩
  have hfin := wpAny_of_wpHead (Q := Q) (g := ops.size - n) (fun listed a' w' hw' hL => by
    obtain ⟨m, rfl⟩ := hw'
    have := wpAny_of_seq (md := .any) (Q' := Q) ((o0 :: l).drop n) n listed a' (w.drewN m) (fun j => by rw [List.getElem?_drop, ← hops]; simp) (by rw [List.length_drop, List.length_cons, ← hsz]; exact hL.1) (hL.2 m)
    rwa [List.length_drop, List.length_cons, ← hsz] at this) _ _ _ (w.drewN 1) ⟨1, rfl⟩ H
  rw [htl, show n - 1 + (ops.size - n) = ops.size - 1 by omega] at hfin
  obtain ⟨f, hfu⟩ : ∃ f, ops.size = f + 1 := ⟨ops.size - 1, by omega⟩
  have hfu' : ops.size - 1 = f := by omega
  rw [hfu'] at hfin
  rw [hfu] at hfin hr' hf hr ⊢
  exact wpAny_take h0 hsel hf hr (fun c b w' h => hQ c b _ w' h) hy hfin
end

end Go.Proofs.YtachfmlfmpaddaaGreatDoor

/- A region that draws its order, held by an invariant: of the world, and of each operation what its slot holds. Whatever the order, each operation is looked at once. No program in sight. -/
namespace Go.Proofs.YtachfmlfmpaddaaGreatDoor
open Go.RowKit

theorem exists_least {p : Nat → Prop} (h : ∃ i, p i) : ∃ i, p i ∧ ∀ j, j < i → ¬ p j := by
  obtain ⟨i, hi⟩ := h
  induction i using Nat.strongRecOn with
  | _ i ih =>
    by_cases hex : ∃ j, j < i ∧ p j
    · obtain ⟨j, hj, hp⟩ := hex
      exact ih j hj hp
    · exact ⟨i, hi, fun j hj hp => hex ⟨j, hj, hp⟩⟩

section
variable {P : Program} {ops : Array Oper}

/-- No guard, no defer, and each operation's slot its own. -/
def plainB (ops : Array Oper) : Bool :=
  (List.range ops.size).all fun i => match ops[i]? with
    | some o => o.guard.isNone && (List.range ops.size).all fun j => j == i || (match ops[j]?, o.dst with | some o', some t => o'.dst != some t | _, _ => true)
    | none => true

theorem plainB_spec (h : plainB ops = true) {i : Nat} {o : Oper} (hi : ops[i]? = some o) : o.guard = none ∧ ∀ j o' t, ops[j]? = some o' → j ≠ i → o.dst = some t → o'.dst ≠ some t := by
  have hlt := (Array.getElem?_eq_some_iff.1 hi).1
  have h1 := List.all_eq_true.1 h i (List.mem_range.2 hlt)
  simp only [hi, Bool.and_eq_true, Option.isNone_iff_eq_none] at h1
  refine ⟨h1.1, fun j o' t hj hne ht => ?_⟩
  have hjl := (Array.getElem?_eq_some_iff.1 hj).1
  have h2 := List.all_eq_true.1 h1.2 j (List.mem_range.2 hjl)
  simp only [hj, ht, Bool.or_eq_true, beq_iff_eq, bne_iff_ne] at h2
  exact h2.resolve_left hne

theorem getD_put (a : Act) (t : Tmp) (v : Value) (u : Tmp) (h : t < a.tmps.size) : (a.put (some t) v).tmps.getD u undef = if u = t then v else a.tmps.getD u undef := by
  unfold Act.put
  simp only [Array.getD_eq_getD_getElem?, Array.getElem?_setIfInBounds]
  by_cases hu : u = t
  · subst hu; simp [h]
  · simp [hu, Ne.symm hu]

/-- Slot t is as it was as long as i is not done: whatever writes it is i, or waits for i. -/
def freshB (ops : Array Oper) (i t : Nat) : Bool := (List.range ops.size).all fun j => match ops[j]? with
  | some o => o.dst != some t || j == i || Region.waitsFor .any ops j i
  | none => true
/-- No operation writes slot t. -/
def looseB (ops : Array Oper) (t : Nat) : Bool := ops.all fun o => o.dst != some t
/-- Edges lead back. -/
def backB (ops : Array Oper) : Bool := (List.range ops.size).all fun i => match ops[i]? with
  | some o => o.after.all fun e => !Region.binds .any e || decide (e.on < i)
  | none => true

theorem count_step (listed : Array Bool) (i : Nat) (h : listed.getD i true = false) : (listed.setIfInBounds i true).toList.count false + 1 = listed.toList.count false := by
  have hi : i < listed.size := by
    by_cases hlt : i < listed.size
    · exact hlt
    · rw [Array.getD_eq_getD_getElem?, Array.getElem?_eq_none (by omega)] at h; simp at h
  have hv : listed[i] = false := by
    rw [Array.getD_eq_getD_getElem?, Array.getElem?_eq_getElem hi] at h; simpa using h
  have hm : false ∈ listed.toList := by rw [← hv]; simp
  have hpos := List.count_pos_iff.2 hm
  have hv' : listed.toList[i]'(by simpa using hi) = false := by simpa using hv
  rw [Array.toList_setIfInBounds, List.count_set (by simpa using hi), hv']
  simp only [beq_self_eq_true, if_true, show (true == false) = false from rfl, Bool.false_eq_true, if_false]
  omega

end
end Go.Proofs.YtachfmlfmpaddaaGreatDoor

/- Walks: bounds and prints. -/
namespace Go.Proofs.YtachfmlfmpaddaaGreatDoor
open Go.RowKit

def inB (n lo hi : Int) : Bool := decide (lo ≤ n) && decide (n ≤ hi)
theorem inB_iff {n lo hi : Int} : inB n lo hi = true ↔ lo ≤ n ∧ n ≤ hi := by simp [inB]
theorem inB_yes {n lo hi : Int} (h : inB n lo hi = true) : lo ≤ n ∧ n ≤ hi := inB_iff.1 h
abbrev pv (p : Int) : Bool := inB p 0 16777212

set_option maxHeartbeats 400000 in
theorem spec_l1In_c (n lo hi : Int) (w : World) :
    Calls Tryz.prog 135 #[.int .i64 n, .int .i64 lo, .int .i64 hi] w fun e w' => e = .returned (.bool (inB n lo hi)) ∧ w = w' := by
  go_enter Tryz.func135, Tryz.ntmps135
  go_wp2
  all_goals
    go_ret
    first | (have h : lo ≤ n := by assumption); exact ⟨by simp [inB, h], rfl⟩ | (have h : n < lo := by assumption); exact ⟨by simp [inB]; omega, rfl⟩


set_option maxHeartbeats 400000 in
theorem impl_printValid_c (n : Int) (w : World) :
    Calls Tryz.prog 171 #[.int .i64 n] w fun e w' => e = .returned (.bool (inB n 0 16777212)) ∧ w = w' := by
  go_enter Tryz.func171, Tryz.ntmps171
  go_wp2
  all_goals
    go_ret
    first | (have h : 0 ≤ n := by assumption); exact ⟨by simp [inB, h], rfl⟩ | (have h : n < 0 := by assumption); exact ⟨by simp [inB]; omega, rfl⟩


end Go.Proofs.YtachfmlfmpaddaaGreatDoor

/- A region that draws its order, held by an invariant, in which a write's fact may name the slot of its pointer. No program in sight. -/
namespace Go.Proofs.YtachfmlfmpaddaaGreatDoor
open Go.RowKit

/-- The slot that holds a write's pointer. -/
def storePtr (o : Oper) : Option Tmp := match o.op with | .store _ (.tmp t) _ => some t | _ => none
def refOf (o : Oper) : Option Tmp := match o.dst with | some t => some t | none => storePtr o
section
variable {P : Program} {ops : Array Oper}
/-- The slot that operation i writes, or that holds its pointer. -/
def slotOf2 (ops : Array Oper) (i : Nat) (a : Act) : Value := match (ops[i]?).bind refOf with | some t => a.tmps.getD t undef | none => undef
/-- A write waits for its pointer. -/
def ptrB (ops : Array Oper) : Bool := (List.range ops.size).all fun i => match ops[i]? with
  | some o => (match o.dst, storePtr o with
    | none, some t => (ops.all fun o' => o'.dst != some t) || o.after.any fun e => Region.binds .any e && (match ops[e.on]? with | some o' => o'.dst == some t | none => false)
    | _, _ => true)
  | none => true
theorem ptrB_spec (h : ptrB ops = true) {i : Nat} {o : Oper} {t : Tmp} (hi : ops[i]? = some o) (hd : o.dst = none) (hp : storePtr o = some t) :
    (∀ (j : Nat) (o' : Oper), ops[j]? = some o' → o'.dst ≠ some t) ∨ ∃ e ∈ o.after, Region.binds .any e = true ∧ ∃ o', ops[e.on]? = some o' ∧ o'.dst = some t := by
  have h1 := List.all_eq_true.1 h i (List.mem_range.2 (Array.getElem?_eq_some_iff.1 hi).1)
  simp only [hi, hd, hp, Bool.or_eq_true] at h1
  rcases h1 with h1 | h1
  · left
    intro j o' hj
    obtain ⟨hlt, he⟩ := Array.getElem?_eq_some_iff.1 hj
    have := Array.all_eq_true.1 h1 j hlt
    rw [he] at this
    simpa using this
  · right
    obtain ⟨k, hk, hke⟩ := Array.any_eq_true.1 h1
    simp only [Bool.and_eq_true] at hke
    refine ⟨o.after[k], Array.getElem_mem hk, hke.1, ?_⟩
    have h2 := hke.2
    cases ho : ops[(o.after[k]).on]? with
    | none => rw [ho] at h2; simp at h2
    | some o' => rw [ho] at h2; exact ⟨o', rfl, by simpa using h2⟩

theorem wp_region_inv2 {id : Nat} {Q : Exit → Act → World → Prop} {a0 : Act} {w0 : World} (hm : P.follows .mixedOrders = true) (hp : plainB ops = true) (hback : backB ops = true) (hptr : ptrB ops = true)
    (hdst : (ops.all fun o => match o.dst with | some t => decide (t < a0.tmps.size) | none => true) = true)
    (J : Nat → World → Prop) (S : World → World → Prop) (F : Nat → Value → World → Prop) (hJ : J 0 w0.drew) (hF : ∀ i v w w', S w w' → F i v w → F i v w')
    (hop : ∀ (i : Nat) (o : Oper), ops[i]? = some o → ∀ (n : Nat) (a : Act) (w : World), n < ops.size → J n w →
      (∀ t, freshB ops i t = true → a.tmps.getD t undef = a0.tmps.getD t undef) →
      (∀ e ∈ o.after, Region.binds .any e = true → F e.on (slotOf2 ops e.on a) w) →
      o.wp P a w (fun a' w' => ∃ v, a' = a.put o.dst v ∧ J (n + 1) w' ∧ S w w' ∧ F i (if o.dst.isSome then v else slotOf2 ops i a) w') Q)
    (hend : ∀ (a : Act) (w : World), J ops.size w → a.tmps.size = a0.tmps.size → a.defers = a0.defers → (∀ t, looseB ops t = true → a.tmps.getD t undef = a0.tmps.getD t undef) → (∀ (i : Nat) (o : Oper), ops[i]? = some o → F i (slotOf2 ops i a) w) → Q .normal a w) :
    (Code.region id ops true).wp P Q a0 w0 := by
  refine wp_region_any hm ?_
  have hdst' : ∀ (i : Nat) (o : Oper) (t : Tmp), ops[i]? = some o → o.dst = some t → t < a0.tmps.size := by
    intro i o t hi ht
    have hlt := (Array.getElem?_eq_some_iff.1 hi)
    obtain ⟨hlt, he⟩ := hlt
    have h1 := Array.all_eq_true.1 hdst i hlt
    rw [he, ht] at h1
    exact of_decide_eq_true h1
  have hback' : ∀ (i : Nat) (o : Oper), ops[i]? = some o → ∀ e ∈ o.after, Region.binds .any e = true → e.on < i := by
    intro i o hi e he hbe
    have h1 := List.all_eq_true.1 hback i (List.mem_range.2 (Array.getElem?_eq_some_iff.1 hi).1)
    simp only [hi] at h1
    obtain ⟨k, hk, hke⟩ := Array.getElem_of_mem he
    have h2 := Array.all_eq_true.1 h1 k hk
    rw [hke, hbe] at h2
    exact of_decide_eq_true (by simpa using h2)
  suffices H : ∀ (f n : Nat) (listed : Array Bool) (a : Act) (w : World), listed.size = ops.size → listed.toList.count false = f → n + f = ops.size → J n w → a.tmps.size = a0.tmps.size → a.defers = a0.defers →
      (∀ j o, ops[j]? = some o → listed.getD j false = true → ∀ e ∈ o.after, Region.binds .any e = true → listed.getD e.on false = true) →
      (∀ t, (∀ (i : Nat) (o : Oper), ops[i]? = some o → listed.getD i false = true → o.dst ≠ some t) → a.tmps.getD t undef = a0.tmps.getD t undef) →
      (∀ (i : Nat) (o : Oper), ops[i]? = some o → listed.getD i false = true → F i (slotOf2 ops i a) w) → wpAny P .any ops Q f listed a w by
    refine H _ 0 _ _ _ (by simp) (by simp) (by simp) hJ rfl rfl ?_ ?_ ?_
    · intro j o _ h; rw [getD_replicate_false] at h; cases h
    · intro t _; rfl
    · intro i o _ h; rw [getD_replicate_false] at h; cases h
  intro f
  induction f with
  | zero =>
    intro n listed a w hs hc hnf hj hsz hdf _ hsame hhold
    obtain rfl : n = ops.size := by omega
    have hall : ∀ i, i < ops.size → listed.getD i false = true := by
      intro i hi
      have hnot : false ∉ listed.toList := List.count_eq_zero.1 hc
      rw [Array.getD_eq_getD_getElem?, Array.getElem?_eq_getElem (by omega)]
      simp only [Option.getD_some]
      cases hv : listed[i]'(by omega) with
      | true => rfl
      | false => exact absurd (by rw [← hv]; simp) hnot
    refine ⟨?_, hend a w hj hsz hdf (fun t ht => hsame t fun i o hi _ => ?_) (fun i o hi => hhold i o hi (hall i (Array.getElem?_eq_some_iff.1 hi).1))⟩
    · rw [List.eq_nil_iff_forall_not_mem]
      intro i hi
      obtain ⟨h1, o, ho, _⟩ := mem_ready.1 hi
      have h2 := hall i (Array.getElem?_eq_some_iff.1 ho).1
      rw [Array.getD_eq_getD_getElem?, Array.getElem?_eq_getElem (by have := (Array.getElem?_eq_some_iff.1 ho).1; omega)] at h1 h2
      simp only [Option.getD_some] at h1 h2
      rw [h1] at h2; cases h2
    · have hl := Array.all_eq_true.1 ht i (Array.getElem?_eq_some_iff.1 hi).1
      rw [(Array.getElem?_eq_some_iff.1 hi).2] at hl
      simpa using hl
  | succ f ih =>
    intro n listed a w hs hc hnf hj hsz hdf hcl hsame hhold
    refine ⟨fun h0 => ?_, fun i hi => ?_⟩
    · exfalso
      have hmem : false ∈ listed.toList := List.count_pos_iff.1 (by omega)
      have hex : ∃ i, i < ops.size ∧ listed.getD i true = false := by
        obtain ⟨k, hk, hke⟩ := List.getElem_of_mem hmem
        refine ⟨k, by simpa [hs] using hk, ?_⟩
        rw [Array.getD_eq_getD_getElem?, Array.getElem?_eq_getElem (by simpa using hk)]
        simpa using hke
      obtain ⟨i, ⟨hi, hf⟩, hmin⟩ := exists_least hex
      have hr : i ∈ Region.ready .any ops listed := mem_ready.2 ⟨hf, ops[i], Array.getElem?_eq_getElem hi, fun e he hbe => by
        have hlt := hback' i _ (Array.getElem?_eq_getElem hi) e he hbe
        have := hmin e.on hlt
        rw [Array.getD_eq_getD_getElem?, Array.getElem?_eq_getElem (by omega)] at this ⊢
        simp only [Option.getD_some] at this ⊢
        cases hv : listed[e.on]'(by omega) with
        | true => rfl
        | false => exact absurd ⟨by omega, hv⟩ this⟩
      rw [h0] at hr; cases hr
    · obtain ⟨hun, o, ho, hdeps⟩ := mem_ready.1 hi
      have hil : i < listed.size := by rw [hs]; exact (Array.getElem?_eq_some_iff.1 ho).1
      have hunf : listed.getD i false = false := by
        rw [Array.getD_eq_getD_getElem?, Array.getElem?_eq_getElem hil] at hun ⊢
        simpa using hun
      obtain ⟨hgu, hslot⟩ := plainB_spec hp ho
      unfold wpOp
      simp only [ho]
      rw [if_pos (by simp [Region.wanted, hgu])]
      refine .inl (Oper.wp_mono ?_ (hop i o ho n a w (by omega) hj (fun t ht => hsame t fun j o' hj' hl => ?_) (fun e he hbe => ?_)))
      · rintro a' w' ⟨v, rfl, hj', hS, hF'⟩
        have hother : ∀ j o', ops[j]? = some o' → j ≠ i → listed.getD j false = true → slotOf2 ops j (a.put o.dst v) = slotOf2 ops j a := by
          intro j o' hj2 hne hl
          unfold slotOf2
          rw [hj2]
          simp only [Option.bind_some]
          cases ht : refOf o' with
          | none => simp
          | some t =>
            simp only
            cases hd : o.dst with
            | none => simp [Act.put]
            | some u =>
              rw [getD_put _ _ _ _ (by rw [hsz]; exact hdst' i o u ho hd), if_neg]
              rintro rfl
              cases hod : o'.dst with
              | some t' =>
                simp only [refOf, hod, Option.some.injEq] at ht
                subst ht
                exact hslot j o' _ hj2 hne hd hod
              | none =>
                simp only [refOf, hod] at ht
                rcases ptrB_spec hptr hj2 hod ht with hall | ⟨e, he, hbe, o2, ho2, hd2⟩
                · exact hall i o ho hd
                · have hle := hcl j o' hj2 hl e he hbe
                  have hei : e.on ≠ i := by rintro h; rw [h, hunf] at hle; cases hle
                  exact hslot e.on o2 _ ho2 hei hd hd2
        have hget : ∀ j, (listed.setIfInBounds i true).getD j false = true → j = i ∨ listed.getD j false = true := by
          intro j hjl
          by_cases hji : j = i
          · exact .inl hji
          · right
            rw [Array.getD_eq_getD_getElem?, Array.getElem?_setIfInBounds_ne (Ne.symm hji)] at hjl
            rw [Array.getD_eq_getD_getElem?]; exact hjl
        have hget' : ∀ j, listed.getD j false = true → (listed.setIfInBounds i true).getD j false = true := by
          intro j hjl
          by_cases hji : j = i
          · rw [hji] at hjl; rw [hunf] at hjl; cases hjl
          · rw [Array.getD_eq_getD_getElem?, Array.getElem?_setIfInBounds_ne (Ne.symm hji)]
            rw [Array.getD_eq_getD_getElem?] at hjl; exact hjl
        refine ih (n + 1) _ _ _ (by simpa using hs) (by have := count_step listed i hun; omega) (by omega) hj' ?_ ?_ ?_ ?_ ?_
        · unfold Act.put; cases o.dst <;> simp [hsz]
        · unfold Act.put; cases o.dst <;> simp [hdf]
        · intro j oj hoj hl e he hbe
          rcases hget j hl with rfl | hl
          · obtain rfl : oj = o := Option.some.inj (hoj.symm.trans ho)
            exact hget' _ (hdeps e he hbe)
          · exact hget' _ (hcl j oj hoj hl e he hbe)
        · intro t ht
          have hne : o.dst ≠ some t := ht i o ho (by rw [Array.getD_eq_getD_getElem?, Array.getElem?_setIfInBounds_self_of_lt hil]; rfl)
          rw [← hsame t (fun j oj hoj hl => ht j oj hoj (hget' j hl))]
          cases hd : o.dst with
          | none => simp [Act.put]
          | some u =>
            rw [getD_put _ _ _ _ (by rw [hsz]; exact hdst' i o u ho hd), if_neg]
            rintro rfl
            exact hne hd
        · intro j oj hoj hl
          by_cases hji : j = i
          · subst hji
            obtain rfl : oj = o := Option.some.inj (hoj.symm.trans ho)
            have : slotOf2 ops j (a.put oj.dst v) = if oj.dst.isSome then v else slotOf2 ops j a := by
              cases hd : oj.dst with
              | none => simp [Act.put]
              | some u =>
                unfold slotOf2
                rw [hoj]
                simp only [Option.bind_some, refOf, hd]
                rw [getD_put _ _ _ _ (by rw [hsz]; exact hdst' j oj u hoj hd)]
                simp
            rw [this]; exact hF'
          · rcases hget j hl with h | hl
            · exact absurd h hji
            · rw [hother j oj hoj hji hl]
              exact hF j _ w w' hS (hhold j oj hoj hl)
      · have h1 := List.all_eq_true.1 ht j (List.mem_range.2 (Array.getElem?_eq_some_iff.1 hj').1)
        simp only [hj', Bool.or_eq_true, bne_iff_ne, beq_iff_eq] at h1
        rcases h1 with (h1 | h1) | h1
        · exact h1
        · subst h1; rw [hunf] at hl; cases hl
        · obtain ⟨o2, ho2, x, hx, hxb, hon⟩ := Region.waitsFor_spec h1
          obtain rfl : o2 = o' := Option.some.inj (ho2.symm.trans hj')
          have := hcl j o2 hj' hl x hx hxb
          rw [hon, hunf] at this; cases this
      · have hd := hdeps e he hbe
        have hlt := hback' i o ho e he hbe
        exact hhold e.on ops[e.on] (Array.getElem?_eq_getElem (by have := (Array.getElem?_eq_some_iff.1 ho).1; omega)) hd

/-- The frame with the slots that a region writes taken from tm. -/
def refillL (l : List Oper) (a tm : Array Value) : Array Value := match l with
  | [] => a
  | o :: r => refillL r (match o.dst with | some t => a.setIfInBounds t (tm.getD t undef) | none => a) tm
theorem refillL_size : ∀ (l : List Oper) (a tm : Array Value), (refillL l a tm).size = a.size
  | [], a, tm => rfl
  | o :: r, a, tm => by
    unfold refillL
    rw [refillL_size r]
    cases o.dst <;> simp
theorem refillL_get : ∀ (l : List Oper) (a tm : Array Value) (t : Nat), t < a.size → (refillL l a tm).getD t undef = if (l.any fun o => o.dst == some t) then tm.getD t undef else a.getD t undef
  | [], a, tm, t, _ => by simp [refillL]
  | o :: r, a, tm, t, ht => by
    unfold refillL
    cases hd : o.dst with
    | none =>
      simp only [List.any_cons, hd]
      rw [refillL_get r a tm t ht]
      simp
    | some u =>
      simp only [List.any_cons, hd]
      rw [refillL_get r _ tm t (by simpa using ht)]
      by_cases hu : u = t
      · subst hu
        simp only [beq_self_eq_true, Bool.true_or, if_true]
        split
        · rfl
        · simp [Array.getD_eq_getD_getElem?, ht]
      · have : (some u == some t) = false := by simp [hu]
        rw [this, Bool.false_or]
        have e2 : (a.setIfInBounds u (tm.getD u undef)).getD t undef = a.getD t undef := by rw [Array.getD_eq_getD_getElem?, Array.getD_eq_getD_getElem?, Array.getElem?_setIfInBounds, if_neg hu, ← Array.getD_eq_getD_getElem?]
        rw [e2]
theorem refill_eq {a0 tm : Array Value} (hs : tm.size = a0.size) (hb : ∀ t, looseB ops t = true → tm.getD t undef = a0.getD t undef) : tm = refillL ops.toList a0 tm := by
  have h : ∀ t, t < tm.size → tm.getD t undef = (refillL ops.toList a0 tm).getD t undef := by
    intro t ht
    rw [refillL_get _ _ _ _ (by omega)]
    by_cases hn : (ops.toList.any fun o => o.dst == some t) = true
    · rw [if_pos hn]
    · rw [if_neg hn]
      refine hb t ?_
      rw [looseB, Array.all_eq_true]
      intro i hi
      cases hc : (ops[i].dst == some t)
      · simpa using hc
      · exact absurd (List.any_eq_true.2 ⟨ops[i], Array.mem_toList_iff.2 (Array.getElem_mem hi), hc⟩) hn
  refine Array.ext (by rw [refillL_size, hs]) fun i h1 h2 => ?_
  have := h i h1
  simpa [Array.getD_eq_getD_getElem?, h1, h2] using this

theorem wp_region_inv3 {id : Nat} {Q : Exit → Act → World → Prop} {a0 : Act} {w0 : World} (hm : P.follows .mixedOrders = true) (hp : plainB ops = true) (hback : backB ops = true) (hptr : ptrB ops = true)
    (hdst : (ops.all fun o => match o.dst with | some t => decide (t < a0.tmps.size) | none => true) = true)
    (J : Nat → World → Prop) (S : World → World → Prop) (F : Nat → Value → World → Prop) (hJ : J 0 w0.drew) (hF : ∀ i v w w', S w w' → F i v w → F i v w')
    (hop : ∀ (i : Nat) (o : Oper), ops[i]? = some o → ∀ (n : Nat) (a : Act) (w : World), n < ops.size → J n w →
      (∀ t, freshB ops i t = true → a.tmps.getD t undef = a0.tmps.getD t undef) →
      (∀ e ∈ o.after, Region.binds .any e = true → F e.on (slotOf2 ops e.on a) w) →
      o.wp P a w (fun a' w' => ∃ v, a' = a.put o.dst v ∧ J (n + 1) w' ∧ S w w' ∧ F i (if o.dst.isSome then v else slotOf2 ops i a) w') Q)
    (hend : ∀ (tm : Array Value) (w : World), J ops.size w → (∀ (i : Nat) (o : Oper), ops[i]? = some o → F i (slotOf2 ops i ⟨tm, a0.defers⟩) w) → Q .normal ⟨refillL ops.toList a0.tmps tm, a0.defers⟩ w) :
    (Code.region id ops true).wp P Q a0 w0 := by
  refine wp_region_inv2 hm hp hback hptr hdst J S F hJ hF hop ?_
  rintro ⟨tm, df⟩ w hj hsz hdf hb hFF
  obtain rfl : df = a0.defers := hdf
  have e := refill_eq hsz hb
  have := hend tm w hj hFF
  rw [← e] at this
  exact this

end
end Go.Proofs.YtachfmlfmpaddaaGreatDoor
