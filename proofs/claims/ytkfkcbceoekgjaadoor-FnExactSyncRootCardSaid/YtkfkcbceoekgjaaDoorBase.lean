/- Plain words for memory, used by every walk of this seat: what a slice value reads as, what is owned, and what keeps it. No program in sight. -/
import Derived.WalkKit
import Derived.WalkSpells
import Derived.WalkLawsBesides
import Derived.Deep.Draws
import Derived.Maps.AppendAt
namespace Go.Proofs.YtkfkcbceoekgjaaDoor
open Go.RowKit

theorem hid {p : Prop} (h : p) : Hid p := h
theorem ret_b {x y : Bool} (h : x = y) : Ending.returned (.bool x) = .returned (.bool y) := by rw [h]
theorem ret_i {k : IntKind} {x y : Int} (h : x = y) : Ending.returned (.int k x) = .returned (.int k y) := by rw [h]
theorem ret_v {x y : Value} (h : x = y) : Ending.returned x = .returned y := by rw [h]

/-! ### Below -/
theorem bl_drewN {B : Nat} {a w : World} (h : Below B a w) (n : Nat) : Below B a (w.drewN n) := ⟨h.os, h.tape, h.output, h.size, h.block⟩
/-- What a callee leaves alone is left alone since an earlier world, too. -/
theorem bl_then {w w1 w2 : World} (h : Below w.heap.size w w1) (h' : Below w1.heap.size w1 w2) : Below w.heap.size w w2 := h.trans (h'.mono h.size)
theorem bl_grown {w0 w w' : World} {B : Nat} {row : Option Nat} (h : Below B w0 w) (hg : w.grownBy w' row) (hB : B ≤ w.heap.size) (hr : ∀ g, row = some g → B ≤ g) : Below B w0 w' := h.grown hg hB hr
theorem grown_drewN (w : World) (n : Nat) : Grown w (w.drewN n) := ⟨⟨rfl, rfl, (World.keptBut_refl w (fun _ => False)).2.2⟩, fun _ => rfl, Nat.le_refl _⟩
theorem gb_of_below {w w' : World} (h : Below w.heap.size w w') (row : Option Nat) : w.grownBy w' row := ⟨h.os, h.tape, h.output, h.size, fun i hi _ => h.block i hi⟩
theorem gb_drewN {w w' : World} {row : Option Nat} (h : w.grownBy w' row) (n : Nat) : w.grownBy (w'.drewN n) row := ⟨h.os, h.tape, h.output, h.size, h.block⟩

/-- Writes to a row that is new, or is the one that may be written. -/
theorem gb_out {w1 wr w' : World} {g0 : Nat} {row : Option Nat} (h : w1.grownBy wr (some g0)) (hg : wr.grownBy w' row) (hr : ∀ g, row = some g → g = g0 ∨ w1.heap.size ≤ g) : w1.grownBy w' (some g0) :=
  ⟨hg.os.trans h.os, hg.tape.trans h.tape, hg.output.trans h.output, Nat.le_trans h.size hg.size, fun k hk hne => (hg.block k (Nat.lt_of_lt_of_le hk h.size) (fun e => by
    rcases hr k e.symm with e' | e'
    · exact hne (by rw [e'])
    · omega)).trans (h.block k hk hne)⟩

/-! ### Slices -/
/-- From offset o of block b stand the cells cs. -/
def At (w : World) (b o : Nat) (cs : List Value) : Prop := ∀ j v, cs[j]? = some v → w.cell? ⟨b, o + j, none⟩ = some v

/-- The slice value v has n elements of k cells each, which read as cs and lie below block B. -/
def Sl (w : World) (B k : Nat) (v : Value) (n : Nat) (cs : List Value) : Prop :=
  ∃ a c, v = .slice a n c ∧ n ≤ c ∧ c ≤ maxLen ∧ cs.length = n * k ∧ (0 < n → ∃ b o, a = some ⟨b, o, none⟩ ∧ b < B ∧ At w b o cs)

theorem At.below {w w' : World} {B b o : Nat} {cs : List Value} (h : At w b o cs) (hb : Below B w w') (hB : b < B) : At w' b o cs :=
  fun j v hj => (hb.cell (p := ⟨b, o + j, none⟩) hB).trans (h j v hj)

theorem Sl.below {w w' : World} {B B' k n : Nat} {v : Value} {cs : List Value} (h : Sl w B k v n cs) (hb : Below B' w w') (hB : B ≤ B') : Sl w' B k v n cs := by
  obtain ⟨a, c, rfl, h1, h2, h3, h4⟩ := h
  refine ⟨a, c, rfl, h1, h2, h3, fun hn => ?_⟩
  obtain ⟨b, o, rfl, hlt, hat⟩ := h4 hn
  exact ⟨b, o, rfl, hlt, hat.below hb (Nat.lt_of_lt_of_le hlt hB)⟩

theorem Sl.more {w : World} {B B' k n : Nat} {v : Value} {cs : List Value} (h : Sl w B k v n cs) (hB : B ≤ B') : Sl w B' k v n cs := by
  obtain ⟨a, c, rfl, h1, h2, h3, h4⟩ := h
  refine ⟨a, c, rfl, h1, h2, h3, fun hn => ?_⟩
  obtain ⟨b, o, rfl, hlt, hat⟩ := h4 hn
  exact ⟨b, o, rfl, Nat.lt_of_lt_of_le hlt hB, hat⟩

theorem Sl.nil (w : World) (B k c : Nat) (a : Option Addr) (hc : c ≤ maxLen) : Sl w B k (.slice a 0 c) 0 [] := ⟨a, c, rfl, Nat.zero_le _, hc, by simp, fun h => absurd h (by omega)⟩

theorem Sl.of_own {w : World} {base e k n : Nat} {v : Value} {cs : List Value} (h : w.ownsRow base e k v n cs) : Sl w w.heap.size k v n cs := by
  rcases h.2 with ⟨rfl, rfl⟩ | ⟨g, cap, cur, rfl, hb, hg, hnc, hcm, hcs, ht⟩
  · exact ⟨none, 0, rfl, Nat.le_refl _, by unfold maxLen; omega, by simpa using h.1, fun h => absurd h (by omega)⟩
  · refine ⟨some ⟨g, 0, none⟩, cap, rfl, hnc, hcm, h.1, fun _ => ⟨g, 0, rfl, (Array.getElem?_eq_some_iff.1 hg).1, fun j v hj => ?_⟩⟩
    have := h.cells (g := g) (by simp [Value.ownBlock]) j v hj
    have hadd : (⟨g, 0, none⟩ : Addr).add j = ⟨g, j, none⟩ := by unfold Addr.add; split <;> simp_all
    rw [hadd] at this
    simpa using this

/-- v reads as the list xs, each element as the cells that enc gives, k of them. -/
def Rd {α : Type} (enc : α → List Value) (k : Nat) (w : World) (B : Nat) (v : Value) (xs : List α) : Prop := Sl w B k v xs.length (xs.flatMap enc)
/-- v is a row of the call's own from block B on, of element type e, and reads as xs. -/
def Own {α : Type} (enc : α → List Value) (e k : Nat) (w : World) (B : Nat) (v : Value) (xs : List α) : Prop := w.ownsRow B e k v xs.length (xs.flatMap enc)

section
variable {α : Type} {enc : α → List Value} {e k B B' : Nat} {w w' : World} {v : Value} {xs : List α}
theorem Rd.below (h : Rd enc k w B v xs) (hb : Below B' w w') (hB : B ≤ B') : Rd enc k w' B v xs := Sl.below h hb hB
theorem Rd.more (h : Rd enc k w B v xs) (hB : B ≤ B') : Rd enc k w B' v xs := Sl.more h hB
theorem Rd.on (h : Rd enc k w w.heap.size v xs) (hb : Below w.heap.size w w') : Rd enc k w' w'.heap.size v xs := (h.below hb (Nat.le_refl _)).more hb.size
theorem Rd.drewN (h : Rd enc k w B v xs) (n : Nat) : Rd enc k (w.drewN n) B v xs := h
theorem Rd.of_own (h : Own enc e k w B v xs) : Rd enc k w w.heap.size v xs := Sl.of_own h
theorem Rd.nil (w : World) (B k c : Nat) (a : Option Addr) (hc : c ≤ maxLen) : Rd enc k w B (.slice a 0 c) [] := Sl.nil w B k c a hc
theorem Own.nil_ : Own enc e k w B (.slice none 0 0) [] := World.ownsRow_nil _ _ _ _
theorem Own.made (w : World) (hB : B ≤ w.heap.size) : Own enc e k (w.alloc (.cells #[] e)) B (.slice (some ⟨w.heap.size, 0, none⟩) 0 0) [] := World.ownsRow_made w #[] 0 hB (by simp) (by simp)
/-- A literal. -/
theorem Own.lit (w : World) (hB : B ≤ w.heap.size) (xs : List α) (cs : Array Value) (n : Nat) (hn : xs.length = n) (hc : cs.toList = xs.flatMap enc) (hk : (xs.flatMap enc).length = n * k) (hm : n ≤ maxLen) :
    Own enc e k (w.alloc (.cells cs e)) B (.slice (some ⟨w.heap.size, 0, none⟩) n n) xs := by
  unfold Own
  rw [← hc, hn]
  exact World.ownsRow_lit w cs n hB hm (by rw [← hk, ← hc]; simp)
theorem Own.alloc (h : Own enc e k w B v xs) (o : Obj) : Own enc e k (w.alloc o) B v xs := World.ownsRow.alloc h o
theorem Own.drewN (h : Own enc e k w B v xs) (n : Nat) : Own enc e k (w.drewN n) B v xs := h
theorem Own.kept {row : Option Nat} (h : Own enc e k w B v xs) (hg : w.grownBy w' row) (hne : v.ownBlock = none ∨ v.ownBlock ≠ row) : Own enc e k w' B v xs := World.ownsRow.kept h hg hne
theorem Own.lt (h : Own enc e k w B v xs) : ∀ g, v.ownBlock = some g → B ≤ g ∧ g < w.heap.size := World.ownsRow.lt h
theorem Own.less (h : Own enc e k w B v xs) (hB : B' ≤ B) : Own enc e k w B' v xs := by
  refine ⟨h.1, ?_⟩
  rcases h.2 with h2 | ⟨g, cap, cur, hv, hg, r⟩
  · exact .inl h2
  · exact .inr ⟨g, cap, cur, hv, Nat.le_trans hB hg, r⟩
/-- A callee that leaves alone what is there keeps what is owned. -/
theorem Own.on (h : Own enc e k w B v xs) (hb : Below w.heap.size w w') : Own enc e k w' B v xs := by
  refine ⟨h.1, ?_⟩
  rcases h.2 with h2 | ⟨g, cap, cur, hv, hg, hh, r⟩
  · exact .inl h2
  · exact .inr ⟨g, cap, cur, hv, hg, (hb.block g (Array.getElem?_eq_some_iff.1 hh).1).trans hh, r⟩

theorem flatMap_get (hk : ∀ x : α, (enc x).length = k) : ∀ (xs : List α) (i j : Nat) (x : α) (u : Value), xs[i]? = some x → (enc x)[j]? = some u → (xs.flatMap enc)[i * k + j]? = some u := by
  intro xs
  induction xs with
  | nil => intro i j x u h; simp at h
  | cons y ys ih =>
    intro i j x u h hu
    rw [List.flatMap_cons]
    cases i with
    | zero =>
      simp only [List.getElem?_cons_zero, Option.some.injEq] at h
      subst h
      have hj : j < (enc y).length := by
        rw [List.getElem?_eq_some_iff] at hu
        exact hu.1
      rw [Nat.zero_mul, Nat.zero_add, List.getElem?_append_left hj]
      exact hu
    | succ i =>
      simp only [List.getElem?_cons_succ] at h
      have := ih i j x u h hu
      rw [List.getElem?_append_right (by rw [hk, Nat.succ_mul]; omega), hk, show (i + 1) * k + j - k = i * k + j from by rw [Nat.succ_mul]; omega]
      exact this

/-- What a walk asks of a slice: its value written out, and for every index the element and its cells. -/
theorem Rd.openN {n : Nat} (h : Rd enc k w B v xs) (hk : ∀ x : α, (enc x).length = k) (hn : xs.length = n) :
    ∃ a c, v = .slice a n c ∧ n ≤ c ∧ c ≤ 9223372036854775807 ∧
      ∀ i, i < n → ∃ b o x, a = some ⟨b, o, none⟩ ∧ b < B ∧ Hid (xs[i]? = some x) ∧ ∀ j u, (enc x)[j]? = some u → w.cell? ⟨b, o + (i * k + j), none⟩ = some u := by
  subst hn
  obtain ⟨a, c, rfl, h1, h2, h3, h4⟩ := h
  refine ⟨a, c, rfl, h1, by simpa [maxLen] using h2, fun i hi => ?_⟩
  obtain ⟨b, o, rfl, hb, hat⟩ := h4 (by omega)
  exact ⟨b, o, xs[i], rfl, hb, List.getElem?_eq_getElem hi, fun j u hu => hat _ _ (flatMap_get hk xs i j _ u (List.getElem?_eq_getElem hi) hu)⟩
end

/-- A write to one row, far from what is asked. -/
theorem Rd.far {α : Type} {enc : α → List Value} {k B : Nat} {w w' : World} {v : Value} {xs : List α} {row : Option Nat} (h : Rd enc k w B v xs) (hB : B ≤ w.heap.size) (hg : w.grownBy w' row) (hr : ∀ g, row = some g → B ≤ g) : Rd enc k w' B v xs :=
  h.below ((Below.refl B w).grown hg hB hr) (Nat.le_refl _)
theorem Own.far {α : Type} {enc : α → List Value} {e k B : Nat} {w w' : World} {v : Value} {xs : List α} {row : Option Nat} (h : Own enc e k w B v xs) (hg : w.grownBy w' row) (hr : ∀ g, row = some g → g < B) : Own enc e k w' B v xs :=
  h.kept hg (by
    cases hv : v.ownBlock with
    | none => exact .inl rfl
    | some g => exact .inr (fun e => by have h1 := (h.lt g hv).1; have h2 := hr g e.symm; omega))

theorem made_flat {α : Type} {enc : α → List Value} (z : Value) (x : α) (h : enc x = [z]) (n : Nat) : (madeCells #[z] n).toList = (List.replicate n x).flatMap enc := by
  apply List.ext_getElem
  · rw [Array.length_toList, size_madeCells]
    induction n with
    | zero => rfl
    | succ n ih => rw [List.replicate_succ, List.flatMap_cons, List.length_append, h, ← ih]; simp; omega
  · intro j h1 h2
    have hf : ∀ n : Nat, (List.replicate n x).flatMap enc = List.replicate n z := by
      intro n
      induction n with
      | zero => rfl
      | succ n ih => rw [List.replicate_succ, List.flatMap_cons, ih, h]; rfl
    simp only [hf, List.getElem_replicate]
    simp [madeCells, Nat.mod_one]

/-! ### Lists in a loop -/
theorem take_snoc {α : Type} (xs : List α) (k : Nat) (h : k < xs.length) : xs.take (k + 1) = xs.take k ++ [xs[k]] := by
  rw [List.take_succ_eq_append_getElem h]
theorem take_snoc' {α : Type} {xs : List α} {k : Nat} {x : α} (h : xs[k]? = some x) : xs.take (k + 1) = xs.take k ++ [x] := by
  rw [List.take_add_one, h]; rfl
theorem all_succ {α : Type} (p : α → Bool) {xs : List α} {k : Nat} {x : α} (h : xs[k]? = some x) : (xs.take (k + 1)).all p = ((xs.take k).all p && p x) := by
  rw [take_snoc' h, List.all_append]; simp only [List.all_cons, List.all_nil, Bool.and_true]
theorem any_succ {α : Type} (p : α → Bool) {xs : List α} {k : Nat} {x : α} (h : xs[k]? = some x) : (xs.take (k + 1)).any p = ((xs.take k).any p || p x) := by
  rw [take_snoc' h, List.any_append]; simp only [List.any_cons, List.any_nil, Bool.or_false]
theorem foldl_succ {α β : Type} (f : β → α → β) (b : β) {xs : List α} {k : Nat} {x : α} (h : xs[k]? = some x) : (xs.take (k + 1)).foldl f b = f ((xs.take k).foldl f b) x := by
  rw [take_snoc' h, List.foldl_append]; rfl
theorem filter_succ {α : Type} (p : α → Bool) {xs : List α} {k : Nat} {x : α} (h : xs[k]? = some x) : (xs.take (k + 1)).filter p = (xs.take k).filter p ++ (if p x then [x] else []) := by
  rw [take_snoc' h, List.filter_append]; cases hp : p x <;> simp [hp]
theorem all_no {α : Type} (p : α → Bool) {xs : List α} {k : Nat} {x : α} (h : xs[k]? = some x) (hp : p x = false) : xs.all p = false := by
  rw [List.all_eq_false]; exact ⟨x, List.mem_of_getElem? h, by simp [hp]⟩
theorem all_get {α : Type} (p : α → Bool) {xs : List α} {k : Nat} {x : α} (h : xs[k]? = some x) (hp : xs.all p = true) : p x = true := List.all_eq_true.1 hp _ (List.mem_of_getElem? h)
theorem take_all {α : Type} {xs : List α} {n k : Nat} (hx : xs.length = n) (hk : n ≤ k) : xs.take k = xs := List.take_of_length_le (by omega)
/-- Two lists that agree up to k, and what follows. -/
theorem eq_of_take {α : Type} {xs ys : List α} {n k : Nat} (hx : xs.length = n) (hy : ys.length = n) (hk : n ≤ k) (h : xs.take k = ys.take k) : xs = ys := by
  rwa [List.take_of_length_le (by omega), List.take_of_length_le (by omega)] at h
theorem take_eq_succ {α : Type} {xs ys : List α} {k : Nat} {x : α} (h : xs.take k = ys.take k) (hx : xs[k]? = some x) (hy : ys[k]? = some x) : xs.take (k + 1) = ys.take (k + 1) := by
  rw [List.take_add_one, List.take_add_one, h, hx, hy]
theorem ne_of_get {α : Type} {xs ys : List α} {k : Nat} {x y : α} (hx : xs[k]? = some x) (hy : ys[k]? = some y) (h : x ≠ y) : xs ≠ ys := by
  rintro rfl
  rw [hx] at hy
  exact h (Option.some.inj hy)

/-- The first k cells are those of ys: an array being filled. -/
def Pre (cs ys : List Value) (k : Nat) : Prop := cs.length = ys.length ∧ cs.take k = ys.take k
theorem Pre.zero {cs ys : List Value} (h : cs.length = ys.length) : Pre cs ys 0 := ⟨h, by simp⟩
theorem Pre.step {cs ys : List Value} {k : Nat} {u : Value} (h : Pre cs ys k) (hu : ys[k]? = some u) : Pre (cs.set k u) ys (k + 1) := by
  obtain ⟨hk, rfl⟩ := List.getElem?_eq_some_iff.1 hu
  refine ⟨by simp [h.1], ?_⟩
  have hk' : k < cs.length := by rw [h.1]; exact hk
  rw [List.take_succ_eq_append_getElem (by simpa using hk'), List.take_succ_eq_append_getElem hk, List.take_set_of_le (Nat.le_refl k), h.2]
  simp
theorem Pre.all {cs ys : List Value} {k : Nat} (h : Pre cs ys k) (hk : ys.length ≤ k) : cs = ys := by
  have := h.2
  rwa [List.take_of_length_le (by rw [h.1]; exact hk), List.take_of_length_le hk] at this
theorem Pre.get {cs ys : List Value} {k : Nat} (h : Pre cs ys k) {j : Nat} (hj : j < ys.length) : ∃ u, cs[j]? = some u := ⟨cs[j]'(by rw [h.1]; exact hj), List.getElem?_eq_getElem _⟩

/-- 'append(v, s...)': v owned, s whatever slice is read. -/
theorem run_cat {α : Type} {enc : α → List Value} {P : Program} (w : World) (base : Nat) (t ty e : TypeId) (i : TypeInfo) (z : Value) (size bytes : Nat) (ht : P.underlying t = some (.slice e)) (hi : P.info? e = some i) (hz : i.zero = some z)
    (hsize : i.size = size) (hby : i.bytes = bytes) (hzs : z.cells.size = size) (hsz : 0 < size) (v sv : Value) (acc ys : List α) (hown : Own enc e size w base v acc) (Bs : Nat) (hr : Rd enc size w Bs sv ys)
    (h1 : ∀ y ∈ ys, ∀ u ∈ enc y, u.oneCell' = true) (hn : acc.length + ys.length < 1099511627776) (hbytes : bytes ≤ 100) (hbase : base ≤ w.heap.size) :
    ∃ v' w', (Builtin.append_ #[t, t] ty #[v, sv]).run P w = .ok v' w' ∧ Own enc e size w' base v' (acc ++ ys) ∧ w.grownBy w' v.ownBlock ∧ (∀ g, v'.ownBlock = some g → v.ownBlock = some g ∨ g = w.heap.size) := by
  obtain ⟨a, c, rfl, h2, h3, h4, h5⟩ := hr
  rcases Nat.eq_zero_or_pos ys.length with h0 | h0
  · obtain rfl : ys = [] := List.eq_nil_of_length_eq_zero h0
    simp only [List.length_nil]
    refine ⟨v, w, ?_, by simpa using hown, World.grownBy.refl w _, fun g hg => .inl hg⟩
    have hl : ∀ a : Option Addr, (Builtin.append_ #[t, t] ty #[v, .slice a 0 c]).run P w = .ok v w := by
      intro a
      rcases hown.2 with ⟨rfl, _⟩ | ⟨g, cap, cur, rfl, _, _, hnc, _⟩
      · cases a <;> simp [Builtin.append_, run_underlying ht, sizeOf, typeInfo, hi, Builtin.lenOf, Builtin.firstCells, loadCells, loadCellsFrom]
      · cases a <;> simp [Builtin.append_, run_underlying ht, sizeOf, typeInfo, hi, Builtin.lenOf, Builtin.firstCells, loadCells, loadCellsFrom, hnc, storeCells]
    exact hl a
  · obtain ⟨b, o, rfl, hb, hat⟩ := h5 h0
    have hb' : (acc.length + ys.length) * bytes ≤ (acc.length + ys.length) * 100 := Nat.mul_le_mul_left _ hbytes
    obtain ⟨v', w', hrun, ho, hg, _, hat'⟩ := run_append_own_at (P := P) w base t ty e i z size bytes ht hi hz hsize hby hzs hsz v acc.length (acc.flatMap enc) hown ⟨b, o, none⟩ ys.length c (ys.flatMap enc) h4
      (fun j u hu => by
        have hadd : (⟨b, o, none⟩ : Addr).add j = ⟨b, o + j, none⟩ := by unfold Addr.add; split <;> simp_all
        rw [hadd]; exact hat j u hu)
      (fun u hu => by obtain ⟨y, hy, hu'⟩ := List.mem_flatMap.1 hu; exact h1 y hy u hu') (by simp only [maxLen]; omega) (by omega) hbase
    refine ⟨v', w', hrun, ?_, hg, fun g hg' => ?_⟩
    · unfold Own
      rw [List.flatMap_append, List.length_append]
      exact ho
    · rcases hat' with e' | e'
      · exact .inl (e'.symm.trans hg')
      · rw [e'] at hg'; exact .inr (Option.some.inj hg').symm

theorem wp_cat {α : Type} {enc : α → List Value} {P : Program} {o : Oper} {a : Act} {K : Act → World → Prop} {Q : Exit → Act → World → Prop} (w : World) (s x : Operand) (t : TypeId)
    (ho : o.op = .call { callee := .builtin .append, args := #[s, x], argTypes := #[t, t] }) (base : Nat) (e : TypeId) (i : TypeInfo) (z : Value) (size bytes : Nat) (ht : P.underlying t = some (.slice e)) (hi : P.info? e = some i) (hz : i.zero = some z)
    (hsize : i.size = size) (hby : i.bytes = bytes) (hzs : z.cells.size = size) (hsz : 0 < size) (v sv : Value) (acc ys : List α) (hs : a.eval s = v) (hx : a.eval x = sv) (hown : Own enc e size w base v acc) (Bs : Nat) (hr : Rd enc size w Bs sv ys)
    (h1 : ∀ y ∈ ys, ∀ u ∈ enc y, u.oneCell' = true) (hn : acc.length + ys.length < 1099511627776) (hbytes : bytes ≤ 100) (hbase : base ≤ w.heap.size)
    (h : ∀ v' w', Own enc e size w' base v' (acc ++ ys) → w.grownBy w' v.ownBlock → (∀ g, v'.ownBlock = some g → v.ownBlock = some g ∨ g = w.heap.size) → K (a.put o.dst v') w') : o.wp P a w K Q := by
  obtain ⟨v', w', hr, h2, h3, h4⟩ := run_cat (P := P) w base t o.type e i z size bytes ht hi hz hsize hby hzs hsz v sv acc ys hown Bs hr h1 hn hbytes hbase
  unfold Oper.wp execOp
  simp only [ho, resolve, invoke, builtin, Sem.run_bind, Sem.run_pure, Result.andThen_ok, List.map_toArray, List.map_cons, List.map_nil, hs, hx, hr]
  exact h v' w' h2 h3 h4

/-- 'out = append(out, s...)' on a row of the call's own, in a loop's relation: owned from B on, and below B0 all is as in w0. -/
theorem wpList_cat {α : Type} {enc : α → List Value} {P : Program} {ops : Array Oper} {rest : List Oper} {o : Oper} {a : Act} {Q : Exit → Act → World → Prop} {w0 wr : World} (hgd : o.guard = none) (s x : Operand) (t : TypeId)
    (ho : o.op = .call { callee := .builtin .append, args := #[s, x], argTypes := #[t, t] }) (B B0 : Nat) (e : TypeId) (i : TypeInfo) (z : Value) (size bytes : Nat)
    (ht : P.underlying t = some (.slice e)) (hi : P.info? e = some i) (hz : i.zero = some z) (hsize : i.size = size) (hby : i.bytes = bytes) (hzs : z.cells.size = size) (hsz : 0 < size)
    (v sv : Value) (acc ys : List α) (hown : Own enc e size wr B v acc) (Bs : Nat) (hr : Rd enc size wr Bs sv ys) (hb : Below B0 w0 wr) (hB : B ≤ wr.heap.size) (hB0 : B0 ≤ B) (hs : a.eval s = v) (hx : a.eval x = sv)
    (h1 : ∀ y ∈ ys, ∀ u ∈ enc y, u.oneCell' = true) (hn : acc.length + ys.length < 1099511627776) (hbytes : bytes ≤ 100)
    (h : ∀ v' w', Own enc e size w' B v' (acc ++ ys) → Below B0 w0 w' → B ≤ w'.heap.size → wr.grownBy w' v.ownBlock ∧ (∀ g, v'.ownBlock = some g → v.ownBlock = some g ∨ wr.heap.size ≤ g) → wpList P ops Q rest (a.put o.dst v') w') : wpList P ops Q (o :: rest) a wr :=
  wpList_plain hgd fun _ hK => wp_cat wr s x t ho B e i z size bytes ht hi hz hsize hby hzs hsz v sv acc ys hs hx hown Bs hr h1 hn hbytes hB fun v' w' h2 h3 h4 =>
    hK _ _ (h v' w' h2 (hb.grown h3 (by omega) (fun g hg => Nat.le_trans hB0 (hown.lt g hg).1)) (Nat.le_trans hB h3.size) ⟨h3, fun g hg => (h4 g hg).imp id (fun e => by omega)⟩)

/-- 'out = append(out, x)' of one element on a row of the call's own, in a loop's relation: owned from B on, and below B0 all is as in w0. -/
theorem wpList_push {α : Type} {enc : α → List Value} {P : Program} {ops : Array Oper} {rest : List Oper} {o : Oper} {a : Act} {Q : Exit → Act → World → Prop} {w0 wr : World} (hgd : o.guard = none) (s x : Operand) (t : TypeId)
    (ho : o.op = .call { callee := .builtin .append, args := #[s, x], argTypes := #[t, t] }) (B B0 : Nat) (e : TypeId) (i : TypeInfo) (z : Value) (size bytes : Nat)
    (ht : P.underlying t = some (.slice e)) (hi : P.info? e = some i) (hz : i.zero = some z) (hsize : i.size = size) (hby : i.bytes = bytes) (hzs : z.cells.size = size) (hsz : 0 < size)
    (v : Value) (acc : List α) (y : α) (hown : Own enc e size wr B v acc) (hb : Below B0 w0 wr) (hB : B ≤ wr.heap.size) (hB0 : B0 ≤ B) (hs : a.eval s = v) (hx : a.eval x = .slice (some ⟨wr.heap.size, 0, none⟩) 1 1)
    (hl : (enc y).length = size) (h1 : ∀ u ∈ enc y, u.oneCell' = true) (hn : acc.length < 1099511627775) (hbytes : bytes ≤ 100)
    (h : ∀ v' w', Own enc e size w' B v' (acc ++ [y]) → Below B0 w0 w' → B ≤ w'.heap.size → wr.grownBy w' v.ownBlock ∧ (∀ g, v'.ownBlock = some g → v.ownBlock = some g ∨ wr.heap.size ≤ g) → wpList P ops Q rest (a.put o.dst v') w') : wpList P ops Q (o :: rest) a (wr.alloc (.cells (enc y).toArray e)) := by
  have hrd : Rd enc size (wr.alloc (.cells (enc y).toArray e)) (wr.heap.size + 1) (.slice (some ⟨wr.heap.size, 0, none⟩) 1 1) [y] := by
    refine ⟨_, _, rfl, by simp, by simp [maxLen], by simp [hl], fun _ => ⟨_, _, rfl, by omega, fun j u hu => ?_⟩⟩
    rw [Nat.zero_add, cell_of_row (wr.alloc (.cells (enc y).toArray e)) wr.heap.size j (enc y).toArray e (0, 0) (heap_alloc_new wr _)]
    simpa using hu
  refine wpList_cat (w0 := w0) hgd s x t ho B B0 e i z size bytes ht hi hz hsize hby hzs hsz v _ acc [y] (hown.alloc _) _ hrd (hb.alloc (by omega) _) (by simp; omega) hB0 hs hx (by simpa using h1) (by simp; omega) hbytes ?_
  intro v' w' h2 h3 h4 ⟨h5, h6⟩
  refine h v' w' h2 h3 (by omega) ⟨⟨h5.os, h5.tape, h5.output, by have := h5.size; simp at this; omega, fun j hj hne => (h5.block j (by simp; omega) hne).trans (Below.heap_alloc wr _ j hj)⟩, fun g hg => ?_⟩
  rcases h6 g hg with e' | e'
  · exact .inl e'
  · exact .inr (by simp at e'; omega)

/-- What a row's step tells of a slice of integers that came in. -/
def IsRow (k : IntKind) (w : World) (a : Option Addr) (len cap : Nat) (zs : List Int) : Prop :=
  (a = none ∧ len = 0 ∧ cap = 0 ∧ zs = []) ∨
  ∃ x, a = some x ∧ len ≤ cap ∧ cap ≤ maxLen ∧ zs.length = cap ∧ (∀ i, i < zs.length → w.cell? (x.add i) = some (.int k (zs.getD i 0))) ∧ ∀ n ∈ zs, (Lit.int k n).wf = true

theorem Rd.of_row {k : IntKind} {w : World} {a : Option Addr} {len cap : Nat} {zs : List Int} (h : IsRow k w a len cap zs) :
    Rd (fun x => [Value.int k x]) 1 w w.heap.size (.slice a len cap) (zs.take len) := by
  rcases h with ⟨rfl, rfl, rfl, rfl⟩ | ⟨x, rfl, hl, hm, hz, hc, hw⟩
  · exact Rd.nil _ _ _ _ _ (Nat.zero_le _)
  · have hlen : (zs.take len).length = len := by simp; omega
    unfold Rd
    rw [hlen, ← List.map_eq_flatMap]
    refine ⟨some x, cap, rfl, hl, hm, by simp; omega, fun hn => ?_⟩
    obtain ⟨b, o, s⟩ := x
    have h0 := hc 0 (by omega)
    have hs : s = none := by
      cases s with
      | none => rfl
      | some q => exfalso; revert h0; simp only [Addr.add, if_true, World.cell?]; split <;> simp
    subst hs
    refine ⟨b, o, rfl, ?_, fun j v hj => ?_⟩
    · have := World.block_lt_of_cell? w _ h0
      simpa [Addr.add] using this
    · rw [List.getElem?_map, List.getElem?_take] at hj
      by_cases hjl : j < len
      · rw [if_pos hjl] at hj
        have h1 := hc j (by omega)
        have ha : (⟨b, o, none⟩ : Addr).add j = ⟨b, o + j, none⟩ := by unfold Addr.add; split <;> simp_all
        rw [ha] at h1
        rw [h1]
        rw [← hj]
        rw [List.getElem?_eq_getElem (by omega)]
        simp [List.getD_eq_getElem?_getD, List.getElem?_eq_getElem (show j < zs.length by omega)]
      · rw [if_neg hjl] at hj
        cases hj

end Go.Proofs.YtkfkcbceoekgjaaDoor
