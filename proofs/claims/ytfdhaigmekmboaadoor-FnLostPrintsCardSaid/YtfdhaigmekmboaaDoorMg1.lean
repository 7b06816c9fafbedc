/- Walks and plain facts, joined: Base, Ty, A, Word, Reg, Draw, DrawT, Text, PrintP, CacheP, PcP, FoldP. -/
import Derived.WalkKit
import Derived.WalkSpells
import Derived.WalkLawsBesides
import Derived.Deep.Draws
import Derived.Maps.AppendAt
import Derived.Test.YtfdhaigmekmboaaDoorProg
import Derived.BigQuiet
import Derived.StillTail
import Derived.Deep.QuietTactic
import Derived.Deep.RegionWith
import Derived.Deep.OwnRows
import Derived.Laws.IdiomStrings
import Derived.Laws.Concat
set_option linter.unusedVariables false

/- Plain words for memory, used by every walk of this seat: what a slice value reads as, what is owned, and what keeps it. No program in sight. -/
namespace Go.Proofs.YtfdhaigmekmboaaDoor
open Go.RowKit

theorem hid {p : Prop} (h : p) : Hid p := h
theorem ret_b {x y : Bool} (h : x = y) : Ending.returned (.bool x) = .returned (.bool y) := by rw [h]
theorem ret_i {k : IntKind} {x y : Int} (h : x = y) : Ending.returned (.int k x) = .returned (.int k y) := by rw [h]
theorem ret_v {x y : Value} (h : x = y) : Ending.returned x = .returned y := by rw [h]

/-! ### Below -/
theorem bl_drewN {B : Nat} {a w : World} (h : Below B a w) (n : Nat) : Below B a (w.drewN n) := ⟨h.os, h.tape, h.output, h.size, h.block⟩
/-- What a callee leaves alone is left alone since an earlier world, too. -/
theorem bl_then {w w1 w2 : World} (h : Below w.heap.size w w1) (h' : Below w1.heap.size w1 w2) : Below w.heap.size w w2 := h.trans (h'.mono h.size)
theorem bl_grown {w0 w w' : World} {B : Nat} {row : Option Nat} (h : Below B w0 w) (hg : w.grownBy w' row) (hB : B ≤ w.heap.size) (hr : ∀ g, row = some g → B ≤ g) : Below B w0 w' := h.grown hg hB hr
theorem grown_drewN (w : World) (n : Nat) : Grown w (w.drewN n) := ⟨⟨rfl, rfl, (World.keptBut_refl w (fun _ => False)).2.2⟩, fun _ => rfl, Nat.le_refl _⟩
theorem gb_of_below {w w' : World} (h : Below w.heap.size w w') (row : Option Nat) : w.grownBy w' row := ⟨h.os, h.tape, h.output, h.size, fun i hi _ => h.block i hi⟩
theorem gb_drewN {w w' : World} {row : Option Nat} (h : w.grownBy w' row) (n : Nat) : w.grownBy (w'.drewN n) row := ⟨h.os, h.tape, h.output, h.size, h.block⟩

/-- Writes to a row that is new, or is the one that may be written. -/
theorem gb_out {w1 wr w' : World} {g0 : Nat} {row : Option Nat} (h : w1.grownBy wr (some g0)) (hg : wr.grownBy w' row) (hr : ∀ g, row = some g → g = g0 ∨ w1.heap.size ≤ g) : w1.grownBy w' (some g0) :=
  ⟨hg.os.trans h.os, hg.tape.trans h.tape, hg.output.trans h.output, Nat.le_trans h.size hg.size, fun k hk hne => (hg.block k (Nat.lt_of_lt_of_le hk h.size) (fun e => by
    rcases hr k e.symm with e' | e'
    · exact hne (by rw [e'])
    · omega)).trans (h.block k hk hne)⟩

/-! ### Slices -/
/-- From offset o of block b stand the cells cs. -/
def At (w : World) (b o : Nat) (cs : List Value) : Prop := ∀ j v, cs[j]? = some v → w.cell? ⟨b, o + j, none⟩ = some v

/-- The slice value v has n elements of k cells each, which read as cs and lie below block B. -/
def Sl (w : World) (B k : Nat) (v : Value) (n : Nat) (cs : List Value) : Prop :=
  ∃ a c, v = .slice a n c ∧ n ≤ c ∧ c ≤ maxLen ∧ cs.length = n * k ∧ (0 < n → ∃ b o, a = some ⟨b, o, none⟩ ∧ b < B ∧ At w b o cs)

theorem At.below {w w' : World} {B b o : Nat} {cs : List Value} (h : At w b o cs) (hb : Below B w w') (hB : b < B) : At w' b o cs :=
  fun j v hj => (hb.cell (p := ⟨b, o + j, none⟩) hB).trans (h j v hj)

theorem Sl.below {w w' : World} {B B' k n : Nat} {v : Value} {cs : List Value} (h : Sl w B k v n cs) (hb : Below B' w w') (hB : B ≤ B') : Sl w' B k v n cs := by
  obtain ⟨a, c, rfl, h1, h2, h3, h4⟩ := h
  refine ⟨a, c, rfl, h1, h2, h3, fun hn => ?_⟩
  obtain ⟨b, o, rfl, hlt, hat⟩ := h4 hn
  exact ⟨b, o, rfl, hlt, hat.below hb (Nat.lt_of_lt_of_le hlt hB)⟩

theorem Sl.more {w : World} {B B' k n : Nat} {v : Value} {cs : List Value} (h : Sl w B k v n cs) (hB : B ≤ B') : Sl w B' k v n cs := by
  obtain ⟨a, c, rfl, h1, h2, h3, h4⟩ := h
  refine ⟨a, c, rfl, h1, h2, h3, fun hn => ?_⟩
  obtain ⟨b, o, rfl, hlt, hat⟩ := h4 hn
  exact ⟨b, o, rfl, Nat.lt_of_lt_of_le hlt hB, hat⟩

theorem Sl.nil (w : World) (B k c : Nat) (a : Option Addr) (hc : c ≤ maxLen) : Sl w B k (.slice a 0 c) 0 [] := ⟨a, c, rfl, Nat.zero_le _, hc, by simp, fun h => absurd h (by omega)⟩

theorem Sl.of_own {w : World} {base e k n : Nat} {v : Value} {cs : List Value} (h : w.ownsRow base e k v n cs) : Sl w w.heap.size k v n cs := by
  rcases h.2 with ⟨rfl, rfl⟩ | ⟨g, cap, cur, rfl, hb, hg, hnc, hcm, hcs, ht⟩
  · exact ⟨none, 0, rfl, Nat.le_refl _, by unfold maxLen; omega, by simpa using h.1, fun h => absurd h (by omega)⟩
  · refine ⟨some ⟨g, 0, none⟩, cap, rfl, hnc, hcm, h.1, fun _ => ⟨g, 0, rfl, (Array.getElem?_eq_some_iff.1 hg).1, fun j v hj => ?_⟩⟩
    have := h.cells (g := g) (by simp [Value.ownBlock]) j v hj
    have hadd : (⟨g, 0, none⟩ : Addr).add j = ⟨g, j, none⟩ := by unfold Addr.add; split <;> simp_all
    rw [hadd] at this
    simpa using this

/-- v reads as the list xs, each element as the cells that enc gives, k of them. -/
def Rd {α : Type} (enc : α → List Value) (k : Nat) (w : World) (B : Nat) (v : Value) (xs : List α) : Prop := Sl w B k v xs.length (xs.flatMap enc)
/-- v is a row of the call's own from block B on, of element type e, and reads as xs. -/
def Own {α : Type} (enc : α → List Value) (e k : Nat) (w : World) (B : Nat) (v : Value) (xs : List α) : Prop := w.ownsRow B e k v xs.length (xs.flatMap enc)

section
variable {α : Type} {enc : α → List Value} {e k B B' : Nat} {w w' : World} {v : Value} {xs : List α}
theorem Rd.below (h : Rd enc k w B v xs) (hb : Below B' w w') (hB : B ≤ B') : Rd enc k w' B v xs := Sl.below h hb hB
theorem Rd.more (h : Rd enc k w B v xs) (hB : B ≤ B') : Rd enc k w B' v xs := Sl.more h hB
theorem Rd.on (h : Rd enc k w w.heap.size v xs) (hb : Below w.heap.size w w') : Rd enc k w' w'.heap.size v xs := (h.below hb (Nat.le_refl _)).more hb.size
theorem Rd.drewN (h : Rd enc k w B v xs) (n : Nat) : Rd enc k (w.drewN n) B v xs := h
theorem Rd.of_own (h : Own enc e k w B v xs) : Rd enc k w w.heap.size v xs := Sl.of_own h
theorem Rd.nil (w : World) (B k c : Nat) (a : Option Addr) (hc : c ≤ maxLen) : Rd enc k w B (.slice a 0 c) [] := Sl.nil w B k c a hc
theorem Own.nil_ : Own enc e k w B (.slice none 0 0) [] := World.ownsRow_nil _ _ _ _
theorem Own.made (w : World) (hB : B ≤ w.heap.size) : Own enc e k (w.alloc (.cells #[] e)) B (.slice (some ⟨w.heap.size, 0, none⟩) 0 0) [] := World.ownsRow_made w #[] 0 hB (by simp) (by simp)
/-- A literal. -/
theorem Own.lit (w : World) (hB : B ≤ w.heap.size) (xs : List α) (cs : Array Value) (n : Nat) (hn : xs.length = n) (hc : cs.toList = xs.flatMap enc) (hk : (xs.flatMap enc).length = n * k) (hm : n ≤ maxLen) :
    Own enc e k (w.alloc (.cells cs e)) B (.slice (some ⟨w.heap.size, 0, none⟩) n n) xs := by
  unfold Own
  rw [← hc, hn]
  exact World.ownsRow_lit w cs n hB hm (by rw [← hk, ← hc]; simp)
theorem Own.alloc (h : Own enc e k w B v xs) (o : Obj) : Own enc e k (w.alloc o) B v xs := World.ownsRow.alloc h o
theorem Own.drewN (h : Own enc e k w B v xs) (n : Nat) : Own enc e k (w.drewN n) B v xs := h
theorem Own.kept {row : Option Nat} (h : Own enc e k w B v xs) (hg : w.grownBy w' row) (hne : v.ownBlock = none ∨ v.ownBlock ≠ row) : Own enc e k w' B v xs := World.ownsRow.kept h hg hne
theorem Own.lt (h : Own enc e k w B v xs) : ∀ g, v.ownBlock = some g → B ≤ g ∧ g < w.heap.size := World.ownsRow.lt h
theorem Own.less (h : Own enc e k w B v xs) (hB : B' ≤ B) : Own enc e k w B' v xs := by
  refine ⟨h.1, ?_⟩
  rcases h.2 with h2 | ⟨g, cap, cur, hv, hg, r⟩
  · exact .inl h2
  · exact .inr ⟨g, cap, cur, hv, Nat.le_trans hB hg, r⟩
/-- A callee that leaves alone what is there keeps what is owned. -/
theorem Own.on (h : Own enc e k w B v xs) (hb : Below w.heap.size w w') : Own enc e k w' B v xs := by
  refine ⟨h.1, ?_⟩
  rcases h.2 with h2 | ⟨g, cap, cur, hv, hg, hh, r⟩
  · exact .inl h2
  · exact .inr ⟨g, cap, cur, hv, hg, (hb.block g (Array.getElem?_eq_some_iff.1 hh).1).trans hh, r⟩

theorem flatMap_get (hk : ∀ x : α, (enc x).length = k) : ∀ (xs : List α) (i j : Nat) (x : α) (u : Value), xs[i]? = some x → (enc x)[j]? = some u → (xs.flatMap enc)[i * k + j]? = some u := by
  intro xs
  induction xs with
  | nil => intro i j x u h; simp at h
  | cons y ys ih =>
    intro i j x u h hu
    rw [List.flatMap_cons]
    cases i with
    | zero =>
      simp only [List.getElem?_cons_zero, Option.some.injEq] at h
      subst h
      have hj : j < (enc y).length := by
        rw [List.getElem?_eq_some_iff] at hu
        exact hu.1
      rw [Nat.zero_mul, Nat.zero_add, List.getElem?_append_left hj]
      exact hu
    | succ i =>
      simp only [List.getElem?_cons_succ] at h
      have := ih i j x u h hu
      rw [List.getElem?_append_right (by rw [hk, Nat.succ_mul]; omega), hk, show (i + 1) * k + j - k = i * k + j from by rw [Nat.succ_mul]; omega]
      exact this

/-- What a walk asks of a slice: its value written out, and for every index the element and its cells. -/
theorem Rd.openN {n : Nat} (h : Rd enc k w B v xs) (hk : ∀ x : α, (enc x).length = k) (hn : xs.length = n) :
    ∃ a c, v = .slice a n c ∧ n ≤ c ∧ c ≤ 9223372036854775807 ∧
      ∀ i, i < n → ∃ b o x, a = some ⟨b, o, none⟩ ∧ b < B ∧ Hid (xs[i]? = some x) ∧ ∀ j u, (enc x)[j]? = some u → w.cell? ⟨b, o + (i * k + j), none⟩ = some u := by
  subst hn
  obtain ⟨a, c, rfl, h1, h2, h3, h4⟩ := h
  refine ⟨a, c, rfl, h1, by simpa [maxLen] using h2, fun i hi => ?_⟩
  obtain ⟨b, o, rfl, hb, hat⟩ := h4 (by omega)
  exact ⟨b, o, xs[i], rfl, hb, List.getElem?_eq_getElem hi, fun j u hu => hat _ _ (flatMap_get hk xs i j _ u (List.getElem?_eq_getElem hi) hu)⟩
end

/-- A write to one row, far from what is asked. -/
theorem Rd.far {α : Type} {enc : α → List Value} {k B : Nat} {w w' : World} {v : Value} {xs : List α} {row : Option Nat} (h : Rd enc k w B v xs) (hB : B ≤ w.heap.size) (hg : w.grownBy w' row) (hr : ∀ g, row = some g → B ≤ g) : Rd enc k w' B v xs :=
  h.below ((Below.refl B w).grown hg hB hr) (Nat.le_refl _)
theorem Own.far {α : Type} {enc : α → List Value} {e k B : Nat} {w w' : World} {v : Value} {xs : List α} {row : Option Nat} (h : Own enc e k w B v xs) (hg : w.grownBy w' row) (hr : ∀ g, row = some g → g < B) : Own enc e k w' B v xs :=
  h.kept hg (by
    cases hv : v.ownBlock with
    | none => exact .inl rfl
    | some g => exact .inr (fun e => by have h1 := (h.lt g hv).1; have h2 := hr g e.symm; omega))

theorem made_flat {α : Type} {enc : α → List Value} (z : Value) (x : α) (h : enc x = [z]) (n : Nat) : (madeCells #[z] n).toList = (List.replicate n x).flatMap enc := by
  apply List.ext_getElem
  · rw [Array.length_toList, size_madeCells]
    induction n with
    | zero => rfl
    | succ n ih => rw [List.replicate_succ, List.flatMap_cons, List.length_append, h, ← ih]; simp; omega
  · intro j h1 h2
    have hf : ∀ n : Nat, (List.replicate n x).flatMap enc = List.replicate n z := by
      intro n
      induction n with
      | zero => rfl
      | succ n ih => rw [List.replicate_succ, List.flatMap_cons, ih, h]; rfl
    simp only [hf, List.getElem_replicate]
    simp [madeCells, Nat.mod_one]

/-! ### Lists in a loop -/
theorem take_snoc {α : Type} (xs : List α) (k : Nat) (h : k < xs.length) : xs.take (k + 1) = xs.take k ++ [xs[k]] := by
  rw [List.take_succ_eq_append_getElem h]
theorem take_snoc' {α : Type} {xs : List α} {k : Nat} {x : α} (h : xs[k]? = some x) : xs.take (k + 1) = xs.take k ++ [x] := by
  rw [List.take_add_one, h]; rfl
theorem all_succ {α : Type} (p : α → Bool) {xs : List α} {k : Nat} {x : α} (h : xs[k]? = some x) : (xs.take (k + 1)).all p = ((xs.take k).all p && p x) := by
  rw [take_snoc' h, List.all_append]; simp only [List.all_cons, List.all_nil, Bool.and_true]
theorem any_succ {α : Type} (p : α → Bool) {xs : List α} {k : Nat} {x : α} (h : xs[k]? = some x) : (xs.take (k + 1)).any p = ((xs.take k).any p || p x) := by
  rw [take_snoc' h, List.any_append]; simp only [List.any_cons, List.any_nil, Bool.or_false]
theorem foldl_succ {α β : Type} (f : β → α → β) (b : β) {xs : List α} {k : Nat} {x : α} (h : xs[k]? = some x) : (xs.take (k + 1)).foldl f b = f ((xs.take k).foldl f b) x := by
  rw [take_snoc' h, List.foldl_append]; rfl
theorem filter_succ {α : Type} (p : α → Bool) {xs : List α} {k : Nat} {x : α} (h : xs[k]? = some x) : (xs.take (k + 1)).filter p = (xs.take k).filter p ++ (if p x then [x] else []) := by
  rw [take_snoc' h, List.filter_append]; cases hp : p x <;> simp [hp]
theorem all_no {α : Type} (p : α → Bool) {xs : List α} {k : Nat} {x : α} (h : xs[k]? = some x) (hp : p x = false) : xs.all p = false := by
  rw [List.all_eq_false]; exact ⟨x, List.mem_of_getElem? h, by simp [hp]⟩
theorem all_get {α : Type} (p : α → Bool) {xs : List α} {k : Nat} {x : α} (h : xs[k]? = some x) (hp : xs.all p = true) : p x = true := List.all_eq_true.1 hp _ (List.mem_of_getElem? h)
theorem take_all {α : Type} {xs : List α} {n k : Nat} (hx : xs.length = n) (hk : n ≤ k) : xs.take k = xs := List.take_of_length_le (by omega)
/-- Two lists that agree up to k, and what follows. -/
theorem eq_of_take {α : Type} {xs ys : List α} {n k : Nat} (hx : xs.length = n) (hy : ys.length = n) (hk : n ≤ k) (h : xs.take k = ys.take k) : xs = ys := by
  rwa [List.take_of_length_le (by omega), List.take_of_length_le (by omega)] at h
theorem take_eq_succ {α : Type} {xs ys : List α} {k : Nat} {x : α} (h : xs.take k = ys.take k) (hx : xs[k]? = some x) (hy : ys[k]? = some x) : xs.take (k + 1) = ys.take (k + 1) := by
  rw [List.take_add_one, List.take_add_one, h, hx, hy]
theorem ne_of_get {α : Type} {xs ys : List α} {k : Nat} {x y : α} (hx : xs[k]? = some x) (hy : ys[k]? = some y) (h : x ≠ y) : xs ≠ ys := by
  rintro rfl
  rw [hx] at hy
  exact h (Option.some.inj hy)

/-- The first k cells are those of ys: an array being filled. -/
def Pre (cs ys : List Value) (k : Nat) : Prop := cs.length = ys.length ∧ cs.take k = ys.take k
theorem Pre.zero {cs ys : List Value} (h : cs.length = ys.length) : Pre cs ys 0 := ⟨h, by simp⟩
theorem Pre.step {cs ys : List Value} {k : Nat} {u : Value} (h : Pre cs ys k) (hu : ys[k]? = some u) : Pre (cs.set k u) ys (k + 1) := by
  obtain ⟨hk, rfl⟩ := List.getElem?_eq_some_iff.1 hu
  refine ⟨by simp [h.1], ?_⟩
  have hk' : k < cs.length := by rw [h.1]; exact hk
  rw [List.take_succ_eq_append_getElem (by simpa using hk'), List.take_succ_eq_append_getElem hk, List.take_set_of_le (Nat.le_refl k), h.2]
  simp
theorem Pre.all {cs ys : List Value} {k : Nat} (h : Pre cs ys k) (hk : ys.length ≤ k) : cs = ys := by
  have := h.2
  rwa [List.take_of_length_le (by rw [h.1]; exact hk), List.take_of_length_le hk] at this
theorem Pre.get {cs ys : List Value} {k : Nat} (h : Pre cs ys k) {j : Nat} (hj : j < ys.length) : ∃ u, cs[j]? = some u := ⟨cs[j]'(by rw [h.1]; exact hj), List.getElem?_eq_getElem _⟩

/-- 'append(v, s...)': v owned, s whatever slice is read. -/
theorem run_cat {α : Type} {enc : α → List Value} {P : Program} (w : World) (base : Nat) (t ty e : TypeId) (i : TypeInfo) (z : Value) (size bytes : Nat) (ht : P.underlying t = some (.slice e)) (hi : P.info? e = some i) (hz : i.zero = some z)
    (hsize : i.size = size) (hby : i.bytes = bytes) (hzs : z.cells.size = size) (hsz : 0 < size) (v sv : Value) (acc ys : List α) (hown : Own enc e size w base v acc) (Bs : Nat) (hr : Rd enc size w Bs sv ys)
    (h1 : ∀ y ∈ ys, ∀ u ∈ enc y, u.oneCell' = true) (hn : acc.length + ys.length < 1099511627776) (hbytes : bytes ≤ 100) (hbase : base ≤ w.heap.size) :
    ∃ v' w', (Builtin.append_ #[t, t] ty #[v, sv]).run P w = .ok v' w' ∧ Own enc e size w' base v' (acc ++ ys) ∧ w.grownBy w' v.ownBlock ∧ (∀ g, v'.ownBlock = some g → v.ownBlock = some g ∨ g = w.heap.size) := by
  obtain ⟨a, c, rfl, h2, h3, h4, h5⟩ := hr
  rcases Nat.eq_zero_or_pos ys.length with h0 | h0
  · obtain rfl : ys = [] := List.eq_nil_of_length_eq_zero h0
    simp only [List.length_nil]
    refine ⟨v, w, ?_, by simpa using hown, World.grownBy.refl w _, fun g hg => .inl hg⟩
    have hl : ∀ a : Option Addr, (Builtin.append_ #[t, t] ty #[v, .slice a 0 c]).run P w = .ok v w := by
      intro a
      rcases hown.2 with ⟨rfl, _⟩ | ⟨g, cap, cur, rfl, _, _, hnc, _⟩
      · cases a <;> simp [Builtin.append_, run_underlying ht, sizeOf, typeInfo, hi, Builtin.lenOf, Builtin.firstCells, loadCells, loadCellsFrom]
      · cases a <;> simp [Builtin.append_, run_underlying ht, sizeOf, typeInfo, hi, Builtin.lenOf, Builtin.firstCells, loadCells, loadCellsFrom, hnc, storeCells]
    exact hl a
  · obtain ⟨b, o, rfl, hb, hat⟩ := h5 h0
    have hb' : (acc.length + ys.length) * bytes ≤ (acc.length + ys.length) * 100 := Nat.mul_le_mul_left _ hbytes
    obtain ⟨v', w', hrun, ho, hg, _, hat'⟩ := run_append_own_at (P := P) w base t ty e i z size bytes ht hi hz hsize hby hzs hsz v acc.length (acc.flatMap enc) hown ⟨b, o, none⟩ ys.length c (ys.flatMap enc) h4
      (fun j u hu => by
        have hadd : (⟨b, o, none⟩ : Addr).add j = ⟨b, o + j, none⟩ := by unfold Addr.add; split <;> simp_all
        rw [hadd]; exact hat j u hu)
      (fun u hu => by obtain ⟨y, hy, hu'⟩ := List.mem_flatMap.1 hu; exact h1 y hy u hu') (by simp only [maxLen]; omega) (by omega) hbase
    refine ⟨v', w', hrun, ?_, hg, fun g hg' => ?_⟩
    · unfold Own
      rw [List.flatMap_append, List.length_append]
      exact ho
    · rcases hat' with e' | e'
      · exact .inl (e'.symm.trans hg')
      · rw [e'] at hg'; exact .inr (Option.some.inj hg').symm

theorem wp_cat {α : Type} {enc : α → List Value} {P : Program} {o : Oper} {a : Act} {K : Act → World → Prop} {Q : Exit → Act → World → Prop} (w : World) (s x : Operand) (t : TypeId)
    (ho : o.op = .call { callee := .builtin .append, args := #[s, x], argTypes := #[t, t] }) (base : Nat) (e : TypeId) (i : TypeInfo) (z : Value) (size bytes : Nat) (ht : P.underlying t = some (.slice e)) (hi : P.info? e = some i) (hz : i.zero = some z)
    (hsize : i.size = size) (hby : i.bytes = bytes) (hzs : z.cells.size = size) (hsz : 0 < size) (v sv : Value) (acc ys : List α) (hs : a.eval s = v) (hx : a.eval x = sv) (hown : Own enc e size w base v acc) (Bs : Nat) (hr : Rd enc size w Bs sv ys)
    (h1 : ∀ y ∈ ys, ∀ u ∈ enc y, u.oneCell' = true) (hn : acc.length + ys.length < 1099511627776) (hbytes : bytes ≤ 100) (hbase : base ≤ w.heap.size)
    (h : ∀ v' w', Own enc e size w' base v' (acc ++ ys) → w.grownBy w' v.ownBlock → (∀ g, v'.ownBlock = some g → v.ownBlock = some g ∨ g = w.heap.size) → K (a.put o.dst v') w') : o.wp P a w K Q := by
  obtain ⟨v', w', hr, h2, h3, h4⟩ := run_cat (P := P) w base t o.type e i z size bytes ht hi hz hsize hby hzs hsz v sv acc ys hown Bs hr h1 hn hbytes hbase
  unfold Oper.wp execOp
  simp only [ho, resolve, invoke, builtin, Sem.run_bind, Sem.run_pure, Result.andThen_ok, List.map_toArray, List.map_cons, List.map_nil, hs, hx, hr]
  exact h v' w' h2 h3 h4

/-- 'out = append(out, s...)' on a row of the call's own, in a loop's relation: owned from B on, and below B0 all is as in w0. -/
theorem wpList_cat {α : Type} {enc : α → List Value} {P : Program} {ops : Array Oper} {rest : List Oper} {o : Oper} {a : Act} {Q : Exit → Act → World → Prop} {w0 wr : World} (hgd : o.guard = none) (s x : Operand) (t : TypeId)
    (ho : o.op = .call { callee := .builtin .append, args := #[s, x], argTypes := #[t, t] }) (B B0 : Nat) (e : TypeId) (i : TypeInfo) (z : Value) (size bytes : Nat)
    (ht : P.underlying t = some (.slice e)) (hi : P.info? e = some i) (hz : i.zero = some z) (hsize : i.size = size) (hby : i.bytes = bytes) (hzs : z.cells.size = size) (hsz : 0 < size)
    (v sv : Value) (acc ys : List α) (hown : Own enc e size wr B v acc) (Bs : Nat) (hr : Rd enc size wr Bs sv ys) (hb : Below B0 w0 wr) (hB : B ≤ wr.heap.size) (hB0 : B0 ≤ B) (hs : a.eval s = v) (hx : a.eval x = sv)
    (h1 : ∀ y ∈ ys, ∀ u ∈ enc y, u.oneCell' = true) (hn : acc.length + ys.length < 1099511627776) (hbytes : bytes ≤ 100)
    (h : ∀ v' w', Own enc e size w' B v' (acc ++ ys) → Below B0 w0 w' → B ≤ w'.heap.size → wr.grownBy w' v.ownBlock ∧ (∀ g, v'.ownBlock = some g → v.ownBlock = some g ∨ wr.heap.size ≤ g) → wpList P ops Q rest (a.put o.dst v') w') : wpList P ops Q (o :: rest) a wr :=
  wpList_plain hgd fun _ hK => wp_cat wr s x t ho B e i z size bytes ht hi hz hsize hby hzs hsz v sv acc ys hs hx hown Bs hr h1 hn hbytes hB fun v' w' h2 h3 h4 =>
    hK _ _ (h v' w' h2 (hb.grown h3 (by omega) (fun g hg => Nat.le_trans hB0 (hown.lt g hg).1)) (Nat.le_trans hB h3.size) ⟨h3, fun g hg => (h4 g hg).imp id (fun e => by omega)⟩)

/-- 'out = append(out, x)' of one element on a row of the call's own, in a loop's relation: owned from B on, and below B0 all is as in w0. -/
theorem wpList_push {α : Type} {enc : α → List Value} {P : Program} {ops : Array Oper} {rest : List Oper} {o : Oper} {a : Act} {Q : Exit → Act → World → Prop} {w0 wr : World} (hgd : o.guard = none) (s x : Operand) (t : TypeId)
    (ho : o.op = .call { callee := .builtin .append, args := #[s, x], argTypes := #[t, t] }) (B B0 : Nat) (e : TypeId) (i : TypeInfo) (z : Value) (size bytes : Nat)
    (ht : P.underlying t = some (.slice e)) (hi : P.info? e = some i) (hz : i.zero = some z) (hsize : i.size = size) (hby : i.bytes = bytes) (hzs : z.cells.size = size) (hsz : 0 < size)
    (v : Value) (acc : List α) (y : α) (hown : Own enc e size wr B v acc) (hb : Below B0 w0 wr) (hB : B ≤ wr.heap.size) (hB0 : B0 ≤ B) (hs : a.eval s = v) (hx : a.eval x = .slice (some ⟨wr.heap.size, 0, none⟩) 1 1)
    (hl : (enc y).length = size) (h1 : ∀ u ∈ enc y, u.oneCell' = true) (hn : acc.length < 1099511627775) (hbytes : bytes ≤ 100)
    (h : ∀ v' w', Own enc e size w' B v' (acc ++ [y]) → Below B0 w0 w' → B ≤ w'.heap.size → wr.grownBy w' v.ownBlock ∧ (∀ g, v'.ownBlock = some g → v.ownBlock = some g ∨ wr.heap.size ≤ g) → wpList P ops Q rest (a.put o.dst v') w') : wpList P ops Q (o :: rest) a (wr.alloc (.cells (enc y).toArray e)) := by
  have hrd : Rd enc size (wr.alloc (.cells (enc y).toArray e)) (wr.heap.size + 1) (.slice (some ⟨wr.heap.size, 0, none⟩) 1 1) [y] := by
    refine ⟨_, _, rfl, by simp, by simp [maxLen], by simp [hl], fun _ => ⟨_, _, rfl, by omega, fun j u hu => ?_⟩⟩
    rw [Nat.zero_add, cell_of_row (wr.alloc (.cells (enc y).toArray e)) wr.heap.size j (enc y).toArray e (0, 0) (heap_alloc_new wr _)]
    simpa using hu
  refine wpList_cat (w0 := w0) hgd s x t ho B B0 e i z size bytes ht hi hz hsize hby hzs hsz v _ acc [y] (hown.alloc _) _ hrd (hb.alloc (by omega) _) (by simp; omega) hB0 hs hx (by simpa using h1) (by simp; omega) hbytes ?_
  intro v' w' h2 h3 h4 ⟨h5, h6⟩
  refine h v' w' h2 h3 (by omega) ⟨⟨h5.os, h5.tape, h5.output, by have := h5.size; simp at this; omega, fun j hj hne => (h5.block j (by simp; omega) hne).trans (Below.heap_alloc wr _ j hj)⟩, fun g hg => ?_⟩
  rcases h6 g hg with e' | e'
  · exact .inl e'
  · exact .inr (by simp at e'; omega)

/-- What a row's step tells of a slice of integers that came in. -/
def IsRow (k : IntKind) (w : World) (a : Option Addr) (len cap : Nat) (zs : List Int) : Prop :=
  (a = none ∧ len = 0 ∧ cap = 0 ∧ zs = []) ∨
  ∃ x, a = some x ∧ len ≤ cap ∧ cap ≤ maxLen ∧ zs.length = cap ∧ (∀ i, i < zs.length → w.cell? (x.add i) = some (.int k (zs.getD i 0))) ∧ ∀ n ∈ zs, (Lit.int k n).wf = true

theorem Rd.of_row {k : IntKind} {w : World} {a : Option Addr} {len cap : Nat} {zs : List Int} (h : IsRow k w a len cap zs) :
    Rd (fun x => [Value.int k x]) 1 w w.heap.size (.slice a len cap) (zs.take len) := by
  rcases h with ⟨rfl, rfl, rfl, rfl⟩ | ⟨x, rfl, hl, hm, hz, hc, hw⟩
  · exact Rd.nil _ _ _ _ _ (Nat.zero_le _)
  · have hlen : (zs.take len).length = len := by simp; omega
    unfold Rd
    rw [hlen, ← List.map_eq_flatMap]
    refine ⟨some x, cap, rfl, hl, hm, by simp; omega, fun hn => ?_⟩
    obtain ⟨b, o, s⟩ := x
    have h0 := hc 0 (by omega)
    have hs : s = none := by
      cases s with
      | none => rfl
      | some q => exfalso; revert h0; simp only [Addr.add, if_true, World.cell?]; split <;> simp
    subst hs
    refine ⟨b, o, rfl, ?_, fun j v hj => ?_⟩
    · have := World.block_lt_of_cell? w _ h0
      simpa [Addr.add] using this
    · rw [List.getElem?_map, List.getElem?_take] at hj
      by_cases hjl : j < len
      · rw [if_pos hjl] at hj
        have h1 := hc j (by omega)
        have ha : (⟨b, o, none⟩ : Addr).add j = ⟨b, o + j, none⟩ := by unfold Addr.add; split <;> simp_all
        rw [ha] at h1
        rw [h1]
        rw [← hj]
        rw [List.getElem?_eq_getElem (by omega)]
        simp [List.getD_eq_getElem?_getD, List.getElem?_eq_getElem (show j < zs.length by omega)]
      · rw [if_neg hjl] at hj
        cases hj

end Go.Proofs.YtfdhaigmekmboaaDoor

/- The types of this seat: how their values lie in cells; append of one number, one bool. -/
namespace Go.Proofs.YtfdhaigmekmboaaDoor
open Go.RowKit

abbrev encI (x : Int) : List Value := [.int .i64 x]
abbrev encB (x : Bool) : List Value := [.bool x]
abbrev encS (x : ByteArray) : List Value := [.string x]
abbrev Ints := Rd encI 1
abbrev OwnI := Own encI 3 1

abbrev Bools := Rd encB 1
abbrev OwnB := Own encB 4 1

abbrev Strs := Rd encS 1
abbrev OwnS := Own encS 9 1

theorem info_int : (Tryd.prog.info? 3).map (fun i => (i.zero, i.size, i.bytes)) = some (some (.int .i64 0), 1, 8) := by kernel_rfl

theorem info_bool : (Tryd.prog.info? 4).map (fun i => (i.zero, i.size, i.bytes)) = some (some (.bool false), 1, 1) := by kernel_rfl

theorem info_string : (Tryd.prog.info? 9).map (fun i => (i.zero, i.size, i.bytes)) = some (some (.string ByteArray.empty), 1, 16) := by kernel_rfl

theorem Rd.ints {w : World} {B n : Nat} {v : Value} {xs : List Int} (h : Ints w B v xs) (hn : xs.length = n) :
    ∃ a c, v = .slice a n c ∧ n ≤ c ∧ c ≤ 9223372036854775807 ∧
      ∀ i, i < n → ∃ b o x, a = some ⟨b, o, none⟩ ∧ b < B ∧ Hid (xs[i]? = some x) ∧ w.cell? ⟨b, o + i, none⟩ = some (.int .i64 x) := by
  obtain ⟨a, c, hv, h1, h2, h3⟩ := Rd.openN h (fun _ => rfl) hn
  refine ⟨a, c, hv, h1, h2, fun i hi => ?_⟩
  obtain ⟨b, o, x, ha, hb, hx, hc⟩ := h3 i hi
  exact ⟨b, o, x, ha, hb, hx, by simpa using hc 0 _ rfl⟩

theorem getI {w : World} {B g n c i : Nat} {xs : List Int} (h : OwnI w B (.slice (some ⟨g, 0, none⟩) n c) xs) (hn : xs.length = n) (hi : i < n) : ∃ x, Hid (xs[i]? = some x) ∧ w.cell? ⟨g, i, none⟩ = some (.int .i64 x) := by
  obtain ⟨a, c', hv, _, _, h3⟩ := (Rd.of_own h).ints hn
  obtain ⟨b, o, x, ha, _, hx, hc⟩ := h3 i hi
  simp only [Value.slice.injEq] at hv
  obtain ⟨rfl, _, _⟩ := hv
  simp only [Option.some.injEq, Addr.mk.injEq, and_true] at ha
  obtain ⟨rfl, rfl⟩ := ha
  exact ⟨x, hx, by simpa using hc⟩

theorem Rd.bools {w : World} {B n : Nat} {v : Value} {xs : List Bool} (h : Bools w B v xs) (hn : xs.length = n) :
    ∃ a c, v = .slice a n c ∧ n ≤ c ∧ c ≤ 9223372036854775807 ∧
      ∀ i, i < n → ∃ b o x, a = some ⟨b, o, none⟩ ∧ b < B ∧ Hid (xs[i]? = some x) ∧ w.cell? ⟨b, o + i, none⟩ = some (.bool x) := by
  obtain ⟨a, c, hv, h1, h2, h3⟩ := Rd.openN h (fun _ => rfl) hn
  refine ⟨a, c, hv, h1, h2, fun i hi => ?_⟩
  obtain ⟨b, o, x, ha, hb, hx, hc⟩ := h3 i hi
  exact ⟨b, o, x, ha, hb, hx, by simpa using hc 0 _ rfl⟩

section
variable {ops : Array Oper} {rest : List Oper} {o : Oper} {a : Act} {Q : Exit → Act → World → Prop} {w0 wr : World}

theorem push_int (hgd : o.guard = none) (s x : Operand) (ho : o.op = .call { callee := .builtin .append, args := #[s, x], argTypes := #[25, 25] }) (B B0 : Nat) (v : Value) (acc : List Int) (y : Int)
    (hown : OwnI wr B v acc) (hb : Below B0 w0 wr) (hB : B ≤ wr.heap.size) (hB0 : B0 ≤ B) (hs : a.eval s = v) (hx : a.eval x = .slice (some ⟨wr.heap.size, 0, none⟩) 1 1) (hn : acc.length < 1099511627775)
    (h : ∀ v' w', OwnI w' B v' (acc ++ [y]) → Below B0 w0 w' → B ≤ w'.heap.size → wr.grownBy w' v.ownBlock ∧ (∀ g, v'.ownBlock = some g → v.ownBlock = some g ∨ wr.heap.size ≤ g) → wpList Tryd.prog ops Q rest (a.put o.dst v') w') :
    wpList Tryd.prog ops Q (o :: rest) a (wr.alloc (.cells #[.int .i64 y] 3)) := by
  obtain ⟨i0, hi, hz0, hz1, hz2⟩ := info_parts info_int
  exact wpList_push (enc := encI) hgd s x 25 ho B B0 3 i0 _ 1 8 Tryd.underlying25 hi hz0 hz1 hz2 rfl (by decide) v acc y hown hb hB hB0 hs hx rfl (by simp [Value.oneCell']) hn (by decide) h

theorem cat_int (hgd : o.guard = none) (s x : Operand) (ho : o.op = .call { callee := .builtin .append, args := #[s, x], argTypes := #[25, 25] }) (B B0 : Nat) (v sv : Value) (acc ys : List Int)
    (hown : OwnI wr B v acc) (Bs : Nat) (hr : Ints wr Bs sv ys) (hb : Below B0 w0 wr) (hB : B ≤ wr.heap.size) (hB0 : B0 ≤ B) (hs : a.eval s = v) (hx : a.eval x = sv) (hn : acc.length + ys.length < 1099511627776)
    (h : ∀ v' w', OwnI w' B v' (acc ++ ys) → Below B0 w0 w' → B ≤ w'.heap.size → wr.grownBy w' v.ownBlock ∧ (∀ g, v'.ownBlock = some g → v.ownBlock = some g ∨ wr.heap.size ≤ g) → wpList Tryd.prog ops Q rest (a.put o.dst v') w') :
    wpList Tryd.prog ops Q (o :: rest) a wr := by
  obtain ⟨i0, hi, hz0, hz1, hz2⟩ := info_parts info_int
  exact wpList_cat (enc := encI) hgd s x 25 ho B B0 3 i0 _ 1 8 Tryd.underlying25 hi hz0 hz1 hz2 rfl (by decide) v sv acc ys hown Bs hr hb hB hB0 hs hx (by simp [Value.oneCell']) hn (by decide) h

theorem push_bool (hgd : o.guard = none) (s x : Operand) (ho : o.op = .call { callee := .builtin .append, args := #[s, x], argTypes := #[52, 52] }) (B B0 : Nat) (v : Value) (acc : List Bool) (y : Bool)
    (hown : OwnB wr B v acc) (hb : Below B0 w0 wr) (hB : B ≤ wr.heap.size) (hB0 : B0 ≤ B) (hs : a.eval s = v) (hx : a.eval x = .slice (some ⟨wr.heap.size, 0, none⟩) 1 1) (hn : acc.length < 1099511627775)
    (h : ∀ v' w', OwnB w' B v' (acc ++ [y]) → Below B0 w0 w' → B ≤ w'.heap.size → wr.grownBy w' v.ownBlock ∧ (∀ g, v'.ownBlock = some g → v.ownBlock = some g ∨ wr.heap.size ≤ g) → wpList Tryd.prog ops Q rest (a.put o.dst v') w') :
    wpList Tryd.prog ops Q (o :: rest) a (wr.alloc (.cells #[.bool y] 4)) := by
  obtain ⟨i0, hi, hz0, hz1, hz2⟩ := info_parts info_bool
  exact wpList_push (enc := encB) hgd s x 52 ho B B0 4 i0 _ 1 1 Tryd.underlying52 hi hz0 hz1 hz2 rfl (by decide) v acc y hown hb hB hB0 hs hx rfl (by simp [Value.oneCell']) hn (by decide) h

end
end Go.Proofs.YtfdhaigmekmboaaDoor

/- Walks: bounds and prints. -/
namespace Go.Proofs.YtfdhaigmekmboaaDoor
open Go.RowKit

def inB (n lo hi : Int) : Bool := decide (lo ≤ n) && decide (n ≤ hi)
theorem inB_iff {n lo hi : Int} : inB n lo hi = true ↔ lo ≤ n ∧ n ≤ hi := by simp [inB]
theorem inB_yes {n lo hi : Int} (h : inB n lo hi = true) : lo ≤ n ∧ n ≤ hi := inB_iff.1 h
theorem inB_no {n lo hi : Int} (h : inB n lo hi = false) : n < lo ∨ hi < n := by simp [inB] at h; omega
abbrev pv (p : Int) : Bool := inB p 0 16777212

set_option maxHeartbeats 400000 in
theorem spec_l1In_c (n lo hi : Int) (w : World) :
    Calls Tryd.prog 80 #[.int .i64 n, .int .i64 lo, .int .i64 hi] w fun e w' => e = .returned (.bool (inB n lo hi)) ∧ w = w' := by
  go_enter Tryd.func80, Tryd.ntmps80
  go_wp2
  all_goals
    go_ret
    first | (have h : lo ≤ n := by assumption); exact ⟨by simp [inB, h], rfl⟩ | (have h : n < lo := by assumption); exact ⟨by simp [inB]; omega, rfl⟩


set_option maxHeartbeats 400000 in
theorem impl_printValid_c (n : Int) (w : World) :
    Calls Tryd.prog 73 #[.int .i64 n] w fun e w' => e = .returned (.bool (inB n 0 16777212)) ∧ w = w' := by
  go_enter Tryd.func73, Tryd.ntmps73
  go_wp2
  all_goals
    go_ret
    first | (have h : 0 ≤ n := by assumption); exact ⟨by simp [inB, h], rfl⟩ | (have h : n < 0 := by assumption); exact ⟨by simp [inB]; omega, rfl⟩


end Go.Proofs.YtfdhaigmekmboaaDoor

/- Walks: words, and the fixed answer. -/
namespace Go.Proofs.YtfdhaigmekmboaaDoor
open Go.RowKit

/-- The bytes of a string. -/
abbrev bs (s : ByteArray) : List UInt8 := s.data.toList
def isDig (c : Int) : Bool := inB c 48 57
def isSm (c : Int) : Bool := inB c 97 122
def wordCh (c : UInt8) : Bool := isSm c.toNat || isDig c.toNat
def wordOk (l : List UInt8) : Bool := decide (1 ≤ l.length) && decide (l.length ≤ 8) && !(l.head?.any fun c => isDig c.toNat) && l.all wordCh

set_option maxHeartbeats 400000 in
theorem impl_isDigit_c (c : Int) (w : World) :
    Calls Tryd.prog 56 #[.int .u8 c] w fun e w' => e = .returned (.bool (isDig c)) ∧ w = w' := by
  by_cases h : 48 ≤ c
  all_goals
    go_enter Tryd.func56, Tryd.ntmps56
    go_wp2
    go_ret
    exact ⟨ret_b (by simp [isDig, inB]; omega), rfl⟩

set_option maxHeartbeats 400000 in
theorem impl_isSmall_c (c : Int) (w : World) :
    Calls Tryd.prog 57 #[.int .u8 c] w fun e w' => e = .returned (.bool (isSm c)) ∧ w = w' := by
  by_cases h : 97 ≤ c
  all_goals
    go_enter Tryd.func57, Tryd.ntmps57
    go_wp2
    go_ret
    exact ⟨ret_b (by simp [isSm, inB]; omega), rfl⟩

set_option maxHeartbeats 400000 in
theorem impl_WordValid_c (s : ByteArray) (w : World) :
    Calls Tryd.prog 34 #[.string s] w fun e w' => e = .returned (.bool (wordOk (bs s))) ∧ w = w' := by
  by_cases h1 : s.size < 1
  · go_enter Tryd.func34, Tryd.ntmps34
    go_wp2
    go_ret
    exact ⟨ret_b (by simp [wordOk]; omega), rfl⟩
  · by_cases h2 : 8 < s.size
    · go_enter Tryd.func34, Tryd.ntmps34
      go_wp2
      go_ret
      exact ⟨ret_b (by simp [wordOk]; omega), rfl⟩
    · have h0 : 0 < s.size := by omega
      have hh : Hid ((bs s).head? = some s[0]) := by
        unfold Hid bs
        rw [List.head?_eq_getElem?, List.getElem?_eq_getElem (by simpa using h0)]
        simp [ByteArray.getElem_eq_getElem_data]
      cases hd : isDig (s[0].toNat : Int)
      · go_enter Tryd.func34, Tryd.ntmps34
        go_wp2_with (go_at_call 56; refine (impl_isDigit_c _ _).mono ?_; rintro e w' ⟨rfl, rfl⟩)
        have HD := hid hd
        clear hd
        go_loop [3] (fun i => ∃ k : Nat, k ≤ s.size ∧ i = .int .i64 k ∧ Hid (((bs s).take k).all wordCh = true)) (fun i => s.size - (intOf i).toNat)
        case atStart => exact ⟨0, Nat.zero_le _, rfl, rfl⟩
        case round =>
          obtain ⟨k, hk, rfl, hall⟩ := hrel
          by_cases hlt : k < s.size
          · have hx : Hid ((bs s)[k]? = some s[k]) := by
              unfold Hid bs
              rw [List.getElem?_eq_getElem (by simpa using hlt)]
              simp [ByteArray.getElem_eq_getElem_data]
            cases c1 : isSm (s[k].toNat : Int)
            · cases c2 : isDig (s[k].toNat : Int)
              · have HN := hid (all_no wordCh hx.out (show wordCh s[k] = false by simp [wordCh, c1, c2]))
                go_wp2_with (first | (go_at_call 56; refine (impl_isDigit_c _ _).mono ?_; rintro e w' ⟨rfl, rfl⟩) | (go_at_call 57; refine (impl_isSmall_c _ _).mono ?_; rintro e w' ⟨rfl, rfl⟩))
                go_ret
                exact ⟨ret_b (by unfold wordOk; rw [HN.out]; simp), rfl⟩
              · have HY := hid (show wordCh s[k] = true by simp [wordCh, c2])
                go_wp2_with (first | (go_at_call 56; refine (impl_isDigit_c _ _).mono ?_; rintro e w' ⟨rfl, rfl⟩) | (go_at_call 57; refine (impl_isSmall_c _ _).mono ?_; rintro e w' ⟨rfl, rfl⟩))
                go_round
                case rel => exact ⟨k + 1, by omega, by go_num, by unfold Hid; rw [all_succ wordCh hx.out, hall.out, HY.out]; rfl⟩
                case measure => simp [intOf]; omega
            · have HY := hid (show wordCh s[k] = true by simp [wordCh, c1])
              go_wp2_with (first | (go_at_call 56; refine (impl_isDigit_c _ _).mono ?_; rintro e w' ⟨rfl, rfl⟩) | (go_at_call 57; refine (impl_isSmall_c _ _).mono ?_; rintro e w' ⟨rfl, rfl⟩))
              go_round
              case rel => exact ⟨k + 1, by omega, by go_num, by unfold Hid; rw [all_succ wordCh hx.out, hall.out, HY.out]; rfl⟩
              case measure => simp [intOf]; omega
          · have e := take_all (xs := bs s) (n := s.size) (by simp) (show s.size ≤ k by omega)
            have hall' := hall.out
            rw [e] at hall'
            have HA := hid hall'
            clear e hall' hall
            go_wp2
            go_ret
            exact ⟨ret_b (by have := HD.out; simp [wordOk, hh.out, this, HA.out]; omega), rfl⟩
      · have HD := hid hd
        go_enter Tryd.func34, Tryd.ntmps34
        go_wp2_with (go_at_call 56; refine (impl_isDigit_c _ _).mono ?_; rintro e w' ⟨rfl, rfl⟩)
        go_ret
        exact ⟨ret_b (by have := HD.out; simp [wordOk, hh.out, this]), rfl⟩

set_option maxHeartbeats 400000 in
theorem laws_alive_c (w : World) : Calls Tryd.prog 12 #[] w fun e w' => e = .returned (.bool true) ∧ w = w' := by
  have e1 : wordOk (bs ⟨#[97, 49]⟩) = true := by decide
  have e2 : wordOk (bs ⟨#[49, 97]⟩) = false := by decide
  go_enter Tryd.func12, Tryd.ntmps12
  go_wp2_with (go_at_call 34; refine (impl_WordValid_c _ _).mono ?_; rintro e w' ⟨rfl, rfl⟩)
  go_ret
  exact ⟨rfl, rfl⟩

end Go.Proofs.YtfdhaigmekmboaaDoor

/- A region that draws its order: its first e operations are moves, then come quiet ones (they read, or call what only draws), and from operation n on everything waits for the one before: one walk in the text's order serves every order. No program in sight. -/
namespace Go.Proofs.YtfdhaigmekmboaaDoor
open Go.RowKit

/-- A callee's contract inside a quiet walk, whatever the count of draws is spelled like. -/
theorem qsame {P : Program} {f : FuncId} {args : Array Value} {g : Nat → World} {n : Nat} {v : Value} (h : Calls P f args (g n) fun e w' => e = .returned v ∧ g n = w') :
    Calls P f args (g n) fun e w'' => e = .returned v ∧ ∃ m, w'' = g m := h.mono fun _ _ ⟨he, hw⟩ => ⟨he, n, hw.symm⟩
theorem qdraw {P : Program} {f : FuncId} {args : Array Value} {w : World} {n : Nat} {v : Value} (h : Calls P f args (w.drewN n) fun e w' => e = .returned v ∧ ∃ k, w' = (w.drewN n).drewN k) :
    Calls P f args (w.drewN n) fun e w'' => e = .returned v ∧ ∃ m, w'' = w.drewN m := h.mono fun _ _ ⟨he, k, hw⟩ => ⟨he, n + k, by rw [hw, World.drewN_drewN]⟩
theorem qdraw' {P : Program} {f : FuncId} {args : Array Value} {w : World} {a n : Nat} {v : Value} (h : Calls P f args (w.drewN (a + n)) fun e w' => e = .returned v ∧ ∃ k, w' = (w.drewN (a + n)).drewN k) :
    Calls P f args (w.drewN (a + n)) fun e w'' => e = .returned v ∧ ∃ m, w'' = w.drewN (a + m) := h.mono fun _ _ ⟨he, k, hw⟩ => ⟨he, n + k, by rw [hw, World.drewN_drewN, Nat.add_assoc]⟩

section
variable {P : Program} {ops : Array Oper} {md : Region.Mode} {C : World → Prop}

/-- Every operation from e to n (n left out) is waited for, directly, by a later one up to n. -/
def sinkFrom (md : Region.Mode) (ops : Array Oper) (e n : Nat) : Bool :=
  (List.range n).all fun i => decide (i < e) || (List.range (n + 1)).any fun j => decide (i < j) && Region.waitsFor md ops j i

/-- While one of those is pending nothing from n on may come up. -/
theorem held_back {e n : Nat} {listed : Array Bool} (hs : sinkFrom md ops e n = true) (hc : Region.chainB md ops n = true) (hn : n < ops.size) (inv : HeadInv md ops n listed) :
    ∀ (d i : Nat), n - i = d → e ≤ i → i < n → listed.getD i true = false → ∀ t, n ≤ t → t ∉ Region.ready md ops listed := by
  intro d
  induction d using Nat.strongRecOn with
  | _ d ih =>
    intro i hd hei hi hun t ht hr
    have hr' := hr
    obtain ⟨_, ot, hot, hall⟩ := mem_ready.1 hr'
    have htlt : t < ops.size := (Array.getElem?_eq_some_iff.1 hot).1
    rcases Nat.lt_or_ge n t with htn | htn
    · have h1 := List.all_eq_true.1 hc t (List.mem_range.2 htlt)
      rcases Bool.or_eq_true_iff.1 h1 with h2 | h2
      · have := of_decide_eq_true h2; omega
      · obtain ⟨o', ho', x, hx, hb, hon⟩ := Region.waitsFor_spec h2
        obtain rfl : o' = ot := Option.some.inj (ho'.symm.trans hot)
        have h3 := hall x hx hb
        rw [hon, getD_both (inv.tail (t - 1) (by omega) (by omega))] at h3
        cases h3
    · obtain rfl : t = n := by omega
      have h1 := List.all_eq_true.1 hs i (List.mem_range.2 hi)
      rcases Bool.or_eq_true_iff.1 h1 with h2 | h2
      · have := of_decide_eq_true h2; omega
      · obtain ⟨j, hj, hj2⟩ := List.any_eq_true.1 h2
        obtain ⟨hij, hw⟩ := Bool.and_eq_true_iff.1 hj2
        have hij := of_decide_eq_true hij
        have hjn : j ≤ t := by have := List.mem_range.1 hj; omega
        obtain ⟨oj, hoj, x, hx, hb, hon⟩ := Region.waitsFor_spec hw
        rcases Nat.lt_or_ge j t with hjt | hjt
        · cases hl : listed.getD j false with
          | true =>
            have h3 := inv.closed j oj hoj hl x hx hb
            rw [hon, getD_both hun] at h3
            cases h3
          | false => exact ih (t - j) (by omega) j rfl (by omega) hjt (getD_in (by rw [inv.size]; omega) hl) t (Nat.le_refl _) hr
        · obtain rfl : j = t := by omega
          obtain rfl : oj = ot := Option.some.inj (hoj.symm.trans hot)
          have h3 := hall x hx hb
          rw [hon, getD_both hun] at h3
          cases h3

/-- Whatever order the operations ahead of n take; behind them L. -/
def wpHead (P : Program) (md : Region.Mode) (ops : Array Oper) (C : World → Prop) (n : Nat) (L : Array Bool → Act → Prop) : Nat → Array Bool → Act → Prop
  | 0, listed, a => L listed a
  | f + 1, listed, a => Region.ready md ops listed ≠ [] ∧ ∀ i ∈ Region.ready md ops listed, i < n ∧ qOp P ops C i (wpHead P md ops C n L f (listed.setIfInBounds i true)) a

theorem wpAny_of_wpHead {n g : Nat} {L : Array Bool → Act → Prop} {Q : Exit → Act → World → Prop} (hL : ∀ listed a w, C w → L listed a → wpAny P md ops Q g listed a w) :
    ∀ (f : Nat) (listed : Array Bool) (a : Act) (w : World), C w → wpHead P md ops C n L f listed a → wpAny P md ops Q (f + g) listed a w := by
  intro f
  induction f with
  | zero => intro listed a w hw h; rw [Nat.zero_add]; exact hL _ _ _ hw h
  | succ f ih =>
    intro listed a w hw h
    rw [Nat.succ_add]
    exact ⟨fun h0 => absurd h0 h.1, fun i hi => wpOp_of_qOp hw (fun a' w' hw' h' => ih _ a' w' hw' h') (h.2 i hi).2⟩

theorem wpHead_first {e n i : Nat} {oi : Oper} {v : Value} {L : Array Bool → Act → Prop} (hi : ops[i]? = some oi) (hsel : ∀ (j : Nat) (o : Oper) cs b, ops[j]? = some o → o.op ≠ .select cs b)
    (hs : sinkFrom md ops e n = true) (hc : Region.chainB md ops n = true) (hn : n < ops.size) (hei : e ≤ i) (hin : i < n)
    (hdone : ∀ listed a, L listed a → ∀ j ∈ Region.ready md ops listed, n ≤ j) :
    ∀ (f : Nat) (listed : Array Bool) (a : Act), HeadInv md ops n listed →
      (∀ j oj, ops[j]? = some oj → j ≠ i → listed.getD j true = false → (∀ x ∈ oj.after, Region.binds md x = true → x.on ≠ i) → oi.apart ops oj = true) →
      i ∈ Region.ready md ops listed → YieldsIn P ops C oi v a →
      wpHead P md ops C n L f (listed.setIfInBounds i true) (a.put oi.dst v) → wpHead P md ops C n L (f + 1) listed a := by
  intro f
  induction f with
  | zero =>
    intro listed a inv _ hr hy H
    have hun := (mem_ready.1 hr).1
    refine ⟨fun h => (by rw [h] at hr; cases hr), fun j hj => ?_⟩
    have hjn : j < n := Nat.lt_of_not_le fun h => held_back hs hc hn inv _ i rfl hei hin hun j h hj
    refine ⟨hjn, ?_⟩
    by_cases hji : j = i
    · subst hji; exact hy.qOp hi H
    · exact absurd (hdone _ _ H j (ready_mono hj hji)) (by omega)
  | succ f ih =>
    intro listed a inv hfree hr hy H
    have hun := (mem_ready.1 hr).1
    refine ⟨fun h => (by rw [h] at hr; cases hr), fun j hj => ?_⟩
    have hjn : j < n := Nat.lt_of_not_le fun h => held_back hs hc hn inv _ i rfl hei hin hun j h hj
    refine ⟨hjn, ?_⟩
    by_cases hji : j = i
    · subst hji; exact hy.qOp hi H
    · have hj' := hj
      obtain ⟨hjun, oj, hoj, hall⟩ := mem_ready.1 hj'
      have hnot : ∀ x ∈ oj.after, Region.binds md x = true → x.on ≠ i := fun x hx hb heq => by
        have h1 := hall x hx hb
        rw [heq, getD_both hun] at h1
        cases h1
      have h2 := qOp_put hoj (hfree j oj hoj hji hjun hnot) (fun cs b => hsel i oi cs b hi) (fun cs b => hsel j oj cs b hoj) hy (H.2 j (ready_mono hj hji)).2
      refine qOp_mono (fun a' h3 => ih (listed.setIfInBounds j true) a' (inv.set hj hjn) (fun k ok hk hki hunk hno => hfree k ok hk hki ?_ hno) (ready_mono hr (Ne.symm hji)) h3.1 ?_) h2
      · by_cases hjk : j = k
        · subst hjk; exact hjun
        · rwa [getD_set_ne true hjk] at hunk
      · rw [Array.setIfInBounds_comm _ _ hji]; exact h3.2

theorem wpHead_lex {e n g : Nat} {Lq : Act → Prop} (hsel : Region.noSelect ops = true) (hs : sinkFrom md ops e n = true) (hc : Region.chainB md ops n = true) (hn : n < ops.size) :
    ∀ (l : List Oper) (k : Nat) (listed : Array Bool) (a : Act), (∀ j, j < l.length → l[j]? = ops[k + j]?) → k + l.length = n → e ≤ k → HeadInv md ops n listed →
    Region.lexHead md ops g l.length k listed = true → wpQuiet P ops C Lq l a →
    wpHead P md ops C n (fun listed' a' => Region.seqB md ops g n listed' = true ∧ Lq a') l.length listed a := by
  intro l
  induction l with
  | nil =>
    intro k listed a _ hk _ _ hB h
    obtain rfl : k = n := by simpa using hk
    exact ⟨hB, h⟩
  | cons o l ih =>
    intro k listed a hl hk hek inv hB h
    have h0 : ops[k]? = some o := by simpa using (hl 0 (by simp)).symm
    simp only [List.length_cons, Region.lexHead, Bool.and_eq_true] at hB
    have hkn : k < n := by simp only [List.length_cons] at hk; omega
    have hr : k ∈ Region.ready md ops listed := by simpa using hB.1.1
    obtain ⟨v, hy, hK⟩ := yieldsIn_of_qOp (K := wpQuiet P ops C Lq l) h0 (by unfold qOp; simp only [h0]; exact h)
    refine wpHead_first h0 (Region.noSelect_spec hsel) hs hc hn hek hkn (fun listed' a' hL => seqB_ready hL.1) l.length listed a inv (Region.free_spec h0 hB.1.2) hr hy ?_
    exact ih (k + 1) _ _ (fun j hj => by have := hl (j + 1) (by simp; omega); simpa [Nat.add_assoc, Nat.add_comm 1 j] using this) (by simp only [List.length_cons] at hk; omega) (by omega) (inv.set hr hkn) hB.2 hK

/-- The first operation is a move, and may be taken first. -/
def earlyB (md : Region.Mode) (ops : Array Oper) (n : Nat) : Bool :=
  Region.noSelect ops && decide (n < ops.size) && decide (0 < n) && sinkFrom md ops 1 n && Region.chainB md ops n &&
    ((Region.ready md ops (Array.replicate ops.size false)).contains 0 && Region.free md ops (Array.replicate ops.size false) 0 &&
      Region.lexHead md ops (ops.size - n) (n - 1) 1 ((Array.replicate ops.size false).setIfInBounds 0 true))

theorem wp_region_early {id n : Nat} {Q : Exit → Act → World → Prop} {a : Act} {w : World} {o0 : Oper} {l : List Oper} (x : Operand) (hx : o0.op = .move x) (hg : o0.guard = none)
    (hm : P.follows .mixedOrders = true) (hB : earlyB .any (o0 :: l).toArray n = true) (hQ : ∀ c (b : Act) (v : Value) w', Q (.panic c) (b.put o0.dst v) w' → Q (.panic c) b w')
    (h : wpQuiet P (o0 :: l).toArray (fun w' => ∃ m, w' = w.drewN m) (fun a' => ∀ m, wpList P (o0 :: l).toArray Q ((o0 :: l).drop n) a' (w.drewN m)) (l.take (n - 1)) (a.put o0.dst (a.eval x))) :
    (Code.region id (o0 :: l).toArray true).wp P Q a w := by
  generalize hops : (o0 :: l).toArray = ops at *
  have hsz : ops.size = l.length + 1 := by rw [← hops]; simp
  have hget : ∀ j, ops[j + 1]? = l[j]? := fun j => by rw [← hops]; simp
  have h0 : ops[0]? = some o0 := by rw [← hops]; simp
  simp only [earlyB, Bool.and_eq_true, decide_eq_true_eq] at hB
  obtain ⟨⟨⟨⟨⟨hsel, hn⟩, hn0⟩, hs⟩, hc⟩, ⟨hr, hf⟩, hlex⟩ := hB
  have hr' : 0 ∈ Region.ready .any ops (Array.replicate ops.size false) := by simpa using hr
  have inv0 : HeadInv .any ops n (Array.replicate ops.size false) :=
    ⟨by simp, fun j oj _ hl => (by rw [getD_replicate_false] at hl; cases hl), fun t _ ht => getD_in (by simpa using ht) (getD_replicate_false _ _)⟩
  have htl : (l.take (n - 1)).length = n - 1 := by simp; omega
  have H := wpHead_lex (md := .any) (C := fun w' => ∃ m, w' = w.drewN m) (e := 1) (g := ops.size - n) hsel hs hc hn (l.take (n - 1)) 1 _ _
    (fun j hj => by
      have hj' : j < n - 1 := by rw [htl] at hj; exact hj
      rw [Nat.add_comm 1 j, hget, List.getElem?_take, if_pos hj'])
    (by rw [htl]; omega) (Nat.le_refl _) (inv0.set hr' hn0) (by rw [htl]; exact hlex) h
  refine wp_region_any hm ?_
  have hy : Yields P ops o0 (a.eval x) a := .inl ⟨by simp [Region.wanted, hg], fun w => BigFrame.run_move x hx w⟩
  have hfin := wpAny_of_wpHead (Q := Q) (g := ops.size - n) (fun listed a' w' hw' hL => by
    obtain ⟨m, rfl⟩ := hw'
    have := wpAny_of_seq (md := .any) (Q' := Q) ((o0 :: l).drop n) n listed a' (w.drewN m) (fun j => by rw [List.getElem?_drop, ← hops]; simp) (by rw [List.length_drop, List.length_cons, ← hsz]; exact hL.1) (hL.2 m)
    rwa [List.length_drop, List.length_cons, ← hsz] at this) _ _ _ (w.drewN 1) ⟨1, rfl⟩ H
  rw [htl, show n - 1 + (ops.size - n) = ops.size - 1 by omega] at hfin
  obtain ⟨f, hfu⟩ : ∃ f, ops.size = f + 1 := ⟨ops.size - 1, by omega⟩
  have hfu' : ops.size - 1 = f := by omega
  rw [hfu'] at hfin
  rw [hfu] at hfin hr' hf hr ⊢
  exact wpAny_take h0 hsel hf hr (fun c b w' h => hQ c b _ w' h) hy hfin
end

end Go.Proofs.YtfdhaigmekmboaaDoor

/- Walks: the reader of a code. -/
namespace Go.Proofs.YtfdhaigmekmboaaDoor
open Go.RowKit

abbrev encU (x : Int) : List Value := [.int .u8 x]

/-- The reader in block g: it has the bytes l, and has been asked p times. -/
def Reader (w : World) (g : Nat) (l : List Int) (p : Nat) : Prop :=
  ∃ v : Value, w.heap[g]? = some (.cells #[v, .int .i64 p] 69 (0, 0)) ∧ Rd encU 1 w g v l ∧ (∀ x ∈ l, 0 ≤ x ∧ x ≤ 255) ∧ l.length ≤ 2000

theorem Reader.lt {w : World} {g p : Nat} {l : List Int} (h : Reader w g l p) : g < w.heap.size := by
  obtain ⟨v, hh, _⟩ := h
  exact (Array.getElem?_eq_some_iff.1 hh).1
theorem Reader.kept {w w' : World} {g p : Nat} {l : List Int} {row : Option Nat} (h : Reader w g l p) (hg : w.grownBy w' row) (hr : ∀ b, row = some b → g < b) : Reader w' g l p := by
  have hlt := h.lt
  obtain ⟨v, hh, hrd, hl⟩ := h
  exact ⟨v, (hg.block g hlt (fun e => by have := hr g e.symm; omega)).trans hh, Rd.far hrd (by omega) hg (fun b hb => by have := hr b hb; omega), hl⟩
theorem Reader.on {w w' : World} {g p : Nat} {l : List Int} (h : Reader w g l p) (hb : Below w.heap.size w w') : Reader w' g l p := h.kept (gb_of_below hb none) (by simp)

theorem Reader.alloc {w : World} {g p : Nat} {l : List Int} (h : Reader w g l p) (o : Obj) : Reader (w.alloc o) g l p := h.kept (World.grownBy_alloc w o none) (by simp)

/-- The bytes of an argument are bytes. -/
theorem IsRow.bytes {w : World} {a : Option Addr} {len cap : Nat} {zs : List Int} (h : IsRow .u8 w a len cap zs) : ∀ x ∈ zs.take len, 0 ≤ x ∧ x ≤ 255 := by
  rcases h with ⟨rfl, rfl, rfl, rfl⟩ | ⟨x, rfl, hl, hm, hz, hc, hw⟩
  · intro x hx; simp at hx
  · intro y hy
    have hh := hw y (List.mem_of_mem_take hy)
    simp only [Lit.wf, Bool.and_eq_true, decide_eq_true_eq] at hh
    rw [show IntKind.u8.min = 0 from rfl, show IntKind.u8.max = 255 from rfl] at hh
    exact hh

set_option maxHeartbeats 400000 in
theorem spec_l20Open_c (v : Value) (l : List Int) (w : World) (h : Rd encU 1 w w.heap.size v l) (hl : ∀ x ∈ l, 0 ≤ x ∧ x ≤ 255) :
    Calls Tryd.prog 46 #[v] w fun e w' => ∃ l', e = .returned (.pointer (some ⟨w.heap.size, 0, none⟩)) ∧ Reader w' w.heap.size l' 0 ∧ Below w.heap.size w w' := by
  obtain ⟨n, hn⟩ : ∃ n, l.length = n := ⟨_, rfl⟩
  obtain ⟨a, c, rfl, h1, h2, h3⟩ := Rd.openN h (fun _ => rfl) hn
  by_cases h4 : 2000 < n
  · have hcut : Rd encU 1 w w.heap.size (.slice a 2000 c) (l.take 2000) := by
      obtain ⟨a', c', he, g1, g2, g3, g4⟩ := h
      simp only [Value.slice.injEq] at he
      obtain ⟨rfl, _, rfl⟩ := he
      have hlen : (l.take 2000).length = 2000 := by simp; omega
      refine ⟨a, c, by rw [hlen], by omega, g2, by rw [← List.map_eq_flatMap, List.length_map, hlen], fun _ => ?_⟩
      obtain ⟨b, o, rfl, hb, hat⟩ := g4 (by omega)
      refine ⟨b, o, rfl, hb, fun j u hu => hat j u ?_⟩
      rw [← List.map_eq_flatMap] at hu ⊢
      rw [List.getElem?_map] at hu ⊢
      rw [List.getElem?_take] at hu
      split at hu
      · exact hu
      · simp at hu
    have HC := hid hcut
    have HL := hid hl
    clear hcut hl h h3 hn
    have hc2000 : (2000 : Int) ≤ (c : Int) := by omega
    go_enter Tryd.func46, Tryd.ntmps46
    go_wp2
    go_ret
    exact ⟨l.take 2000, rfl, ⟨_, heap_alloc_new _ _, (HC.out.below ((Below.refl w.heap.size w).alloc (Nat.le_refl _) _) (Nat.le_refl _)), fun x hx => HL.out x (List.mem_of_mem_take hx), by simp; omega⟩, (Below.refl _ _).alloc (Nat.le_refl _) _⟩
  · have HN := hid hn
    have HL := hid hl
    have HH := hid h
    clear hl h h3 hn
    go_enter Tryd.func46, Tryd.ntmps46
    go_wp2
    go_ret
    exact ⟨l, rfl, ⟨_, heap_alloc_new _ _, (HH.out.below ((Below.refl w.heap.size w).alloc (Nat.le_refl _) _) (Nat.le_refl _)), HL.out, by rw [HN.out]; omega⟩, (Below.refl _ _).alloc (Nat.le_refl _) _⟩

theorem xor_nonneg (a b : Int) (ha : 0 ≤ a) (ha' : a < 9223372036854775808) (hb : 0 ≤ b) (hb' : b < 9223372036854775808) : 0 ≤ bits .xor .i64 a b ∧ bits .xor .i64 a b ≤ 9223372036854775807 := by
  obtain ⟨x, rfl⟩ := Int.eq_ofNat_of_zero_le ha
  obtain ⟨y, rfl⟩ := Int.eq_ofNat_of_zero_le hb
  have hx : x < 9223372036854775808 := by omega
  have hy : y < 9223372036854775808 := by omega
  have ht : ∀ k : Nat, k < 9223372036854775808 → (BitVec.ofInt 64 (k : Int)).toNat = k := fun k hk => by
    rw [BitVec.ofInt_natCast, BitVec.toNat_ofNat]; exact Nat.mod_eq_of_lt (by omega)
  have hz : x ^^^ y < 2 ^ 63 := Nat.xor_lt_two_pow (by omega) (by omega)
  have e : bits .xor .i64 (x : Int) (y : Int) = IntKind.i64.wrap ((BitVec.ofInt 64 (x : Int) ^^^ BitVec.ofInt 64 (y : Int)).toNat : Int) := rfl
  rw [e, BitVec.toNat_xor, ht x hx, ht y hy, IntKind.wrap_i64]
  omega

/-- What a pick gives: a number in 0..n-1, or 0. -/
def Picked (n : Int) (w : World) (g : Nat) (l : List Int) (p : Nat) (e : Ending) (w' : World) : Prop :=
  ∃ x : Int, e = .returned (.int .i64 x) ∧ 0 ≤ x ∧ (1 ≤ n → x < n) ∧ (n < 1 → x = 0) ∧ Reader w' g l (p + 1) ∧ w.grownBy w' (some g)

set_option maxHeartbeats 2000000 in
set_option maxRecDepth 100000 in
theorem spec_pick_c (g p : Nat) (l : List Int) (n : Int) (w : World) (h : Reader w g l p) (hp : p ≤ 1099511627776) :
    Calls Tryd.prog 48 #[.pointer (some ⟨g, 0, none⟩), .int .i64 n] w (Picked n w g l p) := by
  have hlt := h.lt
  obtain ⟨v, hh, hrd, hl, hl2⟩ := h
  obtain ⟨m, hm⟩ : ∃ m, l.length = m := ⟨_, rfl⟩
  obtain ⟨a, c, rfl, h1, h2, h3⟩ := Rd.openN hrd (fun _ => rfl) hm
  have hm2 : m ≤ 2000 := by omega
  have hc0 := cell_of_row w g 0 _ _ _ hh
  have hc1 := cell_of_row w g 1 _ _ _ hh
  have hf1 : w.frozen? ⟨g, 1, none⟩ = false := by simp [World.frozen?, hh]
  simp only [List.getElem?_toArray, List.getElem?_cons_zero, List.getElem?_cons_succ] at hc0 hc1
  obtain ⟨W, hW⟩ : ∃ W, W = w.setCell ⟨g, 1, none⟩ (.int .i64 (p + 1)) := ⟨_, rfl⟩
  have hgW : w.grownBy W (some g) := by rw [hW]; exact ⟨rfl, rfl, rfl, by simp [World.setCell], fun k hk hne => Below.heap_setCell _ _ _ _ (fun e => hne (by rw [e]))⟩
  have hRW : Reader W g l (p + 1) := by
    refine ⟨_, ?_, Rd.far hrd (by omega) hgW (fun b hb => by simp at hb; omega), hl, hl2⟩
    rw [hW]
    simp [World.setCell, Array.getElem?_modify, hh]
  have HRW := hid hRW
  have HGW := hid hgW
  have HM := hid hm
  clear hm
  by_cases hn : n < 1
  · clear hh hrd hl hl2 h3 hRW hgW
    go_enter Tryd.func48, Tryd.ntmps48
    go_wp2
    go_ret
    exact ⟨0, rfl, Int.le_refl _, by omega, fun _ => rfl, by rw [← hW]; exact HRW.out, by rw [← hW]; exact HGW.out⟩
  · have hn1 : 1 ≤ n := by omega
    by_cases hm0 : m = 0
    · subst hm0
      clear hh hrd hl hl2 h3 hRW hgW
      go_enter Tryd.func48, Tryd.ntmps48
      go_wp2
      go_ret
      exact ⟨0, rfl, Int.le_refl _, fun _ => by omega, fun _ => rfl, by rw [← hW]; exact HRW.out, by rw [← hW]; exact HGW.out⟩
    · have hmp : 0 < m := by omega
      have hcell : ∀ j, j < m → ∃ b o x, a = some ⟨b, o, none⟩ ∧ (w.setCell ⟨g, 1, none⟩ (.int .i64 (p + 1))).cell? ⟨b, o + j, none⟩ = some (.int .u8 x) ∧ 0 ≤ x ∧ x ≤ 255 := by
        intro j hj
        obtain ⟨b, o, x, ha, hb, hx, hc⟩ := h3 j hj
        have := hl x (List.mem_of_getElem? hx.out)
        refine ⟨b, o, x, ha, ?_, this.1, this.2⟩
        rw [World.cell?_setCell_other w _ _ _ (by intro e; have := congrArg Addr.block e; simp at this; omega)]
        simpa using hc 0 _ rfl
      have hml : ((m : Int) == 0) = false := by simp; omega
      by_cases hpm : p < m
      · obtain ⟨b, o, x, rfl, hcx, hx0, hx1⟩ := hcell p hpm
        have hq0 := Int.emod_nonneg x (show n ≠ 0 by omega)
        have hq1 := Int.emod_lt_of_pos x (show 0 < n by omega)
        clear hh hrd hl hl2 h3 hRW hgW hcell
        go_enter Tryd.func48, Tryd.ntmps48
        go_wp2
        go_ret
        exact ⟨x % n, rfl, hq0, fun _ => hq1, by omega, by rw [← hW]; exact HRW.out, by rw [← hW]; exact HGW.out⟩
      · have i1 : 0 ≤ (p : Int) % (m : Int) := Int.emod_nonneg _ (by omega)
        have i2 : (p : Int) % (m : Int) < (m : Int) := Int.emod_lt_of_pos _ (by omega)
        obtain ⟨b, o, x, rfl, hcx, hx0, hx1⟩ := hcell (p % m) (Nat.mod_lt _ hmp)
        obtain ⟨b', o', y, hbo, hcy, hy0, hy1⟩ := hcell ((p * 7 + 3) % m) (Nat.mod_lt _ hmp)
        simp only [Option.some.injEq, Addr.mk.injEq, and_true] at hbo
        obtain ⟨rfl, rfl⟩ := hbo
        have i3 : ((p : Int) % (m : Int)).toNat = p % m := by rw [← Int.natCast_emod, Int.toNat_natCast]
        have jc : (p : Int) * 7 + 3 = ((p * 7 + 3 : Nat) : Int) := by omega
        have j1 : 0 ≤ ((p : Int) * 7 + 3) % (m : Int) := Int.emod_nonneg _ (by omega)
        have j2 : ((p : Int) * 7 + 3) % (m : Int) < (m : Int) := Int.emod_lt_of_pos _ (by omega)
        have j3 : (((p : Int) * 7 + 3) % (m : Int)).toNat = (p * 7 + 3) % m := by rw [jc, ← Int.natCast_emod, Int.toNat_natCast]
        have d0 : 0 ≤ (p : Int) / (m : Int) := Int.ediv_nonneg (by omega) (by omega)
        have d1 : (p : Int) / (m : Int) ≤ (p : Int) := Int.ediv_le_self _ (by omega)
        have e0 : 0 ≤ x * 131 + y * 1117 + (p : Int) * 29 + (p : Int) / (m : Int) * 53 := by omega
        have e1 : x * 131 + y * 1117 + (p : Int) * 29 + (p : Int) / (m : Int) * 53 ≤ 1000000000000000 := by omega
        have hX := xor_nonneg (x * 131 + y * 1117 + (p : Int) * 29 + (p : Int) / (m : Int) * 53) ((x * 131 + y * 1117 + (p : Int) * 29 + (p : Int) / (m : Int) * 53) / 64) e0 (by omega) (by omega) (by omega)
        obtain ⟨x0, x1⟩ := hX
        have HMO := hid (fun z : Int => And.intro (Int.emod_nonneg z (show n ≠ 0 by omega)) (Int.emod_lt_of_pos z (show 0 < n by omega)))
        clear hh hrd hl hl2 h3 hRW hgW hcell jc
        go_enter Tryd.func48, Tryd.ntmps48
        go_wp2
        go_quiet (fail)
        go_wp2
        go_ret
        exact ⟨_, rfl, (HMO.out _).1, fun _ => (HMO.out _).2, by omega, by rw [← hW]; exact HRW.out, by rw [← hW]; exact gb_drewN HGW.out _⟩

/-- What 'odd' gives: some bool; never true at 0. -/
def Odd (n : Int) (w : World) (g : Nat) (l : List Int) (p : Nat) (e : Ending) (w' : World) : Prop :=
  ∃ (x : Bool) (p' : Nat), e = .returned (.bool x) ∧ (n ≤ 0 → x = false) ∧ p' ≤ p + 1 ∧ Reader w' g l p' ∧ w.grownBy w' (some g)

set_option maxHeartbeats 400000 in
theorem spec_odd_c (g p : Nat) (l : List Int) (n : Int) (w : World) (h : Reader w g l p) (hp : p ≤ 1099511627776) (hn0 : 0 ≤ n) (hn9 : n ≤ 1000000) :
    Calls Tryd.prog 67 #[.pointer (some ⟨g, 0, none⟩), .int .i64 n] w (Odd n w g l p) := by
  by_cases hn : 0 < n
  · have H := hid h
    clear h
    go_enter Tryd.func67, Tryd.ntmps67
    go_wp2_with fail
    refine (spec_pick_c g p l n _ H.out hp).mono ?_
    rintro e w1 ⟨x, rfl, x0, x1, x2, hr, hg⟩
    have HR := hid hr
    have HG := hid hg
    clear hr hg x1 x2
    go_wp2
    go_ret
    exact ⟨_, _, rfl, fun h => by omega, Nat.le_refl _, HR.out, HG.out⟩
  · go_enter Tryd.func67, Tryd.ntmps67
    go_wp2
    go_ret
    exact ⟨_, p, rfl, fun _ => rfl, by omega, h, World.grownBy.refl _ _⟩

end Go.Proofs.YtfdhaigmekmboaaDoor

/- Walks: drawn texts. -/
namespace Go.Proofs.YtfdhaigmekmboaaDoor
open Go.RowKit

def Z61 : Array Value := madeCells #[.int .u8 0] 61
def S61 : ByteArray := ⟨(List.replicate 61 (0 : UInt8)).toArray⟩
theorem z61_get (j : Nat) (h : j < 61) : Z61[j]? = some (.int .u8 0) := by
  unfold Z61 madeCells
  simp [h, Nat.mod_one]
theorem run_make61 (W : World) : (Instr.makeSlice 22 (.int .i64 61) (.int .i64 61)).run Tryd.prog W = .ok (.slice (some ⟨W.heap.size, 0, none⟩) 61 61) (W.alloc (.cells Z61 5)) :=
  run_make_row' 22 5 (.int .u8 0) 1 Tryd.underlying22 (by kernel_rfl) rfl .i64 .i64 61 (by omega) (by omega) W
theorem run_conv61 (W : World) (b : Nat) (h : W.heap[b]? = some (.cells Z61 5 (0, 0))) : (convert 22 9 (.slice (some ⟨b, 0, none⟩) 61 61)).run Tryd.prog W = .ok (.string S61) W := by
  have := run_convert_bytes_back (P := Tryd.prog) W 22 9 5 ⟨b, 0, none⟩ 61 (List.replicate 61 (0 : UInt8)) Tryd.underlying22 Tryd.underlying5 Tryd.underlying9 (fun j hj => by
    have hj' : j < 61 := by simpa using hj
    have hadd : (⟨b, 0, none⟩ : Addr).add j = ⟨b, j, none⟩ := by unfold Addr.add; split <;> simp_all
    rw [hadd]
    simp only [World.cell?, h, List.getElem_replicate]
    simpa using z61_get j hj')
  simpa [S61] using this

theorem second_heap (w : World) (o o' : Obj) : ((w.alloc o).alloc o').heap[w.heap.size + 1]? = some o' := by
  have := heap_alloc_new (w.alloc o) o'
  simpa using this
theorem some_ne {a b : Nat} (h : a ≠ b) : some a ≠ some b := fun e => h (Option.some.inj e)
theorem gb_undrew {w w' : World} {r : Option Nat} (h : w.drew.grownBy w' r) : w.grownBy w' r := ⟨h.os, h.tape, h.output, h.size, h.block⟩
theorem gb_drew {w w' : World} {r : Option Nat} (h : w.grownBy w' r) : w.grownBy w'.drew r := ⟨h.os, h.tape, h.output, h.size, h.block⟩
theorem gb_alloc {w w' : World} {r : Option Nat} (h : w.grownBy w' r) (o : Obj) : w.grownBy (w'.alloc o) r := h.trans (World.grownBy_alloc w' o r)
theorem gb_unalloc {w w' : World} {r : Option Nat} {o : Obj} (h : (w.alloc o).grownBy w' r) : w.grownBy w' r := (World.grownBy_alloc w o r).trans h

/-- Texts of at most B bytes each. -/
def allStr (B : Nat) (l : List Value) : Bool := l.all fun v => match v with | .string s => decide (s.size ≤ B) | _ => false
theorem allStr_get {B : Nat} {cs : Array Value} (h : allStr B cs.toList = true) {j : Nat} (hj : j < cs.size) : ∃ s : ByteArray, cs[j]? = some (.string s) ∧ s.size ≤ B := by
  have hm : cs[j] ∈ cs.toList := by simp
  have h1 := List.all_eq_true.1 h _ hm
  rw [Array.getElem?_eq_getElem hj]
  cases hv : cs[j] with
  | string s => rw [hv] at h1; exact ⟨s, rfl, of_decide_eq_true h1⟩
  | _ => rw [hv] at h1; cases h1
theorem str_cell {B : Nat} {cs : Array Value} {t : TypeId} (h : allStr B cs.toList = true) {j : Nat} (hj : j < cs.size) : ∃ s : ByteArray, s.size ≤ B ∧ cs[j]? = some (.string s) ∧
    (∀ (W : World) (b : Nat), W.heap[b]? = some (.cells cs t (0, 0)) → W.cell? ⟨b, j, none⟩ = some (.string s)) ∧
    (∀ W : World, (W.alloc (.cells cs t)).cell? ⟨W.heap.size, j, none⟩ = some (.string s)) ∧ (∀ (W : World) (o : Obj), ((W.alloc o).alloc (.cells cs t)).cell? ⟨W.heap.size + 1, j, none⟩ = some (.string s)) := by
  obtain ⟨s, hs, hB⟩ := allStr_get h hj
  have h0 : ∀ (W : World) (b : Nat), W.heap[b]? = some (.cells cs t (0, 0)) → W.cell? ⟨b, j, none⟩ = some (.string s) := fun W b hW => by simp [World.cell?, hW, hs]
  exact ⟨s, hB, hs, h0, fun W => h0 _ _ (heap_alloc_new _ _), fun W o => h0 _ _ (second_heap _ _ _)⟩

/-- A text of at most B bytes; the reader has been asked at most k times more. -/
def Texted (B k : Nat) (w : World) (g : Nat) (l : List Int) (p : Nat) (e : Ending) (w' : World) : Prop :=
  ∃ (s : ByteArray) (p' : Nat), e = .returned (.string s) ∧ s.size ≤ B ∧ p' ≤ p + k ∧ Reader w' g l p' ∧ w.grownBy w' (some g)



end Go.Proofs.YtfdhaigmekmboaaDoor

/- Walks: valid texts. -/
namespace Go.Proofs.YtfdhaigmekmboaaDoor
open Go.RowKit

def txCh (c : UInt8) : Bool := inB c.toNat 32 126
/-- A valid text. -/
def textOk (l : List UInt8) : Bool := decide (l.length ≤ 60) && l.all txCh
theorem textOk_len {l : List UInt8} (h : textOk l = true) : l.length ≤ 60 := by simp [textOk] at h; exact h.1
theorem bs_len (s : ByteArray) : (bs s).length = s.size := by simp [bs]
theorem bs_get (s : ByteArray) {k : Nat} (h : k < s.size) : (bs s)[k]? = some s[k] := by
  unfold bs
  rw [List.getElem?_eq_getElem (by simpa using h)]
  simp [ByteArray.getElem_eq_getElem_data]

set_option maxHeartbeats 400000 in
theorem impl_TextValid_c (s : ByteArray) (w : World) :
    Calls Tryd.prog 32 #[.string s] w fun e w' => e = .returned (.bool (textOk (bs s))) ∧ w = w' := by
  by_cases h1 : 60 < s.size
  · go_enter Tryd.func32, Tryd.ntmps32
    go_wp2
    go_ret
    exact ⟨ret_b (by simp [textOk]; omega), rfl⟩
  · go_enter Tryd.func32, Tryd.ntmps32
    go_wp2
    go_loop [3] (fun i => ∃ k : Nat, k ≤ s.size ∧ i = .int .i64 k ∧ Hid (((bs s).take k).all txCh = true)) (fun i => s.size - (intOf i).toNat)
    case atStart => exact ⟨0, Nat.zero_le _, rfl, rfl⟩
    case round =>
      obtain ⟨k, hk, rfl, hall⟩ := hrel
      by_cases hlt : k < s.size
      · have hx := hid (bs_get s hlt)
        by_cases c1 : (s[k].toNat : Int) < 32
        · have HN := hid (all_no txCh hx.out (show txCh s[k] = false by simp [txCh, inB]; omega))
          go_wp2
          go_ret
          exact ⟨ret_b (by unfold textOk; rw [HN.out]; simp), rfl⟩
        · by_cases c2 : 126 < (s[k].toNat : Int)
          · have HN := hid (all_no txCh hx.out (show txCh s[k] = false by simp [txCh, inB]; omega))
            go_wp2
            go_ret
            exact ⟨ret_b (by unfold textOk; rw [HN.out]; simp), rfl⟩
          · have HY := hid (show txCh s[k] = true by simp [txCh, inB]; omega)
            go_wp2
            go_round
            case rel => exact ⟨k + 1, by omega, by go_num, by unfold Hid; rw [all_succ txCh hx.out, hall.out, HY.out]; rfl⟩
            case measure => simp [intOf]; omega
      · have e := take_all (xs := bs s) (n := s.size) (by simp) (show s.size ≤ k by omega)
        have hall' := hall.out
        rw [e] at hall'
        have HA := hid hall'
        clear e hall' hall
        go_wp2
        go_ret
        exact ⟨ret_b (by simp [textOk, HA.out]; omega), rfl⟩

set_option maxHeartbeats 400000 in
theorem spec_TextValid_c (s : ByteArray) (w : World) (hs : s.size ≤ 4611686018427387904) :
    Calls Tryd.prog 52 #[.string s] w fun e w' => e = .returned (.bool (textOk (bs s))) ∧ w = w' := by
  go_enter Tryd.func52, Tryd.ntmps52
  go_wp2
  go_loop [3] (fun i => ∃ k : Nat, k ≤ s.size ∧ i = .int .i64 k ∧ Hid (((bs s).take k).all txCh = true)) (fun i => s.size - (intOf i).toNat)
  case atStart => exact ⟨0, Nat.zero_le _, rfl, rfl⟩
  case round =>
    obtain ⟨k, hk, rfl, hall⟩ := hrel
    by_cases hlt : k < s.size
    · have hx := hid (bs_get s hlt)
      by_cases c1 : (s[k].toNat : Int) < 32
      · have HN := hid (all_no txCh hx.out (show txCh s[k] = false by simp [txCh, inB]; omega))
        go_wp2
        go_ret
        exact ⟨ret_b (by unfold textOk; rw [HN.out]; simp), rfl⟩
      · by_cases c2 : 126 < (s[k].toNat : Int)
        · have HN := hid (all_no txCh hx.out (show txCh s[k] = false by simp [txCh, inB]; omega))
          go_wp2
          go_ret
          exact ⟨ret_b (by unfold textOk; rw [HN.out]; simp), rfl⟩
        · have HY := hid (show txCh s[k] = true by simp [txCh, inB]; omega)
          go_wp2
          go_round
          case rel => exact ⟨k + 1, by omega, by go_num, by unfold Hid; rw [all_succ txCh hx.out, hall.out, HY.out]; rfl⟩
          case measure => simp [intOf]; omega
    · have e := take_all (xs := bs s) (n := s.size) (by simp) (show s.size ≤ k by omega)
      have hall' := hall.out
      rw [e] at hall'
      have HA := hid hall'
      clear e hall' hall
      by_cases h60 : s.size ≤ 60
      all_goals
        go_wp2
        go_ret
        exact ⟨ret_b (by simp [textOk, HA.out]; try omega), rfl⟩

end Go.Proofs.YtfdhaigmekmboaaDoor

/- Plain facts on prints and seals. No program in sight. -/
namespace Go.Proofs.YtfdhaigmekmboaaDoor
open Go.RowKit

def prStep (n : Int) (c : UInt8) : Int := (n * 257 + c.toNat) % 16777213
def prFold (l : List UInt8) : Int := l.foldl prStep 1
def printOf (l : List UInt8) : Int := if textOk l then prFold l else -1
def pair (a b : Int) : Int := if pv a && pv b then (a * 7919 + b * 104729 + 3) % 16777213 else -1
def plOk (l : List Int) : Bool := decide (l.length ≤ 20) && l.all pv
def plist (l : List Int) : Int := if plOk l then l.foldl pair 5 else -1

theorem prStep_in (n : Int) (c : UInt8) : 0 ≤ prStep n c ∧ prStep n c ≤ 16777212 := by
  unfold prStep
  have h1 := Int.emod_nonneg (n * 257 + c.toNat) (show (16777213 : Int) ≠ 0 by decide)
  have h2 := Int.emod_lt_of_pos (n * 257 + c.toNat) (show (0 : Int) < 16777213 by decide)
  omega
theorem prFold_in (l : List UInt8) : 0 ≤ prFold l ∧ prFold l ≤ 16777212 := by
  unfold prFold
  have : ∀ (l : List UInt8) (n : Int), 0 ≤ n ∧ n ≤ 16777212 → 0 ≤ l.foldl prStep n ∧ l.foldl prStep n ≤ 16777212 := by
    intro l
    induction l with
    | nil => intro n h; exact h
    | cons c r ih => intro n _; exact ih _ (prStep_in n c)
  exact this l 1 (by omega)
theorem printOf_in {l : List UInt8} (h : textOk l = true) : pv (printOf l) = true := by
  unfold printOf
  rw [if_pos h]
  exact inB_iff.2 (prFold_in l)
theorem pair_in {a b : Int} (h : pv a = true) (h' : pv b = true) : pv (pair a b) = true := by
  unfold pair
  rw [h, h']
  rw [if_pos (by rfl)]
  have h1 := Int.emod_nonneg (a * 7919 + b * 104729 + 3) (show (16777213 : Int) ≠ 0 by decide)
  have h2 := Int.emod_lt_of_pos (a * 7919 + b * 104729 + 3) (show (0 : Int) < 16777213 by decide)
  exact inB_iff.2 ⟨h1, by omega⟩
theorem pairs_in {l : List Int} : ∀ {n : Int}, pv n = true → l.all pv = true → pv (l.foldl pair n) = true := by
  induction l with
  | nil => intro n h _; exact h
  | cons x r ih =>
    intro n h h'
    rw [List.all_cons, Bool.and_eq_true] at h'
    exact ih (pair_in h h'.1) h'.2
theorem pv_iff {n : Int} : pv n = true ↔ 0 ≤ n ∧ n ≤ 16777212 := inB_iff
/-- 16777213 has no part in common with the two factors. -/
theorem dvd_of_mul1 {x : Int} (h : (16777213 : Int) ∣ x * 104729) : (16777213 : Int) ∣ x := by
  have h2 : (16777213 : Int) ∣ x * 104729 * 243018 := Int.dvd_trans h (Int.dvd_mul_right _ _)
  obtain ⟨k, hk⟩ := h2
  exact ⟨k - 1517 * x, by omega⟩
theorem dvd_of_mul2 {x : Int} (h : (16777213 : Int) ∣ x * 7919) : (16777213 : Int) ∣ x := by
  have h2 : (16777213 : Int) ∣ x * 7919 * 7018930 := Int.dvd_trans h (Int.dvd_mul_right _ _)
  obtain ⟨k, hk⟩ := h2
  exact ⟨k - 3313 * x, by omega⟩
theorem pair_inj2 {a b c : Int} (ha : pv a = true) (hb : pv b = true) (hc : pv c = true) (h : pair a b = pair a c) : b = c := by
  unfold pair at h
  rw [ha, hb, hc] at h
  simp only [Bool.and_self, if_true] at h
  rw [pv_iff] at hb hc
  have h3 := Int.dvd_of_emod_eq_zero (Int.emod_eq_emod_iff_emod_sub_eq_zero.1 h)
  have e : a * 7919 + b * 104729 + 3 - (a * 7919 + c * 104729 + 3) = (b - c) * 104729 := by omega
  rw [e] at h3
  obtain ⟨k, hk⟩ := dvd_of_mul1 h3
  omega
theorem pair_val {a b : Int} (ha : pv a = true) (hb : pv b = true) : pair a b = (a * 7919 + b * 104729 + 3) % 16777213 := by
  unfold pair
  rw [ha, hb]
  rfl
theorem emod_dvd {x y : Int} (h : x % 16777213 = y % 16777213) : (16777213 : Int) ∣ x - y := Int.dvd_of_emod_eq_zero (Int.emod_eq_emod_iff_emod_sub_eq_zero.1 h)
theorem pair_inj1 {a b c : Int} (ha : pv a = true) (hb : pv b = true) (hc : pv c = true) (h : pair b a = pair c a) : b = c := by
  rw [pair_val hb ha, pair_val hc ha] at h
  have h3 := emod_dvd h
  rw [show b * 7919 + a * 104729 + 3 - (c * 7919 + a * 104729 + 3) = (b - c) * 7919 by omega] at h3
  obtain ⟨k, hk⟩ := dvd_of_mul2 h3
  have hb' := pv_iff.1 hb
  have hc' := pv_iff.1 hc
  clear h h3 ha hb hc
  omega
theorem plist_in {l : List Int} (h : plOk l = true) : pv (plist l) = true := by
  unfold plist
  rw [if_pos h]
  simp only [plOk, Bool.and_eq_true] at h
  exact pairs_in (by decide) h.2
theorem plist_off {l : List Int} (h : plOk l = false) : plist l = -1 := by unfold plist; rw [h]; rfl
theorem plist_on {l : List Int} (h : plOk l = true) : plist l = l.foldl pair 5 := by unfold plist; rw [h]; rfl
theorem wordOk_text {l : List UInt8} (h : wordOk l = true) : textOk l = true := by
  simp only [wordOk, Bool.and_eq_true, decide_eq_true_eq] at h
  simp only [textOk, Bool.and_eq_true, decide_eq_true_eq]
  refine ⟨by omega, ?_⟩
  rw [List.all_eq_true]
  intro c hc
  have := List.all_eq_true.1 h.2 c hc
  simp only [wordCh, Bool.or_eq_true, isSm, isDig] at this
  rcases this with h' | h'
  · have := inB_yes h'; exact inB_iff.2 ⟨by omega, by omega⟩
  · have := inB_yes h'; exact inB_iff.2 ⟨by omega, by omega⟩

/-! ### Versions and seals -/
structure Ver where
  root : Int
  before : Int
  note : ByteArray
def vOk (v : Ver) (i : Int) : Bool := pv v.root && inB v.before (-1) (i - 1) && wordOk (bs v.note)
def vsFrom : Int → List Ver → Bool
  | _, [] => true
  | i, v :: r => vOk v i && vsFrom (i + 1) r
def vsOk (l : List Ver) : Bool := decide (l.length ≤ 12) && vsFrom 0 l
theorem vsFrom_succ : ∀ (l : List Ver) (i : Int) (k : Nat) (x : Ver), l[k]? = some x → vsFrom i (l.take (k + 1)) = (vsFrom i (l.take k) && vOk x (i + k))
  | [], i, k, x, h => by simp at h
  | v :: r, i, 0, x, h => by
    simp at h; subst h
    simp [vsFrom]
  | v :: r, i, k + 1, x, h => by
    have := vsFrom_succ r (i + 1) k x (by simpa using h)
    simp only [List.take_succ_cons, vsFrom]
    rw [this, Bool.and_assoc, show i + 1 + (k : Int) = i + ((k + 1 : Nat) : Int) by omega]
theorem vsFrom_get : ∀ (l : List Ver) (i : Int) (k : Nat) (x : Ver), l[k]? = some x → vsFrom i l = true → vOk x (i + k) = true
  | [], i, k, x, h, _ => by simp at h
  | v :: r, i, 0, x, h, h' => by
    simp at h; subst h
    simp only [vsFrom, Bool.and_eq_true] at h'
    simpa using h'.1
  | v :: r, i, k + 1, x, h, h' => by
    simp only [vsFrom, Bool.and_eq_true] at h'
    have := vsFrom_get r (i + 1) k x (by simpa using h) h'.2
    rwa [show i + 1 + (k : Int) = i + ((k + 1 : Nat) : Int) by omega] at this
theorem vs_no {l : List Ver} {k : Nat} {x : Ver} (h : l[k]? = some x) (hv : vOk x k = false) : vsOk l = false := by
  cases hh : vsFrom 0 l
  · simp [vsOk, hh]
  · have := vsFrom_get l 0 k x h hh
    rw [show (0 : Int) + k = k by omega, hv] at this
    cases this
theorem vs_long {l : List Ver} (h : 12 < l.length) : vsOk l = false := by simp [vsOk]; omega

def sealOk (s : Int) (v : Ver) : Bool := pv s && pv v.root && inB v.before (-1) 12 && wordOk (bs v.note)
def sealNext (s : Int) (v : Ver) : Int := if sealOk s v then plist [s, v.root, v.before + 1, printOf (bs v.note)] else -1
theorem seal_off {s : Int} {v : Ver} (h : sealOk s v = false) : sealNext s v = -1 := by unfold sealNext; rw [h]; rfl
theorem seal_parts {s : Int} {v : Ver} (h : sealOk s v = true) : pv s = true ∧ pv v.root = true ∧ pv (v.before + 1) = true ∧ pv (printOf (bs v.note)) = true := by
  simp only [sealOk, Bool.and_eq_true] at h
  have := inB_yes h.1.2
  exact ⟨h.1.1.1, h.1.1.2, inB_iff.2 ⟨by omega, by omega⟩, printOf_in (wordOk_text h.2)⟩
theorem seal_on {s : Int} {v : Ver} (h : sealOk s v = true) : sealNext s v = pair (pair (pair (pair 5 s) v.root) (v.before + 1)) (printOf (bs v.note)) := by
  obtain ⟨h1, h2, h3, h4⟩ := seal_parts h
  unfold sealNext
  rw [if_pos h, plist_on (by simp [plOk, h1, h2, h3, h4])]
  rfl
theorem seal_in {s : Int} {v : Ver} (h : sealOk s v = true) : pv (sealNext s v) = true := by
  obtain ⟨h1, h2, h3, h4⟩ := seal_parts h
  rw [seal_on h]
  exact pair_in (pair_in (pair_in (pair_in (by decide) h1) h2) h3) h4
theorem seal_root {s r : Int} {v : Ver} (h : sealOk s v = true) (h' : pv r = true) (hr : r ≠ v.root) : sealNext s { v with root := r } ≠ sealNext s v := by
  have hk : sealOk s { v with root := r } = true := by
    simp only [sealOk, Bool.and_eq_true] at h ⊢
    exact ⟨⟨⟨h.1.1.1, h'⟩, h.1.2⟩, h.2⟩
  obtain ⟨h1, h2, h3, h4⟩ := seal_parts h
  rw [seal_on h, seal_on hk]
  intro e
  have p5 : pv 5 = true := by decide
  have e1 := pair_inj1 h4 (pair_in (pair_in (pair_in p5 h1) h') h3) (pair_in (pair_in (pair_in p5 h1) h2) h3) e
  have e2 := pair_inj1 h3 (pair_in (pair_in p5 h1) h') (pair_in (pair_in p5 h1) h2) e1
  exact hr (pair_inj2 (pair_in p5 h1) h' h2 e2)
theorem seal_seal {s s' : Int} {v : Ver} (h : sealOk s v = true) (h' : pv s' = true) (hs : s' ≠ s) : sealNext s' v ≠ sealNext s v := by
  have hk : sealOk s' v = true := by
    simp only [sealOk, Bool.and_eq_true] at h ⊢
    exact ⟨⟨⟨h', h.1.1.2⟩, h.1.2⟩, h.2⟩
  obtain ⟨h1, h2, h3, h4⟩ := seal_parts h
  rw [seal_on h, seal_on hk]
  intro e
  have p5 : pv 5 = true := by decide
  have e1 := pair_inj1 h4 (pair_in (pair_in (pair_in p5 h') h2) h3) (pair_in (pair_in (pair_in p5 h1) h2) h3) e
  have e2 := pair_inj1 h3 (pair_in (pair_in p5 h') h2) (pair_in (pair_in p5 h1) h2) e1
  have e3 := pair_inj1 h2 (pair_in p5 h') (pair_in p5 h1) e2
  exact hs (pair_inj2 p5 h' h1 e3)

def sealFold (s : Int) (l : List Ver) : Int := l.foldl sealNext s
def sealsFrom : Int → List Ver → List Int
  | _, [] => []
  | s, v :: r => sealNext s v :: sealsFrom (sealNext s v) r
def sealsOf (l : List Ver) : List Int := if vsOk l then sealsFrom 11 l else []
theorem seals_off {l : List Ver} (h : vsOk l = false) : sealsOf l = [] := by unfold sealsOf; rw [h]; rfl
theorem seals_on {l : List Ver} (h : vsOk l = true) : sealsOf l = sealsFrom 11 l := by unfold sealsOf; rw [h]; rfl
theorem sealsFrom_len : ∀ (s : Int) (l : List Ver), (sealsFrom s l).length = l.length
  | s, [] => rfl
  | s, v :: r => by simp [sealsFrom, sealsFrom_len _ r]
theorem sealsFrom_succ : ∀ (s : Int) (l : List Ver) (k : Nat) (x : Ver), l[k]? = some x → sealsFrom s (l.take (k + 1)) = sealsFrom s (l.take k) ++ [sealNext (sealFold s (l.take k)) x]
  | s, [], k, x, h => by simp at h
  | s, v :: r, 0, x, h => by
    simp at h; subst h
    rfl
  | s, v :: r, k + 1, x, h => by
    have := sealsFrom_succ (sealNext s v) r k x (by simpa using h)
    simp only [List.take_succ_cons, sealsFrom]
    rw [this]
    rfl
theorem sealFold_succ {s : Int} {l : List Ver} {k : Nat} {x : Ver} (h : l[k]? = some x) : sealFold s (l.take (k + 1)) = sealNext (sealFold s (l.take k)) x := foldl_succ _ _ h
/-- Valid versions' seals are prints. -/
theorem vOk_seal {s : Int} {v : Ver} {i : Int} (hs : pv s = true) (hi : i ≤ 12) (h : vOk v i = true) : sealOk s v = true := by
  simp only [vOk, sealOk, Bool.and_eq_true] at h ⊢
  have := inB_yes h.1.2
  exact ⟨⟨⟨hs, h.1.1⟩, inB_iff.2 ⟨by omega, by omega⟩⟩, h.2⟩
theorem sealFold_in : ∀ (l : List Ver) (s i : Int), pv s = true → vsFrom i l = true → i + l.length ≤ 12 → pv (sealFold s l) = true
  | [], s, i, h, _, _ => h
  | v :: r, s, i, h, hv, hl => by
    simp only [vsFrom, Bool.and_eq_true] at hv
    simp only [List.length_cons] at hl
    exact sealFold_in r _ (i + 1) (seal_in (vOk_seal h (by omega) hv.1)) hv.2 (by omega)

/-- The first number at which two lists part; -1 for none. -/
def partAt (k : Nat) : List Int → List Int → Int
  | [], _ => -1
  | _ :: _, [] => k
  | x :: r, y :: t => if x = y then partAt (k + 1) r t else k
theorem partAt_no : ∀ (r t : List Int) (j : Nat), r.length ≤ t.length → (∀ k, k < r.length → r[k]? = t[k]?) → partAt j r t = -1
  | [], _, _, _, _ => rfl
  | _ :: _, [], _, h, _ => by simp at h
  | x :: r, y :: t, j, h, he => by
    have h0 := he 0 (by simp)
    simp at h0
    simp only [partAt, h0, if_true]
    exact partAt_no r t (j + 1) (by simpa using h) (fun k hk => by simpa using he (k + 1) (by simp; omega))
theorem partAt_yes : ∀ (r t : List Int) (j k : Nat) (x : Int), r[k]? = some x → t[k]? ≠ some x → (∀ i, i < k → r[i]? = t[i]?) → partAt j r t = j + k
  | [], t, j, k, x, h, _, _ => by simp at h
  | y :: r, [], j, k, x, h, hn, he => by
    cases k with
    | zero => simp [partAt]
    | succ k => have := he 0 (by omega); simp at this
  | y :: r, z :: t, j, 0, x, h, hn, he => by
    simp at h hn
    subst h
    simp only [partAt]
    rw [if_neg (fun e => hn e.symm)]
    simp
  | y :: r, z :: t, j, k + 1, x, h, hn, he => by
    have h0 := he 0 (by omega)
    simp at h0
    simp only [partAt, h0, if_true]
    rw [partAt_yes r t (j + 1) k x (by simpa using h) (by simpa using hn) (fun i hi => by simpa using he (i + 1) (by omega))]
    omega
def sealsRight (l : List Ver) (s : List Int) : Int := if vsOk l && decide (s.length ≤ l.length) then partAt 0 (sealsOf l) s else -2

end Go.Proofs.YtfdhaigmekmboaaDoor

/- Plain facts on caches of prints. No program in sight. -/
namespace Go.Proofs.YtfdhaigmekmboaaDoor
open Go.RowKit

def hasI (l : List Int) (n : Int) : Bool := decide (n ∈ l)
theorem hasI_iff {l : List Int} {n : Int} : hasI l n = true ↔ n ∈ l := by simp [hasI]
theorem hasI_no {l : List Int} {n : Int} : hasI l n = false ↔ n ∉ l := by simp [hasI]
theorem hasI_get {l : List Int} {n : Int} {k : Nat} (h : l[k]? = some n) : hasI l n = true := hasI_iff.2 (List.mem_of_getElem? h)
theorem hasI_succ {l : List Int} {n x : Int} {k : Nat} (h : l[k]? = some x) (hx : x ≠ n) (hn : hasI (l.take k) n = false) : hasI (l.take (k + 1)) n = false := by
  rw [hasI_no] at hn ⊢
  rw [take_snoc' h, List.mem_append, List.mem_singleton]
  rintro (h' | h')
  · exact hn h'
  · exact hx h'.symm

/-- All different. -/
def nodupI : List Int → Bool
  | [] => true
  | x :: r => !hasI r x && nodupI r
theorem nodupI_iff : ∀ l : List Int, nodupI l = true ↔ l.Nodup
  | [] => by simp [nodupI]
  | x :: r => by simp [nodupI, nodupI_iff r, hasI]
theorem nodupI_succ {l : List Int} {x : Int} {k : Nat} (h : l[k]? = some x) : nodupI (l.take (k + 1)) = (nodupI (l.take k) && !hasI (l.take k) x) := by
  rw [Bool.eq_iff_iff, Bool.and_eq_true, nodupI_iff, nodupI_iff, take_snoc' h]
  simp [List.nodup_append, hasI]
  intro _
  constructor
  · intro h1 h2; exact h1 x h2 rfl
  · intro h1 a ha he; exact h1 (he ▸ ha)
theorem nodupI_no {l : List Int} {x : Int} {k : Nat} (h : l[k]? = some x) (hh : hasI (l.take k) x = true) : nodupI l = false := by
  cases hn : nodupI l
  · rfl
  · exfalso
    have h1 := (nodupI_iff l).1 hn
    rw [← List.take_append_drop k l] at h1
    have h2 := (List.nodup_append.1 h1).2.2 x (hasI_iff.1 hh) x (by
      have := List.drop_eq_getElem_cons (l := l) (i := k) (List.getElem?_eq_some_iff.1 h).1
      rw [this, (List.getElem?_eq_some_iff.1 h).2]
      simp)
    exact h2 rfl

/-- A valid cache: so many prints at most, all different. -/
def keepOk (l : List Int) : Bool := l.all pv && nodupI l
def cacheOk (m : Int) (l : List Int) : Bool := inB m 1 8 && decide ((l.length : Int) ≤ m) && keepOk l
theorem keepOk_succ {l : List Int} {x : Int} {k : Nat} (h : l[k]? = some x) (hk : keepOk (l.take k) = true) (hp : pv x = true) (hh : hasI (l.take k) x = false) : keepOk (l.take (k + 1)) = true := by
  unfold keepOk at *
  rw [all_succ pv h, nodupI_succ h, hh, hp]
  simpa using hk
theorem keepOk_no1 {l : List Int} {x : Int} {k : Nat} (h : l[k]? = some x) (hp : pv x = false) : keepOk l = false := by simp [keepOk, all_no pv h hp]
theorem keepOk_no2 {l : List Int} {x : Int} {k : Nat} (h : l[k]? = some x) (hh : hasI (l.take k) x = true) : keepOk l = false := by simp [keepOk, nodupI_no h hh]
theorem cacheOk_no {m : Int} {l : List Int} (h : keepOk l = false) : cacheOk m l = false := by simp [cacheOk, h]
theorem cacheOk_in {m : Int} {l : List Int} (h : cacheOk m l = true) : 1 ≤ m ∧ m ≤ 8 ∧ (l.length : Int) ≤ m ∧ l.all pv = true ∧ l.Nodup := by
  simp only [cacheOk, keepOk, Bool.and_eq_true, decide_eq_true_eq] at h
  have := inB_yes h.1.1
  exact ⟨this.1, this.2, h.1.2, h.2.1, (nodupI_iff l).1 h.2.2⟩
theorem cacheOk_of {m : Int} {l : List Int} (h1 : 1 ≤ m) (h2 : m ≤ 8) (h3 : (l.length : Int) ≤ m) (h4 : l.all pv = true) (h5 : l.Nodup) : cacheOk m l = true := by
  simp only [cacheOk, keepOk, Bool.and_eq_true, decide_eq_true_eq]
  exact ⟨⟨inB_iff.2 ⟨h1, h2⟩, h3⟩, h4, (nodupI_iff l).2 h5⟩

def others (p : Int) (l : List Int) : List Int := l.filter (· != p)
/-- What is kept behind a use. -/
def usedKeep (m : Int) (l : List Int) (p : Int) : List Int := (p :: others p l).take m.toNat
def useOk (m : Int) (l : List Int) (p : Int) : Bool := cacheOk m l && pv p
def useMost (m : Int) (l : List Int) (p : Int) : Int := if useOk m l p then m else 0
def useKeep (m : Int) (l : List Int) (p : Int) : List Int := if useOk m l p then usedKeep m l p else []
def useHit (m : Int) (l : List Int) (p : Int) : Bool := useOk m l p && hasI l p
theorem use_off {m p : Int} {l : List Int} (h : useOk m l p = false) : useMost m l p = 0 ∧ useKeep m l p = [] ∧ useHit m l p = false := by simp [useMost, useKeep, useHit, h]
theorem use_on {m p : Int} {l : List Int} (h : useOk m l p = true) : useMost m l p = m ∧ useKeep m l p = usedKeep m l p ∧ useHit m l p = hasI l p := by simp [useMost, useKeep, useHit, h]
theorem use_off1 {m p : Int} {l : List Int} (h : cacheOk m l = false) : useOk m l p = false := by simp [useOk, h]
theorem use_off2 {m p : Int} {l : List Int} (h : pv p = false) : useOk m l p = false := by simp [useOk, h]
theorem use_on_in {m p : Int} {l : List Int} (h : useOk m l p = true) : cacheOk m l = true ∧ pv p = true := by simpa [useOk] using h

theorem others_succ_eq {p x : Int} {l : List Int} {k : Nat} (h : l[k]? = some x) (hx : x = p) : others p (l.take (k + 1)) = others p (l.take k) := by
  unfold others; rw [filter_succ _ h]; simp [hx]
theorem others_succ_ne {p x : Int} {l : List Int} {k : Nat} (h : l[k]? = some x) (hx : x ≠ p) : others p (l.take (k + 1)) = others p (l.take k) ++ [x] := by
  unfold others; rw [filter_succ _ h]; simp [hx]
theorem used_zero {m p : Int} (h : 1 ≤ m) (l : List Int) : usedKeep m (l.take 0) p = [p] := by
  unfold usedKeep others
  obtain ⟨n, hn⟩ : ∃ n, m.toNat = n + 1 := ⟨m.toNat - 1, by omega⟩
  rw [hn]; simp
theorem used_succ_eq {m p x : Int} {l : List Int} {k : Nat} (h : l[k]? = some x) (hx : x = p) : usedKeep m (l.take (k + 1)) p = usedKeep m (l.take k) p := by
  unfold usedKeep; rw [others_succ_eq h hx]
theorem used_succ_lt {m p x : Int} {l : List Int} {k : Nat} (h : l[k]? = some x) (hx : x ≠ p) (hl : ((usedKeep m (l.take k) p).length : Int) < m) : usedKeep m (l.take (k + 1)) p = usedKeep m (l.take k) p ++ [x] := by
  unfold usedKeep at *
  rw [others_succ_ne h hx]
  rw [List.length_take] at hl
  rw [← List.cons_append, List.take_append, List.take_of_length_le (by omega)]
  rw [List.take_of_length_le (show [x].length ≤ _ by simp only [List.length_singleton]; omega)]
theorem used_succ_full {m p x : Int} {l : List Int} {k : Nat} (h : l[k]? = some x) (hx : x ≠ p) (hl : ¬ ((usedKeep m (l.take k) p).length : Int) < m) : usedKeep m (l.take (k + 1)) p = usedKeep m (l.take k) p := by
  unfold usedKeep at *
  rw [others_succ_ne h hx]
  rw [List.length_take] at hl
  rw [← List.cons_append, List.take_append, show m.toNat - (p :: others p (l.take k)).length = 0 by omega]
  simp
theorem used_len {m p : Int} {l : List Int} : (usedKeep m l p).length ≤ m.toNat := by unfold usedKeep; rw [List.length_take]; omega
theorem used_len' {m p : Int} {l : List Int} : (usedKeep m l p).length ≤ l.length + 1 := by
  unfold usedKeep others
  have := List.length_filter_le (· != p) l
  rw [List.length_take]; simp; omega

theorem used_ok {m p : Int} {l : List Int} (h : useOk m l p = true) : cacheOk m (usedKeep m l p) = true := by
  obtain ⟨h1, h2⟩ := use_on_in h
  obtain ⟨c1, c2, c3, c4, c5⟩ := cacheOk_in h1
  refine cacheOk_of c1 c2 (by have := used_len (m := m) (p := p) (l := l); omega) ?_ ?_
  · rw [List.all_eq_true] at c4 ⊢
    intro x hx
    rcases List.mem_cons.1 (List.mem_of_mem_take hx) with rfl | hx
    · exact h2
    · exact c4 x (List.mem_filter.1 hx).1
  · refine List.Nodup.sublist (List.take_sublist _ _) (List.nodup_cons.2 ⟨?_, c5.sublist List.filter_sublist⟩)
    intro hp
    have := (List.mem_filter.1 hp).2
    simp at this
theorem used_first {m p : Int} {l : List Int} (h : 1 ≤ m) : ∃ r, usedKeep m l p = p :: r := by
  unfold usedKeep
  obtain ⟨n, hn⟩ : ∃ n, m.toNat = n + 1 := ⟨m.toNat - 1, by omega⟩
  rw [hn]; exact ⟨_, rfl⟩
theorem others_none {p : Int} {l : List Int} (h : p ∉ l) : others p l = l := by
  unfold others
  rw [List.filter_eq_self]
  intro x hx
  simp only [bne_iff_ne, ne_eq]
  rintro rfl
  exact h hx
theorem used_again {m p : Int} {l : List Int} (h : 1 ≤ m) : usedKeep m (usedKeep m l p) p = usedKeep m l p := by
  obtain ⟨n, hn⟩ : ∃ n, m.toNat = n + 1 := ⟨m.toNat - 1, by omega⟩
  unfold usedKeep
  rw [hn]
  have h1 : others p (p :: (others p l).take n) = (others p l).take n := by
    rw [show others p (p :: (others p l).take n) = others p ((others p l).take n) by simp [others]]
    refine others_none fun hp => ?_
    have := (List.mem_filter.1 (List.mem_of_mem_take hp)).2
    simp at this
  rw [List.take_succ_cons, List.take_succ_cons, h1, List.take_take, Nat.min_self]
theorem use_again {m p : Int} {l : List Int} (h : useOk m l p = true) : useOk m (usedKeep m l p) p = true ∧ useKeep m (usedKeep m l p) p = usedKeep m l p ∧ useHit m (usedKeep m l p) p = true := by
  have h1 : useOk m (usedKeep m l p) p = true := by
    have := (use_on_in h).2
    simp [useOk, used_ok h, this]
  have hm := (cacheOk_in (use_on_in h).1).1
  obtain ⟨r, hr⟩ := used_first (m := m) (p := p) (l := l) hm
  refine ⟨h1, ?_, ?_⟩
  · rw [(use_on h1).2.1]; exact used_again hm
  · rw [(use_on h1).2.2, hr]; simp [hasI]

/-! ### Many uses -/
def runStep (m : Int) (s : List Int × Nat) (p : Int) : List Int × Nat := (usedKeep m s.1 p, s.2 + if hasI s.1 p then 1 else 0)
def runs (m : Int) (ps : List Int) : List Int × Nat := ps.foldl (runStep m) ([], 0)
def runOk (m : Int) (ps : List Int) : Bool := inB m 1 8 && decide (ps.length ≤ 40) && ps.all pv
def runCache (m : Int) (ps : List Int) : Int := if runOk m ps then (runs m ps).2 else -1
theorem run_off {m : Int} {ps : List Int} (h : runOk m ps = false) : runCache m ps = -1 := by simp [runCache, h]
theorem run_on {m : Int} {ps : List Int} (h : runOk m ps = true) : runCache m ps = (runs m ps).2 := by simp [runCache, h]
theorem runs_succ {m p : Int} {ps : List Int} {k : Nat} (h : ps[k]? = some p) : runs m (ps.take (k + 1)) = runStep m (runs m (ps.take k)) p := foldl_succ _ _ h
theorem runs_snoc {m p : Int} {ps : List Int} : runs m (ps ++ [p]) = runStep m (runs m ps) p := by unfold runs; rw [List.foldl_append]; rfl
theorem list_rev {α : Type} {P : List α → Prop} (h0 : P []) (h1 : ∀ l x, P l → P (l ++ [x])) (l : List α) : P l := by
  have : ∀ l : List α, P l.reverse := by
    intro l
    induction l with
    | nil => exact h0
    | cons x r ih => rw [List.reverse_cons]; exact h1 _ _ ih
  simpa using this l.reverse
theorem runs_ok {m : Int} (hm : 1 ≤ m) (hm' : m ≤ 8) (ps : List Int) : ps.all pv = true → cacheOk m (runs m ps).1 = true ∧ (runs m ps).2 ≤ ps.length := by
  refine list_rev (P := fun ps => ps.all pv = true → cacheOk m (runs m ps).1 = true ∧ (runs m ps).2 ≤ ps.length) ?_ ?_ ps
  · intro _
    exact ⟨cacheOk_of hm hm' (by simp [runs]; omega) rfl (by simp [runs]), Nat.zero_le _⟩
  · intro l x ih h
    rw [List.all_append] at h
    simp only [Bool.and_eq_true, List.all_cons, List.all_nil, and_true] at h
    obtain ⟨i1, i2⟩ := ih h.1
    rw [runs_snoc]
    refine ⟨used_ok (by simp [useOk, i1, h.2]), ?_⟩
    simp only [runStep, List.length_append, List.length_singleton]
    split <;> omega

/-- All prints that were used, the last one first. -/
def recent (ps : List Int) : List Int := ps.foldl (fun l p => p :: others p l) []
theorem recent_snoc (ps : List Int) (p : Int) : recent (ps ++ [p]) = p :: others p (recent ps) := by unfold recent; rw [List.foldl_append]; rfl
theorem recent_nodup (ps : List Int) : (recent ps).Nodup := by
  refine list_rev (P := fun ps => (recent ps).Nodup) (by simp [recent]) ?_ ps
  intro l x ih
  rw [recent_snoc]
  refine List.nodup_cons.2 ⟨fun hp => ?_, ih.sublist List.filter_sublist⟩
  have := (List.mem_filter.1 hp).2
  simp at this
theorem others_take (p : Int) : ∀ (l : List Int) (n : Nat), l.Nodup → (others p (l.take (n + 1))).take n = (others p l).take n
  | [], n, _ => by simp [others]
  | x :: t, n, h => by
    have ht := (List.nodup_cons.1 h).2
    by_cases hx : x = p
    · subst hx
      have hp := (List.nodup_cons.1 h).1
      rw [List.take_succ_cons]
      rw [show others x (x :: t.take n) = others x (t.take n) by simp [others], show others x (x :: t) = others x t by simp [others]]
      rw [others_none hp, others_none (fun hh => hp (List.mem_of_mem_take hh)), List.take_take, Nat.min_self]
    · rw [List.take_succ_cons, show others p (x :: t.take n) = x :: others p (t.take n) by simp [others, hx], show others p (x :: t) = x :: others p t by simp [others, hx]]
      cases n with
      | zero => simp
      | succ n => rw [List.take_succ_cons, List.take_succ_cons, others_take p t n ht]
theorem runs_keep {m : Int} (hm : 1 ≤ m) (ps : List Int) : (runs m ps).1 = (recent ps).take m.toNat := by
  refine list_rev (P := fun ps => (runs m ps).1 = (recent ps).take m.toNat) (by simp [runs, recent]) ?_ ps
  intro l x ih
  rw [runs_snoc, recent_snoc]
  obtain ⟨n, hn⟩ : ∃ n, m.toNat = n + 1 := ⟨m.toNat - 1, by omega⟩
  simp only [runStep, usedKeep]
  rw [ih, hn, List.take_succ_cons, List.take_succ_cons, others_take x _ n (recent_nodup l)]
theorem runs_more {m : Int} (hm : 1 ≤ m) (ps : List Int) : (runs m ps).2 ≤ (runs (m + 1) ps).2 := by
  refine list_rev (P := fun ps => (runs m ps).2 ≤ (runs (m + 1) ps).2) (by simp [runs]) ?_ ps
  intro l x ih
  rw [runs_snoc, runs_snoc]
  simp only [runStep]
  rw [runs_keep hm, runs_keep (show 1 ≤ m + 1 by omega)]
  have : hasI ((recent l).take m.toNat) x = true → hasI ((recent l).take (m + 1).toNat) x = true := by
    rw [hasI_iff, hasI_iff]
    intro h
    have : (recent l).take m.toNat = ((recent l).take (m + 1).toNat).take m.toNat := by rw [List.take_take, Nat.min_eq_left (by omega)]
    rw [this] at h
    exact List.mem_of_mem_take h
  by_cases h : hasI ((recent l).take m.toNat) x = true
  · rw [if_pos h, if_pos (this h)]; omega
  · rw [if_neg h]; omega
theorem run_more {m : Int} {ps : List Int} (h : ¬ runCache m ps < 0) (hm : m ≠ 8) : runCache m ps ≤ runCache (m + 1) ps := by
  cases hk : runOk m ps
  · rw [run_off hk] at h; omega
  · have hk' : runOk (m + 1) ps = true := by
      simp only [runOk, Bool.and_eq_true] at hk ⊢
      have := inB_yes hk.1.1
      exact ⟨⟨inB_iff.2 ⟨by omega, by omega⟩, hk.1.2⟩, hk.2⟩
    have h1 : 1 ≤ m := by
      simp only [runOk, Bool.and_eq_true] at hk
      exact (inB_yes hk.1.1).1
    rw [run_on hk, run_on hk']
    have := runs_more h1 ps
    omega
theorem run_le {m : Int} {ps : List Int} : runCache m ps ≤ ps.length := by
  cases hk : runOk m ps
  · rw [run_off hk]; omega
  · rw [run_on hk]
    simp only [runOk, Bool.and_eq_true] at hk
    have := (runs_ok (inB_yes hk.1.1).1 (inB_yes hk.1.1).2 ps hk.2).2
    omega
theorem run_neg {m : Int} {ps : List Int} (h : runCache m ps < 0) : runCache m ps = -1 := by
  cases hk : runOk m ps
  · exact run_off hk
  · rw [run_on hk] at h; omega

end Go.Proofs.YtfdhaigmekmboaaDoor

/- Plain facts on stores of pieces. No program in sight. -/
namespace Go.Proofs.YtfdhaigmekmboaaDoor
open Go.RowKit

structure Pc where
  print : Int
  text : ByteArray
def pcOk (p : Pc) : Bool := textOk (bs p.text) && decide (p.print = printOf (bs p.text))
def stFrom : Int → List Pc → Bool
  | _, [] => true
  | i, p :: r => pcOk p && decide (i < p.print) && stFrom p.print r
def storeOk (l : List Pc) : Bool := decide (l.length ≤ 40) && stFrom (-1) l
/-- The print ahead of number k; -1 for none. -/
def lastAt (i : Int) (l : List Pc) : Nat → Int
  | 0 => i
  | k + 1 => match l[k]? with | some p => p.print | none => i
theorem lastAt_zero (i : Int) (l : List Pc) : lastAt i l 0 = i := rfl
theorem lastAt_succ {i : Int} {l : List Pc} {k : Nat} {x : Pc} (h : l[k]? = some x) : lastAt i l (k + 1) = x.print := by simp [lastAt, h]
theorem stFrom_succ : ∀ (l : List Pc) (i : Int) (k : Nat) (x : Pc), l[k]? = some x → stFrom i (l.take (k + 1)) = (stFrom i (l.take k) && (pcOk x && decide (lastAt i l k < x.print)))
  | [], i, k, x, h => by simp at h
  | p :: r, i, 0, x, h => by
    simp at h; subst h
    rw [Bool.eq_iff_iff]
    simp [stFrom, lastAt]
    exact fun _ => ⟨fun h => decide_eq_true h, of_decide_eq_true⟩
  | p :: r, i, 1, x, h => by
    have := stFrom_succ r p.print 0 x (by simpa using h)
    simp only [List.take_succ_cons, stFrom]
    rw [this, Bool.eq_iff_iff]
    simp [stFrom, lastAt, and_assoc]
    exact fun _ _ _ => ⟨of_decide_eq_true, fun h => decide_eq_true h⟩
  | p :: r, i, k + 2, x, h => by
    have hg : r[k + 1]? = some x := by simpa using h
    have := stFrom_succ r p.print (k + 1) x hg
    have hk : k < r.length := by have := (List.getElem?_eq_some_iff.1 hg).1; omega
    simp only [List.take_succ_cons, stFrom] at this ⊢
    rw [this, Bool.eq_iff_iff]
    simp [lastAt, List.getElem?_eq_getElem hk, and_assoc]
theorem stFrom_get : ∀ (l : List Pc) (i : Int) (k : Nat) (x : Pc), l[k]? = some x → stFrom i l = true → pcOk x = true ∧ lastAt i l k < x.print
  | [], i, k, x, h, _ => by simp at h
  | p :: r, i, 0, x, h, h' => by
    simp at h; subst h
    simp only [stFrom, Bool.and_eq_true, decide_eq_true_eq] at h'
    exact h'.1
  | p :: r, i, 1, x, h, h' => by
    simp only [stFrom, Bool.and_eq_true, decide_eq_true_eq] at h'
    have := stFrom_get r p.print 0 x (by simpa using h) h'.2
    simpa [lastAt] using this
  | p :: r, i, k + 2, x, h, h' => by
    simp only [stFrom, Bool.and_eq_true, decide_eq_true_eq] at h'
    have hg : r[k + 1]? = some x := by simpa using h
    have := stFrom_get r p.print (k + 1) x hg h'.2
    have hk : k < r.length := by have := (List.getElem?_eq_some_iff.1 hg).1; omega
    simpa [lastAt, List.getElem?_eq_getElem hk] using this
theorem st_no {l : List Pc} {k : Nat} {x : Pc} (h : l[k]? = some x) (hv : (pcOk x && decide (lastAt (-1) l k < x.print)) = false) : storeOk l = false := by
  cases hh : stFrom (-1) l
  · simp [storeOk, hh]
  · have := stFrom_get l (-1) k x h hh
    simp [this.1, this.2] at hv
theorem st_long {l : List Pc} (h : 40 < l.length) : storeOk l = false := by simp [storeOk]; omega
theorem st_in {l : List Pc} (h : storeOk l = true) : l.length ≤ 40 ∧ stFrom (-1) l = true := by simpa [storeOk] using h
theorem pcOk_iff {p : Pc} : pcOk p = true ↔ textOk (bs p.text) = true ∧ p.print = printOf (bs p.text) := by simp [pcOk]
theorem pcOk_pv {p : Pc} (h : pcOk p = true) : 0 ≤ p.print ∧ p.print ≤ 16777212 := by
  obtain ⟨h1, h2⟩ := pcOk_iff.1 h
  have := printOf_in h1
  rw [← h2] at this
  exact pv_iff.1 this
theorem stFrom_all : ∀ {l : List Pc} {i : Int}, stFrom i l = true → ∀ x ∈ l, pcOk x = true ∧ i < x.print
  | [], _, _, _, h => by simp at h
  | p :: r, i, h, x, hx => by
    simp only [stFrom, Bool.and_eq_true, decide_eq_true_eq] at h
    rcases List.mem_cons.1 hx with rfl | hx
    · exact h.1
    · have := stFrom_all h.2 x hx
      exact ⟨this.1, by omega⟩
theorem st_all {l : List Pc} (h : storeOk l = true) {x : Pc} (hx : x ∈ l) : pcOk x = true := (stFrom_all (st_in h).2 x hx).1
theorem stFrom_asc : ∀ {l : List Pc} {i : Int}, stFrom i l = true → l.Pairwise (fun a b => a.print < b.print)
  | [], _, _ => List.Pairwise.nil
  | p :: r, i, h => by
    simp only [stFrom, Bool.and_eq_true, decide_eq_true_eq] at h
    exact List.Pairwise.cons (fun x hx => (stFrom_all h.2 x hx).2) (stFrom_asc h.2)
theorem stFrom_of : ∀ {l : List Pc} {i : Int}, (∀ x ∈ l, pcOk x = true ∧ i < x.print) → l.Pairwise (fun a b => a.print < b.print) → stFrom i l = true
  | [], _, _, _ => rfl
  | p :: r, i, h, h' => by
    obtain ⟨h1, h2⟩ := List.pairwise_cons.1 h'
    simp only [stFrom, Bool.and_eq_true, decide_eq_true_eq]
    exact ⟨h p (by simp), stFrom_of (fun x hx => ⟨(h x (by simp [hx])).1, h1 x hx⟩) h2⟩
theorem st_asc {l : List Pc} (h : storeOk l = true) : l.Pairwise (fun a b => a.print < b.print) := stFrom_asc (st_in h).2
theorem st_iff {l : List Pc} : storeOk l = true ↔ l.length ≤ 40 ∧ (∀ x ∈ l, pcOk x = true) ∧ l.Pairwise (fun a b => a.print < b.print) := by
  constructor
  · intro h; exact ⟨(st_in h).1, fun x hx => st_all h hx, st_asc h⟩
  · rintro ⟨h1, h2, h3⟩
    have := stFrom_of (i := -1) (fun x hx => ⟨h2 x hx, by have := pcOk_pv (h2 x hx); omega⟩) h3
    simp [storeOk, this, h1]
theorem textOk_size {t : ByteArray} (h : textOk (bs t) = true) : t.size ≤ 60 := by
  simp only [textOk, Bool.and_eq_true, decide_eq_true_eq] at h
  simpa using h.1
theorem st_text {l : List Pc} (h : storeOk l = true) {x : Pc} (hx : x ∈ l) : x.text.size ≤ 60 := textOk_size (pcOk_iff.1 (st_all h hx)).1
theorem asc_get {l : List Pc} (h : l.Pairwise (fun a b => a.print < b.print)) {i j : Nat} {x y : Pc} (hi : l[i]? = some x) (hj : l[j]? = some y) (hij : i < j) : x.print < y.print := by
  obtain ⟨h1, e1⟩ := List.getElem?_eq_some_iff.1 hi
  obtain ⟨h2, e2⟩ := List.getElem?_eq_some_iff.1 hj
  rw [← e1, ← e2]
  exact List.pairwise_iff_getElem.1 h i j h1 h2 hij

/-- The text with a print. -/
def getP (l : List Pc) (n : Int) : Option ByteArray := (l.find? (fun p => p.print = n)).map (·.text)
def hasP (l : List Pc) (n : Int) : Bool := (getP l n).isSome
theorem getP_at {l : List Pc} {k : Nat} {x : Pc} (h : l[k]? = some x) (ha : ∀ j y, j < k → l[j]? = some y → y.print ≠ x.print) : getP l x.print = some x.text := by
  unfold getP
  have : l.find? (fun p => p.print = x.print) = some x := by
    rw [List.find?_eq_some_iff_getElem]
    obtain ⟨h1, e1⟩ := List.getElem?_eq_some_iff.1 h
    refine ⟨by simp, k, h1, e1, fun j hj => ?_⟩
    have := ha j (l[j]'(by omega)) hj (List.getElem?_eq_getElem _)
    simpa using this
  rw [this]; rfl
theorem getP_none {l : List Pc} {n : Int} (h : ∀ x ∈ l, x.print ≠ n) : getP l n = none := by
  unfold getP
  rw [List.find?_eq_none.2 (fun x hx => by simpa using h x hx)]
  rfl
theorem getP_ex {l : List Pc} {n : Int} {t : ByteArray} (h : getP l n = some t) : ∃ (k : Nat) (x : Pc), l[k]? = some x ∧ x.print = n ∧ x.text = t := by
  unfold getP at h
  obtain ⟨x, hx, rfl⟩ := Option.map_eq_some_iff.1 h
  obtain ⟨h1, k, h2, h3, _⟩ := List.find?_eq_some_iff_getElem.1 hx
  exact ⟨k, x, by rw [List.getElem?_eq_getElem h2, h3], by simpa using h1, rfl⟩
theorem getP_text {l : List Pc} {n : Int} {t : ByteArray} (h : storeOk l = true) (hg : getP l n = some t) : textOk (bs t) = true ∧ printOf (bs t) = n ∧ t.size ≤ 60 := by
  obtain ⟨k, x, h1, rfl, rfl⟩ := getP_ex hg
  have hp := pcOk_iff.1 (st_all h (List.mem_of_getElem? h1))
  exact ⟨hp.1, hp.2.symm, textOk_size hp.1⟩
theorem hasP_iff {l : List Pc} {n : Int} : hasP l n = true ↔ ∃ x ∈ l, x.print = n := by
  constructor
  · intro h
    unfold hasP at h
    obtain ⟨t, ht⟩ := Option.isSome_iff_exists.1 h
    obtain ⟨k, x, h1, h2, _⟩ := getP_ex ht
    exact ⟨x, List.mem_of_getElem? h1, h2⟩
  · rintro ⟨x, hx, rfl⟩
    cases hh : getP l x.print
    · exfalso
      unfold getP at hh
      simp only [Option.map_eq_none_iff] at hh
      have := List.find?_eq_none.1 hh x hx
      simp at this
    · unfold hasP; rw [hh]; rfl

/-- The place of a print in an ascending row: so many have a smaller print. -/
def findAt (l : List Pc) (n : Int) : Nat := (l.takeWhile (fun p => decide (p.print < n))).length
theorem takeWhile_len {α : Type} (p : α → Bool) : ∀ (l : List α) (k : Nat), k ≤ l.length → (∀ j x, j < k → l[j]? = some x → p x = true) → (∀ x, l[k]? = some x → p x = false) → (l.takeWhile p).length = k
  | [], k, hk, _, _ => by simp at hk; simp [hk]
  | x :: r, 0, _, _, h => by
    have := h x (by simp)
    simp [this]
  | x :: r, k + 1, hk, h1, h2 => by
    have := h1 0 x (by omega) (by simp)
    rw [List.takeWhile_cons, this]
    simp only [if_true, List.length_cons]
    rw [takeWhile_len p r k (by simpa using hk) (fun j y hj hy => h1 (j + 1) y (by omega) (by simpa using hy)) (fun y hy => h2 y (by simpa using hy))]
theorem findAt_eq {l : List Pc} {n : Int} {k : Nat} (hk : k ≤ l.length) (h1 : ∀ j x, j < k → l[j]? = some x → x.print < n) (h2 : ∀ x, l[k]? = some x → n ≤ x.print) : findAt l n = k := by
  unfold findAt
  refine takeWhile_len _ l k hk (fun j x hj hx => by simpa using h1 j x hj hx) (fun x hx => ?_)
  have := h2 x hx
  simp; omega
theorem findAt_le (l : List Pc) (n : Int) : findAt l n ≤ l.length := by
  unfold findAt
  have := (List.takeWhile_prefix (l := l) (fun p => decide (p.print < n))).length_le
  exact this
theorem find_has {l : List Pc} {n : Int} {x : Pc} (ha : l.Pairwise (fun a b => a.print < b.print)) (h : l[findAt l n]? = some x) (hn : x.print = n) : getP l n = some x.text := by
  subst hn
  refine getP_at h (fun j y hj hy he => ?_)
  have := asc_get ha hy h hj
  omega
theorem findAt_below {l : List Pc} {n : Int} {j : Nat} {x : Pc} (hj : j < findAt l n) (h : l[j]? = some x) : x.print < n := by
  unfold findAt at hj
  obtain ⟨h1, e1⟩ := List.getElem?_eq_some_iff.1 h
  have hm : (l.takeWhile (fun p => decide (p.print < n)))[j]? = some x := by
    have hp := List.takeWhile_prefix (l := l) (fun p => decide (p.print < n))
    obtain ⟨t, ht⟩ := hp
    have : ((l.takeWhile (fun p => decide (p.print < n))) ++ t)[j]? = some x := by rw [ht]; exact h
    rwa [List.getElem?_append_left hj] at this
  have := List.mem_of_getElem? hm
  have hall := List.all_takeWhile (p := fun p : Pc => decide (p.print < n)) (l := l)
  have := List.all_eq_true.1 hall x this
  simpa using this
theorem findAt_at {l : List Pc} {n : Int} {x : Pc} (h : l[findAt l n]? = some x) : n ≤ x.print := by
  have : ∀ (l : List Pc), l[findAt l n]? = some x → ¬ x.print < n := by
    intro l
    induction l with
    | nil => intro h; simp at h
    | cons p r ih =>
      intro h
      unfold findAt at h
      rw [List.takeWhile_cons] at h
      by_cases hp : p.print < n
      · rw [if_pos (by simpa using hp)] at h
        exact ih (by simpa [findAt] using h)
      · rw [if_neg (by simpa using hp)] at h
        simp at h; subst h; exact hp
  have := this l h
  omega
theorem find_no {l : List Pc} {n : Int} (ha : l.Pairwise (fun a b => a.print < b.print)) (h : ∀ x, l[findAt l n]? = some x → x.print ≠ n) : getP l n = none := by
  refine getP_none (fun x hx he => ?_)
  obtain ⟨j, hj, e⟩ := List.getElem_of_mem hx
  have hg : l[j]? = some x := by rw [List.getElem?_eq_getElem hj, e]
  rcases Nat.lt_trichotomy j (findAt l n) with hlt | heq | hgt
  · have := findAt_below hlt hg; omega
  · exact h x (heq ▸ hg) he
  · obtain ⟨y, hy⟩ : ∃ y, l[findAt l n]? = some y := ⟨l[findAt l n]'(by omega), List.getElem?_eq_getElem _⟩
    have h1 := findAt_at hy
    have h2 := asc_get ha hy hg hgt
    omega

/-! ### Prints that are wanted, texts to send -/
def wantStep (l : List Pc) (out : List Int) (n : Int) : List Int := if hasP l n || hasI out n then out else out ++ [n]
def wantFrom (l : List Pc) (ns : List Int) : List Int := ns.foldl (wantStep l) []
def wantedOf (l : List Pc) (ns : List Int) : List Int := if storeOk l then wantFrom l ns else []
theorem wantFrom_succ {l : List Pc} {ns : List Int} {k : Nat} {x : Int} (h : ns[k]? = some x) : wantFrom l (ns.take (k + 1)) = wantStep l (wantFrom l (ns.take k)) x := foldl_succ _ _ h
theorem wantFrom_len (l : List Pc) : ∀ (ns : List Int) (out : List Int), (ns.foldl (wantStep l) out).length ≤ out.length + ns.length
  | [], out => by simp
  | n :: r, out => by
    rw [List.foldl_cons]
    have := wantFrom_len l r (wantStep l out n)
    have h2 : (wantStep l out n).length ≤ out.length + 1 := by unfold wantStep; split <;> simp
    simp only [List.length_cons]; omega
def sendStep (l : List Pc) (out : List ByteArray) (n : Int) : List ByteArray := match getP l n with | some t => out ++ [t] | none => out
def sendFrom (l : List Pc) (ns : List Int) : List ByteArray := ns.foldl (sendStep l) []
def sendTexts (l : List Pc) (ns : List Int) : List ByteArray := if storeOk l then sendFrom l ns else []
theorem sendFrom_succ {l : List Pc} {ns : List Int} {k : Nat} {x : Int} (h : ns[k]? = some x) : sendFrom l (ns.take (k + 1)) = sendStep l (sendFrom l (ns.take k)) x := foldl_succ _ _ h
theorem sendFrom_len (l : List Pc) : ∀ (ns : List Int) (out : List ByteArray), (ns.foldl (sendStep l) out).length ≤ out.length + ns.length
  | [], out => by simp
  | n :: r, out => by
    rw [List.foldl_cons]
    have := sendFrom_len l r (sendStep l out n)
    have h2 : (sendStep l out n).length ≤ out.length + 1 := by unfold sendStep; split <;> simp
    simp only [List.length_cons]; omega

end Go.Proofs.YtfdhaigmekmboaaDoor

/- Plain facts on folders: digits in the base 16, entries, their texts, and what reads them. No program in sight. -/
namespace Go.Proofs.YtfdhaigmekmboaaDoor
open Go.RowKit

def hexD (d : Nat) : UInt8 := UInt8.ofNat (if d < 10 then 48 + d else 87 + d)
def hexF : Nat → Nat → List UInt8
  | 0, _ => []
  | f + 1, n => if n < 16 then [hexD n] else hexF f (n / 16) ++ [hexD (n % 16)]
def hexT (n : Int) : List UInt8 := if pv n then hexF 6 n.toNat else []
def hexV (c : UInt8) : Option Nat := if 48 ≤ c.toNat ∧ c.toNat ≤ 57 then some (c.toNat - 48) else if 97 ≤ c.toNat ∧ c.toNat ≤ 102 then some (c.toNat - 87) else none
def hexR : Nat → List UInt8 → Option Nat
  | n, [] => some n
  | n, c :: r => match hexV c with | some d => hexR (16 * n + d) r | none => none
def readHex (l : List UInt8) : Int :=
  if 1 ≤ l.length ∧ l.length ≤ 6 then (match hexR 0 l with | some n => if hexT n = l then (n : Int) else -1 | none => -1) else -1
theorem hexD_val {d : Nat} (h : d < 16) : (hexD d).toNat = (if d < 10 then 48 + d else 87 + d) := by
  unfold hexD
  rw [UInt8.toNat_ofNat']
  split <;> omega
theorem hexV_D {d : Nat} (h : d < 16) : hexV (hexD d) = some d := by
  unfold hexV
  rw [hexD_val h]
  by_cases h1 : d < 10
  · rw [if_pos h1, if_pos (by omega)]; congr 1; omega
  · rw [if_neg h1, if_neg (by omega), if_pos (by omega)]; congr 1; omega
theorem hexV_lt {c : UInt8} {d : Nat} (h : hexV c = some d) : d < 16 := by
  unfold hexV at h
  split at h
  · simp at h; omega
  · split at h
    · simp at h; omega
    · simp at h
theorem hexR_append : ∀ (l : List UInt8) (m : Nat) (c : UInt8) (n d : Nat), hexR m l = some n → hexV c = some d → hexR m (l ++ [c]) = some (16 * n + d)
  | [], m, c, n, d, h, h' => by
    simp [hexR] at h; subst h
    simp [hexR, h']
  | x :: r, m, c, n, d, h, h' => by
    simp only [List.cons_append, hexR] at h ⊢
    cases hx : hexV x with
    | none => rw [hx] at h; simp at h
    | some y => rw [hx] at h; exact hexR_append r _ c n d h h'
theorem hexR_F : ∀ (f n : Nat), n < 16 ^ f → 0 < f → hexR 0 (hexF f n) = some n
  | 0, _, _, h => absurd h (by omega)
  | f + 1, n, h, _ => by
    rw [hexF]
    by_cases hn : n < 16
    · rw [if_pos hn]
      simp [hexR, hexV_D hn]
    · rw [if_neg hn]
      have hf : 0 < f := by
        rcases Nat.eq_zero_or_pos f with h0 | h0
        · subst h0; simp at h; omega
        · exact h0
      rw [hexR_append _ _ _ _ _ (hexR_F f (n / 16) (by rw [Nat.pow_succ] at h; omega) hf) (hexV_D (Nat.mod_lt _ (by omega)))]
      congr 1; omega
theorem hexF_len : ∀ (f n : Nat), (hexF f n).length ≤ f
  | 0, _ => by simp [hexF]
  | f + 1, n => by
    rw [hexF]
    split
    · simp
    · have := hexF_len f (n / 16); simp; omega
theorem hexF_pos (f n : Nat) : 1 ≤ (hexF (f + 1) n).length := by
  rw [hexF]
  split <;> simp
theorem hexF_ch : ∀ (f n : Nat), ∀ c ∈ hexF f n, (hexV c).isSome = true
  | 0, _ => by simp [hexF]
  | f + 1, n => by
    intro c hc
    rw [hexF] at hc
    split at hc
    · simp at hc; subst hc; rw [hexV_D (by assumption)]; rfl
    · rcases List.mem_append.1 hc with h | h
      · exact hexF_ch f _ c h
      · simp at h; subst h; rw [hexV_D (Nat.mod_lt _ (by omega))]; rfl
theorem hexT_on {n : Int} (h : pv n = true) : hexT n = hexF 6 n.toNat := by unfold hexT; rw [if_pos h]
theorem hexT_off {n : Int} (h : pv n = false) : hexT n = [] := by unfold hexT; rw [h]; rfl
theorem hexT_len (n : Int) : (hexT n).length ≤ 6 := by
  unfold hexT
  split
  · exact hexF_len _ _
  · simp
theorem hexT_ch {n : Int} {c : UInt8} (h : c ∈ hexT n) : (hexV c).isSome = true := by
  unfold hexT at h
  split at h
  · exact hexF_ch _ _ c h
  · simp at h
theorem hexR_T {n : Int} (h : pv n = true) : hexR 0 (hexT n) = some n.toNat := by
  rw [hexT_on h]
  have := pv_iff.1 h
  exact hexR_F 6 _ (by omega) (by omega)
theorem readHex_T {n : Int} (h : pv n = true) : readHex (hexT n) = n := by
  unfold readHex
  have h1 : 1 ≤ (hexT n).length := by rw [hexT_on h]; exact hexF_pos 5 _
  have h2 := pv_iff.1 h
  have h3 : ((n.toNat : Nat) : Int) = n := by omega
  rw [if_pos ⟨h1, hexT_len n⟩, hexR_T h]
  simp only [h3, if_true]
theorem readHex_in {l : List UInt8} : readHex l = -1 ∨ (pv (readHex l) = true ∧ hexT (readHex l) = l) := by
  unfold readHex
  split
  · rename_i hl
    split
    · split
      · rename_i h
        right
        refine ⟨?_, h⟩
        cases hp : pv (_ : Int)
        · rw [hexT_off hp] at h; subst h; simp at hl
        · rfl
      · exact .inl rfl
    · exact .inl rfl
  · exact .inl rfl
theorem hexT_inj {a b : Int} (ha : pv a = true) (hb : pv b = true) (h : hexT a = hexT b) : a = b := by
  rw [← readHex_T ha, h, readHex_T hb]

/-! ### Entries -/
structure Ent where
  name : ByteArray
  print : Int
def entOk (e : Ent) : Bool := wordOk (bs e.name) && pv e.print
def ltN (a b : ByteArray) : Bool := Go.Op.bytesLess (bs a) (bs b)
/-- Valid and ascending behind a name. -/
def entsFrom : Option ByteArray → List Ent → Bool
  | _, [] => true
  | p, e :: r => entOk e && (match p with | some b => ltN b e.name | none => true) && entsFrom (some e.name) r
def entsOk (l : List Ent) : Bool := decide (l.length ≤ 3) && entsFrom none l
def entText (e : Ent) : List UInt8 := bs e.name ++ 61 :: (hexT e.print ++ [59])
def entsText (l : List Ent) : List UInt8 := l.flatMap entText
def folderText (l : List Ent) : List UInt8 := if entsOk l then 100 :: entsText l else []
theorem folder_on {l : List Ent} (h : entsOk l = true) : folderText l = 100 :: entsText l := by unfold folderText; rw [if_pos h]
theorem folder_off {l : List Ent} (h : entsOk l = false) : folderText l = [] := by unfold folderText; rw [h]; rfl
theorem entsFrom_all : ∀ {l : List Ent} {p : Option ByteArray}, entsFrom p l = true → ∀ e ∈ l, entOk e = true
  | [], _, _, _, h => by simp at h
  | x :: r, p, h, e, he => by
    simp only [entsFrom, Bool.and_eq_true] at h
    rcases List.mem_cons.1 he with rfl | he
    · exact h.1.1
    · exact entsFrom_all h.2 e he
theorem ents_in {l : List Ent} (h : entsOk l = true) : l.length ≤ 3 ∧ entsFrom none l = true := by simpa [entsOk] using h
theorem ents_all {l : List Ent} (h : entsOk l = true) {e : Ent} (he : e ∈ l) : entOk e = true := entsFrom_all (ents_in h).2 e he
theorem entOk_iff {e : Ent} : entOk e = true ↔ wordOk (bs e.name) = true ∧ pv e.print = true := by simp [entOk]
theorem wordOk_ch {l : List UInt8} (h : wordOk l = true) {c : UInt8} (hc : c ∈ l) : c ≠ 61 ∧ c ≠ 59 := by
  simp only [wordOk, Bool.and_eq_true, decide_eq_true_eq] at h
  have := List.all_eq_true.1 h.2 c hc
  simp only [wordCh, Bool.or_eq_true, isSm, isDig] at this
  constructor <;> rintro rfl <;> revert this <;> decide
theorem hex_ch {n : Int} {c : UInt8} (hc : c ∈ hexT n) : c ≠ 61 ∧ c ≠ 59 := by
  have := hexT_ch hc
  constructor <;> rintro rfl <;> revert this <;> decide
theorem cut_at : ∀ (a a' : List UInt8) (x : UInt8) (r r' : List UInt8), x ∉ a → x ∉ a' → a ++ x :: r = a' ++ x :: r' → a = a' ∧ r = r'
  | [], [], x, r, r', _, _, h => by simpa using h
  | [], y :: t, x, r, r', _, h2, h => by simp at h; exact absurd h.1 (by intro e; subst e; simp at h2)
  | y :: t, [], x, r, r', h1, _, h => by simp at h; exact absurd h.1.symm (by intro e; subst e; simp at h1)
  | y :: t, z :: u, x, r, r', h1, h2, h => by
    simp only [List.cons_append, List.cons.injEq] at h
    have := cut_at t u x r r' (by simp at h1; exact h1.2) (by simp at h2; exact h2.2) h.2
    exact ⟨by rw [h.1, this.1], this.2⟩
theorem entText_cut {e : Ent} (h : entOk e = true) : 61 ∉ bs e.name ∧ 59 ∉ hexT e.print := by
  obtain ⟨h1, h2⟩ := entOk_iff.1 h
  exact ⟨fun hc => (wordOk_ch h1 hc).1 rfl, fun hc => (hex_ch hc).2 rfl⟩
theorem bs_inj {a b : ByteArray} (h : bs a = bs b) : a = b := by
  cases a with | mk a => cases b with | mk b =>
  simp only [bs] at h
  rw [show a = b from Array.ext' h]
theorem ents_inj : ∀ (l l' : List Ent), (∀ e ∈ l, entOk e = true) → (∀ e ∈ l', entOk e = true) → entsText l = entsText l' → l = l'
  | [], [], _, _, _ => rfl
  | [], e :: r, _, _, h => by simp [entsText, entText] at h
  | e :: r, [], _, _, h => by simp [entsText, entText] at h
  | e :: r, e' :: r', h1, h2, h => by
    have k1 := entText_cut (h1 e (by simp))
    have k2 := entText_cut (h2 e' (by simp))
    simp only [entsText, List.flatMap_cons, entText, List.append_assoc, List.cons_append, List.nil_append] at h
    obtain ⟨e1, h⟩ := cut_at _ _ _ _ _ k1.1 k2.1 h
    obtain ⟨e2, h⟩ := cut_at _ _ _ _ _ k1.2 k2.2 h
    have e3 := hexT_inj (entOk_iff.1 (h1 e (by simp))).2 (entOk_iff.1 (h2 e' (by simp))).2 e2
    have e4 := bs_inj e1
    have := ents_inj r r' (fun x hx => h1 x (by simp [hx])) (fun x hx => h2 x (by simp [hx])) h
    obtain ⟨n, p⟩ := e
    obtain ⟨n', p'⟩ := e'
    simp only at e3 e4
    rw [e3, e4, this]

/-- The entries whose text a text is. -/
noncomputable def readFolder (l : List UInt8) : Option (List Ent) :=
  open Classical in if h : ∃ es, entsOk es = true ∧ folderText es = l then some h.choose else none
theorem readFolder_yes {es : List Ent} {l : List UInt8} (h : entsOk es = true) (hl : folderText es = l) : readFolder l = some es := by
  unfold readFolder
  have hex : ∃ es, entsOk es = true ∧ folderText es = l := ⟨es, h, hl⟩
  rw [dif_pos hex]
  obtain ⟨h1, h2⟩ := hex.choose_spec
  rw [folder_on h1] at h2
  rw [folder_on h, ← h2] at hl
  simp only [List.cons.injEq, true_and] at hl
  rw [ents_inj _ _ (fun e he => ents_all h1 he) (fun e he => ents_all h he) hl.symm]
theorem readFolder_no {l : List UInt8} (h : ∀ es, entsOk es = true → folderText es = l → False) : readFolder l = none := by
  unfold readFolder
  rw [dif_neg (fun ⟨es, h1, h2⟩ => h es h1 h2)]
theorem readFolder_some {es : List Ent} {l : List UInt8} (h : readFolder l = some es) : entsOk es = true ∧ folderText es = l := by
  unfold readFolder at h
  split at h
  · rename_i hex
    have := Option.some.inj h
    subst this
    exact hex.choose_spec
  · simp at h
/-- The entries, or none. -/
noncomputable def entsOf (l : List UInt8) : List Ent := (readFolder l).getD []

end Go.Proofs.YtfdhaigmekmboaaDoor
