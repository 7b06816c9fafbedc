/- Plain words for memory, used by every walk of this seat: what a slice value reads as, and what keeps it. No program in sight. -/
import Derived.WalkKit
import Derived.WalkSpells
import Derived.WalkLawsBesides
import Derived.Deep.Draws
namespace Go.Proofs.Ytlkcbfolpfckgaa
open Go.RowKit

/-- From offset o of block b on stand the cells cs. -/
def At (w : World) (b o : Nat) (cs : List Value) : Prop := ∀ j v, cs[j]? = some v → w.cell? ⟨b, o + j, none⟩ = some v

/-- The slice value v has n elements of k cells each, which read as cs and lie below block B. -/
def Sl (w : World) (B k : Nat) (v : Value) (n : Nat) (cs : List Value) : Prop :=
  ∃ a c, v = .slice a n c ∧ n ≤ c ∧ c ≤ maxLen ∧ cs.length = n * k ∧ (0 < n → ∃ b o, a = some ⟨b, o, none⟩ ∧ b < B ∧ At w b o cs)

theorem At.below {w w' : World} {B b o : Nat} {cs : List Value} (h : At w b o cs) (hb : Below B w w') (hB : b < B) : At w' b o cs :=
  fun j v hj => (hb.cell (p := ⟨b, o + j, none⟩) hB).trans (h j v hj)

theorem Sl.below {w w' : World} {B B' k n : Nat} {v : Value} {cs : List Value} (h : Sl w B k v n cs) (hb : Below B' w w') (hB : B ≤ B') : Sl w' B k v n cs := by
  obtain ⟨a, c, rfl, h1, h2, h3, h4⟩ := h
  refine ⟨a, c, rfl, h1, h2, h3, fun hn => ?_⟩
  obtain ⟨b, o, rfl, hlt, hat⟩ := h4 hn
  exact ⟨b, o, rfl, hlt, hat.below hb (Nat.lt_of_lt_of_le hlt hB)⟩

theorem Sl.more {w : World} {B B' k n : Nat} {v : Value} {cs : List Value} (h : Sl w B k v n cs) (hB : B ≤ B') : Sl w B' k v n cs := by
  obtain ⟨a, c, rfl, h1, h2, h3, h4⟩ := h
  refine ⟨a, c, rfl, h1, h2, h3, fun hn => ?_⟩
  obtain ⟨b, o, rfl, hlt, hat⟩ := h4 hn
  exact ⟨b, o, rfl, Nat.lt_of_lt_of_le hlt hB, hat⟩

theorem Sl.grown {w w' : World} {B k n : Nat} {v : Value} {cs : List Value} {row : Option Nat} (h : Sl w B k v n cs) (hg : w.grownBy w' row) (hB : B ≤ w.heap.size) (hr : ∀ g, row = some g → B ≤ g) : Sl w' B k v n cs :=
  h.below (B' := B) ((Below.refl B w).grown hg hB hr) (Nat.le_refl _)

theorem Sl.nil (w : World) (B k c : Nat) (a : Option Addr) (hc : c ≤ maxLen) : Sl w B k (.slice a 0 c) 0 [] := ⟨a, c, rfl, Nat.zero_le _, hc, by simp, fun h => absurd h (by omega)⟩

theorem Sl.of_own {w : World} {base e k n : Nat} {v : Value} {cs : List Value} (h : w.ownsRow base e k v n cs) : Sl w w.heap.size k v n cs := by
  rcases h.2 with ⟨rfl, rfl⟩ | ⟨g, cap, cur, rfl, hb, hg, hnc, hcm, hcs, ht⟩
  · exact ⟨none, 0, rfl, Nat.le_refl _, by unfold maxLen; omega, by simpa using h.1, fun h => absurd h (by omega)⟩
  · refine ⟨some ⟨g, 0, none⟩, cap, rfl, hnc, hcm, h.1, fun _ => ⟨g, 0, rfl, (Array.getElem?_eq_some_iff.1 hg).1, fun j v hj => ?_⟩⟩
    have := h.cells (g := g) (by simp [Value.ownBlock]) j v hj
    have hadd : (⟨g, 0, none⟩ : Addr).add j = ⟨g, j, none⟩ := by unfold Addr.add; split <;> simp_all
    rw [hadd] at this
    simpa using this

/-- v reads as the numbers xs. -/
def Ints (w : World) (B : Nat) (v : Value) (xs : List Int) : Prop := Sl w B 1 v xs.length (xs.map (Value.int .i64))

theorem Ints.open_ {w : World} {B : Nat} {v : Value} {xs : List Int} (h : Ints w B v xs) :
    ∃ a c, v = .slice a xs.length c ∧ xs.length ≤ c ∧ c ≤ 9223372036854775807 ∧
      ∀ k (hk : k < xs.length), ∃ b o, a = some ⟨b, o, none⟩ ∧ b < B ∧ w.cell? ⟨b, o + k, none⟩ = some (.int .i64 xs[k]) := by
  obtain ⟨a, c, rfl, h1, h2, h3, h4⟩ := h
  refine ⟨a, c, rfl, h1, by simpa [maxLen] using h2, fun k hk => ?_⟩
  obtain ⟨b, o, rfl, hb, hat⟩ := h4 (by omega)
  exact ⟨b, o, rfl, hb, hat k _ (by simp [hk])⟩

/-- The same, the length and each element under names of their own. -/
theorem Ints.openN {w : World} {B n : Nat} {v : Value} {xs : List Int} (h : Ints w B v xs) (hn : xs.length = n) :
    ∃ a c, v = .slice a n c ∧ n ≤ c ∧ c ≤ 9223372036854775807 ∧
      ∀ k, k < n → ∃ b o x, a = some ⟨b, o, none⟩ ∧ b < B ∧ Hid (xs[k]? = some x) ∧ w.cell? ⟨b, o + k, none⟩ = some (.int .i64 x) := by
  subst hn
  obtain ⟨a, c, rfl, h1, h2, h3⟩ := h.open_
  refine ⟨a, c, rfl, h1, h2, fun k hk => ?_⟩
  obtain ⟨b, o, e, hb, hc⟩ := h3 k hk
  exact ⟨b, o, xs[k], e, hb, List.getElem?_eq_getElem hk, hc⟩

theorem hid {p : Prop} (h : p) : Hid p := h
theorem ret_b {x y : Bool} (h : x = y) : Ending.returned (.bool x) = .returned (.bool y) := by rw [h]
theorem ret_i {k : IntKind} {x y : Int} (h : x = y) : Ending.returned (.int k x) = .returned (.int k y) := by rw [h]

theorem take_snoc {α : Type} (xs : List α) (k : Nat) (h : k < xs.length) : xs.take (k + 1) = xs.take k ++ [xs[k]] := by
  rw [List.take_succ_eq_append_getElem h]
theorem all_take_succ {α : Type} (p : α → Bool) (xs : List α) (k : Nat) (h : k < xs.length) : (xs.take (k + 1)).all p = ((xs.take k).all p && p xs[k]) := by
  rw [take_snoc xs k h, List.all_append]; simp only [List.all_cons, List.all_nil, Bool.and_true]
theorem any_take_succ {α : Type} (p : α → Bool) (xs : List α) (k : Nat) (h : k < xs.length) : (xs.take (k + 1)).any p = ((xs.take k).any p || p xs[k]) := by
  rw [take_snoc xs k h, List.any_append]; simp only [List.any_cons, List.any_nil, Bool.or_false]
theorem foldl_take_succ {α β : Type} (f : β → α → β) (b : β) (xs : List α) (k : Nat) (h : k < xs.length) : (xs.take (k + 1)).foldl f b = f ((xs.take k).foldl f b) xs[k] := by
  rw [take_snoc xs k h, List.foldl_append]; rfl
theorem filter_take_succ {α : Type} (p : α → Bool) (xs : List α) (k : Nat) (h : k < xs.length) : (xs.take (k + 1)).filter p = (xs.take k).filter p ++ (if p xs[k] then [xs[k]] else []) := by
  rw [take_snoc xs k h, List.filter_append]; cases hp : p xs[k] <;> simp [hp]
theorem all_false_of {α : Type} (p : α → Bool) (xs : List α) (k : Nat) (h : k < xs.length) (hp : p xs[k] = false) : xs.all p = false := by
  rw [List.all_eq_false]; exact ⟨xs[k], List.getElem_mem _, by simp [hp]⟩

/-- Two lists that agree up to k, and what follows. -/
theorem eq_of_take {α : Type} {xs ys : List α} {n k : Nat} (hx : xs.length = n) (hy : ys.length = n) (hk : n ≤ k) (h : xs.take k = ys.take k) : xs = ys := by
  rwa [List.take_of_length_le (by omega), List.take_of_length_le (by omega)] at h
theorem take_eq_succ {α : Type} {xs ys : List α} {k : Nat} {x : α} (h : xs.take k = ys.take k) (hx : xs[k]? = some x) (hy : ys[k]? = some x) : xs.take (k + 1) = ys.take (k + 1) := by
  rw [List.take_add_one, List.take_add_one, h, hx, hy]
theorem ne_of_get {α : Type} {xs ys : List α} {k : Nat} {x y : α} (hx : xs[k]? = some x) (hy : ys[k]? = some y) (h : x ≠ y) : xs ≠ ys := by
  rintro rfl
  rw [hx] at hy
  exact h (Option.some.inj hy)

theorem Ints.of_own {w : World} {base e : Nat} {v : Value} {xs : List Int} (h : w.ownsRow base e 1 v xs.length (xs.map (Value.int .i64))) : Ints w w.heap.size v xs := Sl.of_own h
theorem Ints.on {w w' : World} {v : Value} {xs : List Int} (h : Ints w w.heap.size v xs) (hb : Below w.heap.size w w') : Ints w' w'.heap.size v xs := (Sl.below h hb (Nat.le_refl _)).more hb.size
theorem bl_drewN {B : Nat} {a w : World} (h : Below B a w) (n : Nat) : Below B a (w.drewN n) := ⟨h.os, h.tape, h.output, h.size, h.block⟩
/-- What a callee leaves alone is left alone since an earlier world, too. -/
theorem bl_then {w w1 w2 : World} (h : Below w.heap.size w w1) (h' : Below w1.heap.size w1 w2) : Below w.heap.size w w2 := h.trans (h'.mono h.size)

theorem grown_drewN (w : World) (n : Nat) : Grown w (w.drewN n) := ⟨⟨rfl, rfl, (World.keptBut_refl w (fun _ => False)).2.2⟩, fun _ => rfl, Nat.le_refl _⟩

/-- What a row's step tells of a slice of integers that came in. -/
def IsRow (k : IntKind) (w : World) (a : Option Addr) (len cap : Nat) (zs : List Int) : Prop :=
  (a = none ∧ len = 0 ∧ cap = 0 ∧ zs = []) ∨
  ∃ x, a = some x ∧ len ≤ cap ∧ cap ≤ maxLen ∧ zs.length = cap ∧ (∀ i, i < zs.length → w.cell? (x.add i) = some (.int k (zs.getD i 0))) ∧ ∀ n ∈ zs, (Lit.int k n).wf = true

theorem Sl.of_row {k : IntKind} {w : World} {a : Option Addr} {len cap : Nat} {zs : List Int} (h : IsRow k w a len cap zs) :
    (zs.take len).length = len ∧ Sl w w.heap.size 1 (.slice a len cap) len ((zs.take len).map (Value.int k)) := by
  rcases h with ⟨rfl, rfl, rfl, rfl⟩ | ⟨x, rfl, hl, hm, hz, hc, hw⟩
  · exact ⟨rfl, Sl.nil _ _ _ _ _ (Nat.zero_le _)⟩
  · refine ⟨by simp; omega, some x, cap, rfl, hl, hm, by simp; omega, fun hn => ?_⟩
    obtain ⟨b, o, s⟩ := x
    have h0 := hc 0 (by omega)
    have hs : s = none := by
      cases s with
      | none => rfl
      | some q => exfalso; revert h0; simp only [Addr.add, if_true, World.cell?]; split <;> simp
    subst hs
    refine ⟨b, o, rfl, ?_, fun j v hj => ?_⟩
    · have := World.block_lt_of_cell? w _ h0
      simpa [Addr.add] using this
    · rw [List.getElem?_map, List.getElem?_take] at hj
      by_cases hjl : j < len
      · rw [if_pos hjl] at hj
        have h1 := hc j (by omega)
        have ha : (⟨b, o, none⟩ : Addr).add j = ⟨b, o + j, none⟩ := by unfold Addr.add; split <;> simp_all
        rw [ha] at h1
        rw [h1]
        rw [← hj]
        rw [List.getElem?_eq_getElem (by omega)]
        simp [List.getD_eq_getElem?_getD, List.getElem?_eq_getElem (show j < zs.length by omega)]
      · rw [if_neg hjl] at hj
        cases hj

theorem Ints.of_row {w : World} {a : Option Addr} {len cap : Nat} {zs : List Int} (h : IsRow .i64 w a len cap zs) : Ints w w.heap.size (.slice a len cap) (zs.take len) := by
  obtain ⟨h1, h2⟩ := Sl.of_row h
  unfold Ints
  rw [h1]
  exact h2

end Go.Proofs.Ytlkcbfolpfckgaa
