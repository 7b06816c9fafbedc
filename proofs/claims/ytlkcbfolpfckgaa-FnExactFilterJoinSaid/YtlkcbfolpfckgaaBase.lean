/- Plain words for memory, used by every walk of this seat: what a slice value reads as, and what keeps it. No program in sight. -/
import Derived.WalkKit
import Derived.WalkSpells
import Derived.WalkLawsBesides
import Derived.Deep.Draws
namespace Go.Proofs.Ytlkcbfolpfckgaa
open Go.RowKit

/-- From offset o of block b on stand the cells cs. -/
def At (w : World) (b o : Nat) (cs : List Value) : Prop := ∀ j v, cs[j]? = some v → w.cell? ⟨b, o + j, none⟩ = some v

/-- The slice value v has n elements of k cells each, which read as cs and lie below block B. -/
def Sl (w : World) (B k : Nat) (v : Value) (n : Nat) (cs : List Value) : Prop :=
  ∃ a c, v = .slice a n c ∧ n ≤ c ∧ c ≤ maxLen ∧ cs.length = n * k ∧ (0 < n → ∃ b o, a = some ⟨b, o, none⟩ ∧ b < B ∧ At w b o cs)

theorem At.below {w w' : World} {B b o : Nat} {cs : List Value} (h : At w b o cs) (hb : Below B w w') (hB : b < B) : At w' b o cs :=
  fun j v hj => (hb.cell (p := ⟨b, o + j, none⟩) hB).trans (h j v hj)

theorem Sl.below {w w' : World} {B B' k n : Nat} {v : Value} {cs : List Value} (h : Sl w B k v n cs) (hb : Below B' w w') (hB : B ≤ B') : Sl w' B k v n cs := by
  obtain ⟨a, c, rfl, h1, h2, h3, h4⟩ := h
  refine ⟨a, c, rfl, h1, h2, h3, fun hn => ?_⟩
  obtain ⟨b, o, rfl, hlt, hat⟩ := h4 hn
  exact ⟨b, o, rfl, hlt, hat.below hb (Nat.lt_of_lt_of_le hlt hB)⟩

theorem Sl.more {w : World} {B B' k n : Nat} {v : Value} {cs : List Value} (h : Sl w B k v n cs) (hB : B ≤ B') : Sl w B' k v n cs := by
  obtain ⟨a, c, rfl, h1, h2, h3, h4⟩ := h
  refine ⟨a, c, rfl, h1, h2, h3, fun hn => ?_⟩
  obtain ⟨b, o, rfl, hlt, hat⟩ := h4 hn
  exact ⟨b, o, rfl, Nat.lt_of_lt_of_le hlt hB, hat⟩

theorem Sl.grown {w w' : World} {B k n : Nat} {v : Value} {cs : List Value} {row : Option Nat} (h : Sl w B k v n cs) (hg : w.grownBy w' row) (hB : B ≤ w.heap.size) (hr : ∀ g, row = some g → B ≤ g) : Sl w' B k v n cs :=
  h.below (B' := B) ((Below.refl B w).grown hg hB hr) (Nat.le_refl _)

theorem Sl.nil (w : World) (B k c : Nat) (a : Option Addr) (hc : c ≤ maxLen) : Sl w B k (.slice a 0 c) 0 [] := ⟨a, c, rfl, Nat.zero_le _, hc, by simp, fun h => absurd h (by omega)⟩

theorem Sl.of_own {w : World} {base e k n : Nat} {v : Value} {cs : List Value} (h : w.ownsRow base e k v n cs) : Sl w w.heap.size k v n cs := by
  rcases h.2 with ⟨rfl, rfl⟩ | ⟨g, cap, cur, rfl, hb, hg, hnc, hcm, hcs, ht⟩
  · exact ⟨none, 0, rfl, Nat.le_refl _, by unfold maxLen; omega, by simpa using h.1, fun h => absurd h (by omega)⟩
  · refine ⟨some ⟨g, 0, none⟩, cap, rfl, hnc, hcm, h.1, fun _ => ⟨g, 0, rfl, (Array.getElem?_eq_some_iff.1 hg).1, fun j v hj => ?_⟩⟩
    have := h.cells (g := g) (by simp [Value.ownBlock]) j v hj
    have hadd : (⟨g, 0, none⟩ : Addr).add j = ⟨g, j, none⟩ := by unfold Addr.add; split <;> simp_all
    rw [hadd] at this
    simpa using this

end Go.Proofs.Ytlkcbfolpfckgaa
