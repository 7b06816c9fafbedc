/- Walks and plain facts, joined: Flds. -/
import Derived.Test.YtachfmlfmpaddaaGreatDoorMg14
import Derived.Test.YtachfmlfmpaddaaGreatDoorMg28
set_option linter.unusedVariables false
set_option linter.unusedSimpArgs false

/- Rows of folders: slices of slices of entries. No program in sight but its types. -/
namespace Go.Proofs.YtachfmlfmpaddaaGreatDoor
open Go.RowKit

abbrev encV (v : Value) : List Value := [v]
abbrev OwnV := Own encV 67 1
theorem info_ents : (Tryz.prog.info? 67).map (fun i => (i.zero, i.size, i.bytes)) = some (some (.slice none 0 0), 1, 24) := by kernel_rfl

/-- A row of the call's own of folders' lists, each of the call's own, none of them the row itself. -/
def FoldsOn (w : World) (B : Nat) (fv : Value) (E : List (List Ent)) : Prop :=
  ∃ vals : List Value, OwnV w B fv vals ∧ vals.length = E.length ∧ ∀ (i : Nat) (v : Value) (e : List Ent), vals[i]? = some v → E[i]? = some e → (OwnE w B v e ∧ (v.ownBlock = none ∨ v.ownBlock ≠ fv.ownBlock))
/-- A row of folders' lists, as it is read. -/
def Folds (w : World) (B : Nat) (fv : Value) (E : List (List Ent)) : Prop :=
  ∃ vals : List Value, Rd encV 1 w B fv vals ∧ vals.length = E.length ∧ ∀ (i : Nat) (v : Value) (e : List Ent), vals[i]? = some v → E[i]? = some e → Ents w B v e

theorem FoldsOn.nil (w : World) (B : Nat) : FoldsOn w B (.slice none 0 0) [] := ⟨[], Own.nil_, rfl, fun i v e h => by simp at h⟩
theorem FoldsOn.on {w w' : World} {B : Nat} {fv : Value} {E : List (List Ent)} (h : FoldsOn w B fv E) (hb : Below w.heap.size w w') : FoldsOn w' B fv E := by
  obtain ⟨vals, h1, h2, h3⟩ := h
  exact ⟨vals, h1.on hb, h2, fun i v e hv he => ⟨(h3 i v e hv he).1.on hb, (h3 i v e hv he).2⟩⟩
theorem FoldsOn.less {w : World} {B B' : Nat} {fv : Value} {E : List (List Ent)} (h : FoldsOn w B fv E) (hB : B' ≤ B) : FoldsOn w B' fv E := by
  obtain ⟨vals, h1, h2, h3⟩ := h
  exact ⟨vals, h1.less hB, h2, fun i v e hv he => ⟨(h3 i v e hv he).1.less hB, (h3 i v e hv he).2⟩⟩
theorem FoldsOn.lt {w : World} {B : Nat} {fv : Value} {E : List (List Ent)} (h : FoldsOn w B fv E) : ∀ g, fv.ownBlock = some g → B ≤ g ∧ g < w.heap.size := by
  obtain ⟨vals, h1, _, _⟩ := h
  exact h1.lt
theorem FoldsOn.rd {w : World} {B : Nat} {fv : Value} {E : List (List Ent)} (h : FoldsOn w B fv E) : Folds w w.heap.size fv E := by
  obtain ⟨vals, h1, h2, h3⟩ := h
  exact ⟨vals, Rd.of_own h1, h2, fun i v e hv he => Rd.of_own (h3 i v e hv he).1⟩
theorem Folds.on {w w' : World} {fv : Value} {E : List (List Ent)} (h : Folds w w.heap.size fv E) (hb : Below w.heap.size w w') : Folds w' w'.heap.size fv E := by
  obtain ⟨vals, h1, h2, h3⟩ := h
  exact ⟨vals, h1.on hb, h2, fun i v e hv he => (h3 i v e hv he).on hb⟩
theorem Folds.openN {w : World} {B n : Nat} {fv : Value} {E : List (List Ent)} (h : Folds w B fv E) (hn : E.length = n) :
    ∃ a c, fv = .slice a n c ∧ n ≤ c ∧ c ≤ 9223372036854775807 ∧
      ∀ i, i < n → ∃ (b o : Nat) (u : Value) (es : List Ent), a = some ⟨b, o, none⟩ ∧ b < B ∧ Hid (E[i]? = some es) ∧ w.cell? ⟨b, o + i, none⟩ = some u ∧ Ents w B u es := by
  obtain ⟨vals, h1, h2, h3⟩ := h
  have hvn : vals.length = n := h2.trans hn
  obtain ⟨a, c, hv, k1, k2, k3⟩ := Rd.openN h1 (fun _ => rfl) hvn
  refine ⟨a, c, hv, k1, k2, fun i hi => ?_⟩
  obtain ⟨b, o, u, ha, hb, hx, hc⟩ := k3 i hi
  obtain ⟨es, hes⟩ : ∃ es, E[i]? = some es := ⟨_, List.getElem?_eq_getElem (by omega)⟩
  exact ⟨b, o, u, es, ha, hb, hes, by simpa using hc 0 _ rfl, h3 i u es hx.out hes⟩
theorem flatV (vals : List Value) : vals.flatMap encV = vals := by
  induction vals with
  | nil => rfl
  | cons x r ih => rw [List.flatMap_cons, ih]; rfl
/-- The first so many of them. -/
theorem Folds.front {w : World} {B n c q : Nat} {a : Option Addr} {E : List (List Ent)} (h : Folds w B (.slice a n c) E) (hn : E.length = n) (hq : q ≤ n) : Folds w B (.slice a q c) (E.take q) := by
  obtain ⟨vals, ⟨a', c', hv, h1, h2, h3, h4⟩, hl, he⟩ := h
  simp only [Value.slice.injEq] at hv
  obtain ⟨rfl, e2, rfl⟩ := hv
  refine ⟨vals.take q, ⟨a, c, by rw [List.length_take, Nat.min_eq_left (by omega)], by rw [List.length_take]; omega, h2, by rw [flatV]; simp, fun h0 => ?_⟩, by rw [List.length_take, List.length_take, hl], fun i v e hv he' => ?_⟩
  · rw [List.length_take] at h0
    obtain ⟨b, o, rfl, hb, hat⟩ := h4 (by omega)
    refine ⟨b, o, rfl, hb, fun j u hu => hat j u ?_⟩
    rw [flatV] at hu ⊢
    rw [List.getElem?_take] at hu
    split at hu
    · exact hu
    · cases hu
  · rw [List.getElem?_take] at hv he'
    split at hv
    · rename_i hiq
      rw [if_pos hiq] at he'
      exact he i v e hv he'
    · cases hv
theorem Rd.frontS {w : World} {B n c q : Nat} {a : Option Addr} {xs : List ByteArray} (h : Strs w B (.slice a n c) xs) (hn : xs.length = n) (hq : q ≤ n) : Strs w B (.slice a q c) (xs.take q) := by
  obtain ⟨a', c', hv, h1, h2, h3, h4⟩ := h
  simp only [Value.slice.injEq] at hv
  obtain ⟨rfl, e2, rfl⟩ := hv
  have hf : ∀ l : List ByteArray, l.flatMap encS = l.map Value.string := fun l => by
    induction l with
    | nil => rfl
    | cons x r ih => rw [List.flatMap_cons, ih]; rfl
  refine ⟨a, c, by rw [List.length_take, Nat.min_eq_left (by omega)], by rw [List.length_take]; omega, h2, by rw [hf]; simp, fun h0 => ?_⟩
  rw [List.length_take] at h0
  obtain ⟨b, o, rfl, hb, hat⟩ := h4 (by omega)
  refine ⟨b, o, rfl, hb, fun j u hu => hat j u ?_⟩
  rw [hf] at hu ⊢
  rw [List.map_take, List.getElem?_take] at hu
  split at hu
  · exact hu
  · cases hu
theorem own_one {w : World} {B : Nat} {v : Value} {es : List Ent} (h : OwnE w B v es) : v.oneCell' = true := by
  rcases h.2 with ⟨rfl, _⟩ | ⟨g, cap, cur, rfl, _⟩ <;> rfl

section
variable {ops : Array Oper} {rest : List Oper} {o : Oper} {a : Act} {Q : Exit → Act → World → Prop} {w0 wr : World}
theorem push_folds (hgd : o.guard = none) (s x : Operand) (ho : o.op = .call { callee := .builtin .append, args := #[s, x], argTypes := #[86, 86] }) (B B0 : Nat) (v lv : Value) (E : List (List Ent)) (es : List Ent)
    (hown : FoldsOn wr B v E) (hl : OwnE wr B lv es) (hne : lv.ownBlock = none ∨ lv.ownBlock ≠ v.ownBlock) (hb : Below B0 w0 wr) (hB : B ≤ wr.heap.size) (hB0 : B0 ≤ B) (hs : a.eval s = v) (hx : a.eval x = .slice (some ⟨wr.heap.size, 0, none⟩) 1 1) (hn : E.length < 1099511627775)
    (h : ∀ v' w', FoldsOn w' B v' (E ++ [es]) → Below B0 w0 w' → B ≤ w'.heap.size → wr.grownBy w' v.ownBlock → OwnE w' B lv es → wpList Tryz.prog ops Q rest (a.put o.dst v') w') :
    wpList Tryz.prog ops Q (o :: rest) a (wr.alloc (.cells #[lv] 67)) := by
  obtain ⟨i0, hi, hz0, hz1, hz2⟩ := info_parts info_ents
  obtain ⟨vals, h1, h2, h3⟩ := hown
  refine wpList_push (enc := encV) hgd s x 86 ho B B0 67 i0 _ 1 24 Tryz.underlying86 hi hz0 hz1 hz2 rfl (by decide) v vals lv h1 hb hB hB0 hs hx rfl (by simpa using own_one hl) (by omega) (by decide) ?_
  intro v' w' hown' hb' hB' hg'
  have far : ∀ (u : Value) (e : List Ent), OwnE wr B u e → (u.ownBlock = none ∨ u.ownBlock ≠ v.ownBlock) → OwnE w' B u e ∧ (u.ownBlock = none ∨ u.ownBlock ≠ v'.ownBlock) := by
    intro u e hu hn'
    refine ⟨hu.kept hg'.1 hn', ?_⟩
    cases hub : u.ownBlock with
    | none => exact .inl rfl
    | some g =>
      refine .inr (fun e' => ?_)
      have hlt := hu.lt g hub
      rcases hg'.2 g e'.symm with h5 | h5
      · rcases hn' with h6 | h6
        · rw [hub] at h6; cases h6
        · exact h6 (by rw [hub, h5])
      · omega
  refine h v' w' ⟨vals ++ [lv], hown', by simp [h2], fun i u e hu he => ?_⟩ hb' hB' hg'.1 (far lv es hl hne).1
  by_cases hi : i < vals.length
  · rw [List.getElem?_append_left hi] at hu
    rw [List.getElem?_append_left (by omega)] at he
    have := h3 i u e hu he
    exact far u e this.1 this.2
  · rw [List.getElem?_append_right (by omega)] at hu he
    rw [h2] at hu
    have hi0 : i - E.length = 0 := by
      have := (List.getElem?_eq_some_iff.1 hu).1
      simp at this; omega
    rw [hi0] at hu he
    simp at hu he
    subst hu he
    exact far lv es hl hne
end

end Go.Proofs.YtachfmlfmpaddaaGreatDoor
